/- Parts of the proof, cut down to what it needs. -/
import Derived.Test.YtaahlckibpiphaaGreatDoorXCv
set_option linter.constructorNameAsVariable false
set_option linter.unusedSimpArgs false
set_option linter.unusedVariables false
namespace Go.Proofs.YtaahlckibpiphaaGreatDoor
open _root_.List renaming length → qa, flatMap → qb, length_append → qj, length_cons → qp, drop_zero → qq, map_nil → qr, map_append → qs, map_cons → qu, append_assoc → qA, length_nil → qB, getD_eq_getElem?_getD → qC, append_nil → qD, flatMap_cons → qE, nil_append → qG, flatMap_append → qH, cons_append → qI, mem_cons_of_mem → qL, flatMap_nil → qO, mem_cons_self → qP, getElem?_eq_some_iff → qQ, length_eq_zero_iff → qS, replicate → qV, range_zero → qW, getElem?_eq_getElem → qX, getElem?_append_left → qY, all_cons → qZ, mem_cons → q9, all_nil → ua, getElem?_set_ne → ue, range_succ → ug, take_length → uk, length_map → ul, eq_nil_of_length_eq_zero → um, all_eq_true → un, getElem?_append_right → uo, getElem?_set_self → uv, getElem?_eq_none → uw, take_append_drop → uA, mem_map → uH, mem_append → uI, range → uJ, set_cons_zero → uK, getElem?_cons_zero → uL, length_take → uR, mem_append_left → uT, length_drop → uU, set_cons_succ → uV, mem_append_right → uW, nodup_cons → vg, drop_drop → vo
open _root_.Option renaming bind_some → qk
open _root_.Nat renaming reduceEqDiff → qc, reduceLeDiff → qd, reduceAdd → qe, reduceMul → qf, reduceSub → qg, reduceLT → qh, zero_add → qn, le_refl → qx, add_zero → qF, lt_succ_self → qK, zero_le → qU, mul_le_mul_right → ud, lt_of_lt_of_le → ui, reduceMod → uj, add_assoc → ux, zero_mul → uy, le_trans → uB, sub_self → uQ, sub_zero → uZ, add_mul → u6, le_of_not_lt → u7
open _root_.Bool renaming not_false → qm, and_true → qo, or_true → qt, not_true → qv, and_false → qw, or_false → qz, and_self → qN, false_eq_true → uf, true_and → uh, true_or → uC, false_or → uF, false_and → u0
open _root_.Int renaming toNat → qT, toNat_natCast → uc
open _root_.BitVec renaming ofInt → qM, toNat → uz
open _root_.Array renaming getElem?_setIfInBounds_ne → uS, replicate → u5
open _root_.UInt8 renaming ofNat → ur
open Result renaming andThen_ok → ql
open Sem renaming run_bind → qy, run_pure → qR
open _root_.Go.Proofs.Tryz renaming prog → qi
section
set_option maxRecDepth 4000
set_option maxHeartbeats 1000000
open AM
def ZK.l9 (a0:List UInt8):Nat→Nat→Int→Option Int
 |0,_,_=>none
 |k9+1,p5,x6=>(if p5<qa a0 then ((ZK.l9 a0 k9) (p5+(vdA a0 p5).2) (IntKind.i64.wrap (x6+1))) else some x6)
def ZK (a0:List UInt8):Option Int:=
 (wh a0).bind fun r2=>(if (!r2)=true then some 0 else (ZK.l9 a0 xz 0 0))
theorem ZK.ok {a0 r}(h:ZK a0=some r):ACalls qi 167 [.str a0] [] (fun r' _=>r'=.int .i64 r):=by
 refine zx (rs:=[.tmp 2]) U Tryz.func167 rfl Tryz.ntmps167 rfl Tryz.call167 (by simp) ?_;refine zK [(0,.str a0)] ⟨rfl,trivial⟩ ?_;unfold ZK at h;refine O [0] ?_
 refine zd fun Z1 hZ1=>?_
 refine rc [0,6] fun K J=>?_
 obtain⟨r2,hr2,h⟩:=bind_some h;refine rnN 1 ?_;refine clN rfl rfl rfl ((wh.ok hr2).c _) ?_;refine rnN 1 ?_;refine nkN J ?_;refine zY (b:=(!r2)) rfl (fun hc3=>?_) (fun hc3=>?_)
 · rw[if_pos hc3] at h;refine O [2] ?_;cases h;exact rtA
 rw[Zc hc3] at h;apply zm;apply hZ1;refine O [0,3] ?_
 refine zd fun Z4 hZ4=>?_
 refine O [3,8] ?_;apply zq;refine yp (fun m L τ=>∃ (k9:Nat) (p5:Nat) (x6:Int),m=0+k9∧L=[(3,.int .i64 x6),(8,.it 0)]∧τ=([.iter a0 p5]:ze)∧ZK.l9 a0 k9 p5 x6=some r) _ ⟨xz,0,0,rfl,rfl,rfl,h⟩ .s ?_;rintro m L τ ⟨k9,p5,x6,rfl,rfl,rfl,h⟩
 rcases k9 with _|k9
 · cases h
 simp only[ZK.l9] at h
 by_cases hn10:p5<qa a0
 · rw[if_pos hn10] at h;have t11:=eq_true hn10
   refine rg U [3,8,10] fun K J=>?_
   simp only[go_sem,qh,qd,qc,qe,qf,qg,reduceIte,reduceCtorEq,vb9,if_true,if_false,t11];apply J
   refine zd fun Z12 hZ12=>?_
   refine zS rfl ?_;apply zm;apply hZ12;apply zq
   refine rgE U [3,8] fun K J=>?_
   simp only[go_sem,qh,qd,qc,qe,qf,qg,reduceIte,reduceCtorEq,Zp,t11];apply J
   exact⟨_,_,_,qK (0+k9),⟨k9,p5+(vdA a0 p5).2,IntKind.i64.wrap (x6+1),rfl,rfl,rfl,h⟩,.s⟩
 rw[if_neg hn10] at h;have t13:=eq_false hn10
 refine rg U [3,8,10] fun K J=>?_
 simp only[go_sem,qh,qd,qc,qe,qf,qg,reduceIte,reduceCtorEq,vb9,if_true,if_false,t13];apply J
 refine zd fun Z14 hZ14=>?_
 refine zQ rfl ?_;apply yl;apply hZ4;refine rgW [2] t13 ?_;cases h;exact rtA
def wD.j3 (x2:Bool):Bool:=
 (if x2=true then true else false)
def wD (a0:List UInt8):Bool:=
 (if a0=[115,99,104,101,109,97] then (wD.j3 (decide (a0=[115,99,104,101,109,97]))) else (if a0=[109,101,115,115,97,103,101] then (wD.j3 (decide (a0=[109,101,115,115,97,103,101]))) else (if a0=[101,110,117,109] then (wD.j3 (decide (a0=[101,110,117,109]))) else (if a0=[99,97,108,108] then (wD.j3 (decide (a0=[99,97,108,108]))) else (if a0=[114,101,116,117,114,110,115] then (wD.j3 (decide (a0=[114,101,116,117,114,110,115]))) else (if a0=[114,101,115,101,114,118,101,100] then (wD.j3 (decide (a0=[114,101,115,101,114,118,101,100]))) else (if a0=[111,112,116,105,111,110,97,108] then (wD.j3 (decide (a0=[111,112,116,105,111,110,97,108]))) else (if a0=[114,101,112,101,97,116,101,100] then (wD.j3 (decide (a0=[114,101,112,101,97,116,101,100]))) else (if a0=[105,110,116,51,50] then (wD.j3 (decide (a0=[105,110,116,51,50]))) else (if a0=[105,110,116,54,52] then (wD.j3 (decide (a0=[105,110,116,54,52]))) else (if a0=[98,111,111,108] then (wD.j3 (decide (a0=[98,111,111,108]))) else (if a0=[116,101,120,116] then (wD.j3 (decide (a0=[116,101,120,116]))) else (wD.j3 (decide (a0=[98,121,116,101,115])))))))))))))))
theorem wD.ok {a0 r}(h:wD a0=r):ACalls qi 168 [.str a0] [] (fun r' _=>r'=.bool r):=by
 refine zx (rs:=[.tmp 2]) U Tryz.func168 rfl Tryz.ntmps168 rfl Tryz.call168 (by simp) ?_;refine zK [(0,.str a0)] ⟨rfl,trivial⟩ ?_;unfold wD at h;refine O [0] ?_
 refine zd fun Z1 hZ1=>?_
 refine O [3] ?_;apply zq;refine xV (fun L τ=>∃ (x2:Bool),L=[(4,.bool x2)]∧τ=([]:ze)∧wD.j3 x2=r) ?_ ?_
 · refine rgW [3,4] qF ?_;refine yv rfl (fun hc5=>?_) (fun hc5=>?_)
   · rw[if_pos hc5] at h;have t6:=eq_true hc5;apply zm;exact⟨_,_,⟨decide (a0=[115,99,104,101,109,97]),rfl,rfl,h⟩,.s⟩
   rw[if_neg hc5] at h;have t7:=eq_false hc5;refine rgW [3,4] t7 ?_;refine yv rfl (fun hc8=>?_) (fun hc8=>?_)
   · rw[if_pos hc8] at h;have t9:=eq_true hc8;apply zm;exact⟨_,_,⟨decide (a0=[109,101,115,115,97,103,101]),rfl,rfl,h⟩,.s⟩
   rw[if_neg hc8] at h;have t10:=eq_false hc8;refine rgW [3,4] (aI t7 t10) ?_;refine yv rfl (fun hc11=>?_) (fun hc11=>?_)
   · rw[if_pos hc11] at h;have t12:=eq_true hc11;apply zm;exact⟨_,_,⟨decide (a0=[101,110,117,109]),rfl,rfl,h⟩,.s⟩
   rw[if_neg hc11] at h;have t13:=eq_false hc11;refine rgW [3,4] (aI t7 (aI t10 t13)) ?_;refine yv rfl (fun hc14=>?_) (fun hc14=>?_)
   · rw[if_pos hc14] at h;have t15:=eq_true hc14;apply zm;exact⟨_,_,⟨decide (a0=[99,97,108,108]),rfl,rfl,h⟩,.s⟩
   rw[if_neg hc14] at h;have t16:=eq_false hc14;refine rgW [3,4] (aI t7 (aI t10 (aI t13 t16))) ?_;refine yv rfl (fun hc17=>?_) (fun hc17=>?_)
   · rw[if_pos hc17] at h;have t18:=eq_true hc17;apply zm;exact⟨_,_,⟨decide (a0=[114,101,116,117,114,110,115]),rfl,rfl,h⟩,.s⟩
   rw[if_neg hc17] at h;have t19:=eq_false hc17;refine rgW [3,4] (aI t7 (aI t10 (aI t13 (aI t16 t19)))) ?_;refine yv rfl (fun hc20=>?_) (fun hc20=>?_)
   · rw[if_pos hc20] at h;have t21:=eq_true hc20;apply zm;exact⟨_,_,⟨decide (a0=[114,101,115,101,114,118,101,100]),rfl,rfl,h⟩,.s⟩
   rw[if_neg hc20] at h;have t22:=eq_false hc20;refine rgW [3,4] (aI t7 (aI t10 (aI t13 (aI t16 (aI t19 t22))))) ?_;refine yv rfl (fun hc23=>?_) (fun hc23=>?_)
   · rw[if_pos hc23] at h;have t24:=eq_true hc23;apply zm;exact⟨_,_,⟨decide (a0=[111,112,116,105,111,110,97,108]),rfl,rfl,h⟩,.s⟩
   rw[if_neg hc23] at h;have t25:=eq_false hc23;refine rgW [3,4] (aI t7 (aI t10 (aI t13 (aI t16 (aI t19 (aI t22 t25)))))) ?_;refine yv rfl (fun hc26=>?_) (fun hc26=>?_)
   · rw[if_pos hc26] at h;have t27:=eq_true hc26;apply zm;exact⟨_,_,⟨decide (a0=[114,101,112,101,97,116,101,100]),rfl,rfl,h⟩,.s⟩
   rw[if_neg hc26] at h;have t28:=eq_false hc26;refine rgW [3,4] (aI t7 (aI t10 (aI t13 (aI t16 (aI t19 (aI t22 (aI t25 t28))))))) ?_;refine yv rfl (fun hc29=>?_) (fun hc29=>?_)
   · rw[if_pos hc29] at h;have t30:=eq_true hc29;apply zm;exact⟨_,_,⟨decide (a0=[105,110,116,51,50]),rfl,rfl,h⟩,.s⟩
   rw[if_neg hc29] at h;have t31:=eq_false hc29;refine rgW [3,4] (aI t7 (aI t10 (aI t13 (aI t16 (aI t19 (aI t22 (aI t25 (aI t28 t31)))))))) ?_;refine yv rfl (fun hc32=>?_) (fun hc32=>?_)
   · rw[if_pos hc32] at h;have t33:=eq_true hc32;apply zm;exact⟨_,_,⟨decide (a0=[105,110,116,54,52]),rfl,rfl,h⟩,.s⟩
   rw[if_neg hc32] at h;have t34:=eq_false hc32;refine rgW [3,4] (aI t7 (aI t10 (aI t13 (aI t16 (aI t19 (aI t22 (aI t25 (aI t28 (aI t31 t34))))))))) ?_;refine yv rfl (fun hc35=>?_) (fun hc35=>?_)
   · rw[if_pos hc35] at h;have t36:=eq_true hc35;apply zm;exact⟨_,_,⟨decide (a0=[98,111,111,108]),rfl,rfl,h⟩,.s⟩
   rw[if_neg hc35] at h;have t37:=eq_false hc35;refine rgW [3,4] (aI t7 (aI t10 (aI t13 (aI t16 (aI t19 (aI t22 (aI t25 (aI t28 (aI t31 (aI t34 t37)))))))))) ?_;refine yv rfl (fun hc38=>?_) (fun hc38=>?_)
   · rw[if_pos hc38] at h;have t39:=eq_true hc38;apply zm;exact⟨_,_,⟨decide (a0=[116,101,120,116]),rfl,rfl,h⟩,.s⟩
   rw[if_neg hc38] at h;have t40:=eq_false hc38
   refine rgE U [4] fun K J=>?_
   simp only[go_sem,qh,qd,qc,qe,qf,qg,reduceIte,reduceCtorEq,Zp,t7,t10,t13,t16,t19,t22,t25,t28,t31,t34,t37,t40];apply J
   exact⟨_,_,⟨decide (a0=[98,121,116,101,115]),rfl,rfl,h⟩,.s⟩
 rintro _ _ ⟨x2,rfl,rfl,h⟩;unfold wD.j3 at h;refine zY (b:=x2) rfl (fun hc4=>?_) (fun hc4=>?_)
 · rw[if_pos hc4] at h;refine O [2] ?_;cases h;exact rtA
 rw[Zc hc4] at h;apply zm;apply hZ1;refine O [2] ?_;cases h;exact rtA
def YE (a0:Int)(a1:Int)(a2:Int):Bool:=
 ((decide (a1≤a0))&&(decide (a0≤a2)))
theorem YE.ok {a0 a1 a2 r}(h:YE a0 a1 a2=r):ACalls qi 212 [.int .i32 a0,.int .i32 a1,.int .i32 a2] [] (fun r' _=>r'=.bool r):=by
 refine zx (rs:=[.tmp 6]) U Tryz.func212 rfl Tryz.ntmps212 rfl Tryz.call212 (by simp) ?_;refine zK [(0,.int .i32 a0),(1,.int .i32 a1),(2,.int .i32 a2)] ⟨rfl,rfl,rfl,trivial⟩ ?_;unfold YE at h;refine O [0,1,2] ?_
 refine rc [6] fun K J=>?_
 refine rnW 4 qF ?_;refine cut 4 10 14 [] ((decide (a1≤a0))&&(decide (a0≤a2))) qF rfl ?_;refine rnN 1 ?_;refine nkN J ?_;cases h;exact rtA
def w8.j6 (a0:Int)(x5:Bool):Bool:=
 (if x5=true then false else bnd (YE a0 97 122) fun r8=>bnd (if r8=true then true else bnd (YE a0 65 90) fun r9=>r9) fun c9=>bnd (if c9=true then true else bnd (YE a0 192 591) fun r11=>r11) fun c11=>bnd (if c11=true then true else bnd (YE a0 913 969) fun r13=>r13) fun c13=>c13)
def w8 (a0:Int):Bool:=
 (if a0=95 then true else (if a0=215 then (w8.j6 a0 (decide (a0=215))) else (if a0=247 then (w8.j6 a0 (decide (a0=247))) else (w8.j6 a0 (decide (a0=930))))))
theorem w8.ok {a0 r}(h:w8 a0=r):ACalls qi 169 [.int .i32 a0] [] (fun r' _=>r'=.bool r):=by
 refine zx (rs:=[.tmp 2]) U Tryz.func169 rfl Tryz.ntmps169 rfl Tryz.call169 (by simp) ?_;refine zK [(0,.int .i32 a0)] ⟨rfl,trivial⟩ ?_;unfold w8 at h;refine O [0] ?_
 refine zd fun Z1 hZ1=>?_
 refine O [0,3] ?_;apply zq;refine rgW [0,3,4] qF ?_;refine yv rfl (fun hc2=>?_) (fun hc2=>?_)
 · rw[if_pos hc2] at h;have t3:=eq_true hc2;refine rgW [2] t3 ?_;cases h;exact rtA
 rw[if_neg hc2] at h;have t4:=eq_false hc2;refine xV (fun L τ=>∃ (x5:Bool),L=[(0,.int .i32 a0),(6,.bool x5)]∧τ=([]:ze)∧w8.j6 a0 x5=r) ?_ ?_
 · refine rgW [0,3,6] t4 ?_;refine yv rfl (fun hc15=>?_) (fun hc15=>?_)
   · rw[if_pos hc15] at h;have t16:=eq_true hc15;apply zm;exact⟨_,_,⟨decide (a0=215),rfl,rfl,h⟩,.s⟩
   rw[if_neg hc15] at h;have t17:=eq_false hc15;refine rgW [0,3,6] (aI t4 t17) ?_;refine yv rfl (fun hc18=>?_) (fun hc18=>?_)
   · rw[if_pos hc18] at h;have t19:=eq_true hc18;apply zm;exact⟨_,_,⟨decide (a0=247),rfl,rfl,h⟩,.s⟩
   rw[if_neg hc18] at h;have t20:=eq_false hc18
   refine rgE U [0,6] fun K J=>?_
   simp only[go_sem,qh,qd,qc,qe,qf,qg,reduceIte,reduceCtorEq,Zp,t4,t17,t20];apply J
   exact⟨_,_,⟨decide (a0=930),rfl,rfl,h⟩,.s⟩
 rintro _ _ ⟨x5,rfl,rfl,h⟩;unfold w8.j6 at h;refine zY (b:=x5) rfl (fun hc7=>?_) (fun hc7=>?_)
 · rw[if_pos hc7] at h;refine rgW [2] t4 ?_;cases h;exact rtA
 rw[Zc hc7] at h;apply zm;apply hZ1
 refine rc [2] fun K J=>?_
 obtain⟨r8,hr8,h⟩:=yq h;refine rnW 1 t4 ?_;refine clN rfl rfl rfl ((YE.ok hr8).c _) ?_;refine rnW 1 t4 ?_;obtain⟨c9,hc9,h⟩:=yq h;refine xi 3 (fun L τ=>L=[(0,.int .i32 a0),(15,.bool c9)]∧τ=([]:ze)) ?_ ?_
 · refine wA (b:=r8) 12 rfl (fun hg12=>?_) (fun hg12=>?_)
   · rw[if_pos hg12] at hc9;refine rnW 3 t4 ?_;subst hc9;refine zz ⟨rfl,_,_,⟨rfl,rfl⟩,.b hg12⟩
   rw[Zc hg12] at hc9;obtain⟨r10,hr10,hc9⟩:=yq hc9;refine rnW 1 t4 ?_;refine clN rfl rfl rfl ((YE.ok hr10).c _) ?_;refine rnW 1 t4 ?_;subst hc9;refine zz ⟨rfl,_,_,⟨rfl,rfl⟩,.b hg12⟩
 rintro _ _ ⟨rfl,rfl⟩;refine rnW 1 t4 ?_;obtain⟨c11,hc11,h⟩:=yq h;refine xi 3 (fun L τ=>L=[(0,.int .i32 a0),(19,.bool c11)]∧τ=([]:ze)) ?_ ?_
 · refine wA (b:=c9) 16 rfl (fun hg16=>?_) (fun hg16=>?_)
   · rw[if_pos hg16] at hc11;refine rnW 3 t4 ?_;subst hc11;refine zz ⟨rfl,_,_,⟨rfl,rfl⟩,.b hg16⟩
   rw[Zc hg16] at hc11;obtain⟨r12,hr12,hc11⟩:=yq hc11;refine rnW 1 t4 ?_;refine clN rfl rfl rfl ((YE.ok hr12).c _) ?_;refine rnW 1 t4 ?_;subst hc11;refine zz ⟨rfl,_,_,⟨rfl,rfl⟩,.b hg16⟩
 rintro _ _ ⟨rfl,rfl⟩;refine rnW 1 t4 ?_;obtain⟨c13,hc13,h⟩:=yq h;refine xi 3 (fun L τ=>L=[(23,.bool c13)]∧τ=([]:ze)) ?_ ?_
 · refine wA (b:=c11) 20 rfl (fun hg20=>?_) (fun hg20=>?_)
   · rw[if_pos hg20] at hc13;refine rnW 3 t4 ?_;subst hc13;refine zz ⟨rfl,_,_,⟨rfl,rfl⟩,.b hg20⟩
   rw[Zc hg20] at hc13;obtain⟨r14,hr14,hc13⟩:=yq hc13;refine rnW 1 t4 ?_;refine clN rfl rfl rfl ((YE.ok hr14).c _) ?_;refine rnW 1 t4 ?_;subst hc13;refine zz ⟨rfl,_,_,⟨rfl,rfl⟩,.b hg20⟩
 rintro _ _ ⟨rfl,rfl⟩;refine rnW 1 t4 ?_;refine nkN J ?_;cases h;exact rtA
def XV (a0:Int):Bool:=
 bnd (YE a0 48 57) fun r1=>r1
theorem XV.ok {a0 r}(h:XV a0=r):ACalls qi 170 [.int .i32 a0] [] (fun r' _=>r'=.bool r):=by
 refine zx (rs:=[.tmp 2]) U Tryz.func170 rfl Tryz.ntmps170 rfl Tryz.call170 (by simp) ?_;refine zK [(0,.int .i32 a0)] ⟨rfl,trivial⟩ ?_;unfold XV at h;refine O [0] ?_
 refine rc [2] fun K J=>?_
 obtain⟨r1,hr1,h⟩:=yq h;refine rnN 1 ?_;refine clN rfl rfl rfl ((YE.ok hr1).c _) ?_;refine rnN 1 ?_;refine nkN J ?_;cases h;exact rtA
def ZE.l11 (a0:List UInt8):Nat→Nat→Option Bool
 |0,_=>none
 |k11+1,p9=>(if p9<qa a0 then bnd (w8 ((vdA a0 p9).1:Int)) fun r15=>bnd (if (!r15)=true then bnd (if ((p9:Nat):Int)=0 then true else bnd (XV ((vdA a0 p9).1:Int)) fun r16 => !r16) fun c16=>c16 else false) fun c16=>(if c16=true then some false else ((ZE.l11 a0 k11) (p9+(vdA a0 p9).2))) else some true)
def ZE (a0:List UInt8):Option Bool:=
 (ZK a0).bind fun r1=>bnd (if ((decide (r1<1))||(decide (20<r1)))=true then true else bnd (wD a0) fun r5=>r5) fun c5=>(if c5=true then some false else (ZE.l11 a0 xz 0))
theorem ZE.ok {a0 r}(h:ZE a0=some r):ACalls qi 125 [.str a0] [] (fun r' _=>r'=.bool r):=by
 refine zx (rs:=[.tmp 2]) U Tryz.func125 rfl Tryz.ntmps125 rfl Tryz.call125 (by simp) ?_;refine zK [(0,.str a0)] ⟨rfl,trivial⟩ ?_;unfold ZE at h;refine O [0] ?_
 refine rc [0,3] fun K J=>?_
 obtain⟨r1,hr1,h⟩:=bind_some h;refine rnN 1 ?_;refine clN rfl rfl rfl ((ZK.ok hr1).c _) ?_;refine rnN 1 ?_;refine nkN J ?_
 refine zd fun Z2 hZ2=>?_
 refine rc [0,17] fun K J=>?_
 refine rnW 3 qF ?_;refine cut 3 10 13 [0] ((decide (r1<1))||(decide (20<r1))) qF rfl ?_;refine rnN 1 ?_;obtain⟨c5,hc5,h⟩:=yq h;refine xi 3 (fun L τ=>L=[(0,.str a0),(17,.bool c5)]∧τ=([]:ze)) ?_ ?_
 · refine wA (b:=((decide (r1<1))||(decide (20<r1)))) 14 rfl (fun hg14=>?_) (fun hg14=>?_)
   · rw[if_pos hg14] at hc5;refine rnN 3 ?_;subst hc5;refine zz ⟨rfl,_,_,⟨rfl,rfl⟩,.b hg14⟩
   rw[Zc hg14] at hc5;obtain⟨r6,hr6,hc5⟩:=yq hc5;refine rnN 1 ?_;refine clN rfl rfl rfl ((wD.ok hr6).c _) ?_;refine rnN 1 ?_;subst hc5;refine zz ⟨rfl,_,_,⟨rfl,rfl⟩,.b hg14⟩
 rintro _ _ ⟨rfl,rfl⟩;refine nkN J ?_;refine zY (b:=c5) rfl (fun hc7=>?_) (fun hc7=>?_)
 · rw[if_pos hc7] at h;refine O [2] ?_;cases h;exact rtA
 rw[Zc hc7] at h;apply zm;apply hZ2
 refine zd fun Z8 hZ8=>?_
 refine O [19] ?_;apply zq;refine yp (fun m L τ=>∃ (k11:Nat) (p9:Nat),m=0+k11∧L=[(19,.it 0)]∧τ=([.iter a0 p9]:ze)∧ZE.l11 a0 k11 p9=some r) _ ⟨xz,0,rfl,rfl,rfl,h⟩ .s ?_;rintro m L τ ⟨k11,p9,rfl,rfl,rfl,h⟩
 rcases k11 with _|k11
 · cases h
 simp only[ZE.l11] at h
 by_cases hn12:p9<qa a0
 · rw[if_pos hn12] at h;have t13:=eq_true hn12
   refine rg U [19,20,21] fun K J=>?_
   simp only[go_sem,qh,qd,qc,qe,qf,qg,reduceIte,reduceCtorEq,vb9,if_true,if_false,t13];apply J
   refine zd fun Z14 hZ14=>?_
   refine zS rfl ?_;apply zm;apply hZ14;apply zq;refine rgW [4,5,19] t13 ?_
   refine rc [19,35] fun K J=>?_
   obtain⟨r15,hr15,h⟩:=yq h;refine rnW 1 t13 ?_;refine clN rfl rfl rfl ((w8.ok hr15).c _) ?_;refine rnW 2 t13 ?_;obtain⟨c16,hc16,h⟩:=yq h;refine xi 8 (fun L τ=>L=[(19,.it 0),(35,.bool c16)]∧τ=([.iter a0 (p9+(vdA a0 p9).2)]:ze)) ?_ ?_
   · refine wA (b:=(!r15)) 27 rfl (fun hg27=>?_) (fun hg27=>?_)
     · rw[if_pos hg27] at hc16;refine rnW 3 t13 ?_;obtain⟨c17,hc17,hc16⟩:=yq hc16;refine xi 4 (fun L τ=>L=[(19,.it 0),(27,.bool true),(34,.bool c17)]∧τ=([.iter a0 (p9+(vdA a0 p9).2)]:ze)) ?_ ?_
       · refine Yw 30 rfl (fun hg30=>?_) (fun hg30=>?_)
         · have t18:=eq_true hg30;rw[if_pos hg30] at hc17;refine rnW 4 t13 ?_;subst hc17;refine zz ⟨rfl,_,_,⟨rfl,rfl⟩,.p t18⟩
         have t19:=eq_false hg30;rw[if_neg hg30] at hc17;obtain⟨r20,hr20,hc17⟩:=yq hc17;refine rnW 1 t13 ?_;refine clN rfl rfl rfl ((XV.ok hr20).c _) ?_;refine rnW 2 t13 ?_;subst hc17;refine zz ⟨rfl,_,_,⟨rfl,rfl⟩,.p t19⟩
       rintro _ _ ⟨rfl,rfl⟩;refine rnW 1 t13 ?_;subst hc16;refine zz ⟨rfl,_,_,⟨rfl,rfl⟩,.b hg27⟩
     rw[Zc hg27] at hc16;refine rnW 8 t13 ?_;subst hc16;refine zz ⟨rfl,_,_,⟨rfl,rfl⟩,.b hg27⟩
   rintro _ _ ⟨rfl,rfl⟩;refine nkN J ?_;refine zY (b:=c16) rfl (fun hc21=>?_) (fun hc21=>?_)
   · rw[if_pos hc21] at h;refine rgW [2] t13 ?_;cases h;exact rtA
   rw[Zc hc21] at h;apply zm;exact⟨_,_,_,qK (0+k11),⟨k11,p9+(vdA a0 p9).2,rfl,rfl,rfl,h⟩,.s⟩
 rw[if_neg hn12] at h;have t22:=eq_false hn12
 refine rg U [19,20,21] fun K J=>?_
 simp only[go_sem,qh,qd,qc,qe,qf,qg,reduceIte,reduceCtorEq,vb9,if_true,if_false,t22];apply J
 refine zd fun Z23 hZ23=>?_
 refine zQ rfl ?_;apply yl;apply hZ8;refine rgW [2] t22 ?_;cases h;exact rtA
def xI (a0:List (List UInt8×Bool))(a1:List UInt8):Option (Bool×List (List UInt8×Bool)):=
 (ZE a1).bind fun r2=>(if ((!r2)||((XE a0 a1).getD false))=true then some (false,a0) else some (true,vcn a0 a1 true))
theorem xI.ok {a0 a1 r}(h:xI a0 a1=some r):ACalls qi 128 [.mp 0,.str a1] [.map (y0 AV.str AV.bool a0)] (fun r' σ'=>r'=.bool r.1∧σ'=[.map (y0 AV.str AV.bool r.2)]):=by
 refine Zx [0] (rs:=[.tmp 4]) U Tryz.func128 rfl Tryz.ntmps128 rfl Tryz.call128 (by simp) rfl ?_;refine zK [(0,.mp 0),(1,.str a1)] ⟨rfl,rfl,trivial⟩ ?_;unfold xI at h;refine O [0,1] ?_
 refine zd fun Z1 hZ1=>?_
 refine rc [0,1,12] fun K J=>?_
 obtain⟨r2,hr2,h⟩:=bind_some h;refine rnN 1 ?_;refine clN rfl rfl rfl ((ZE.ok hr2).c _) ?_;refine rnN 2 ?_;refine xi 4 (fun L τ=>L=[(0,.mp 0),(1,.str a1),(12,.bool ((!r2)||((XE a0 a1).getD false)))]∧τ=([.map (y0 AV.str AV.bool a0)]:ze)) ?_ ?_
 · refine wA (b:=(!r2)) 8 rfl (fun hg8=>?_) (fun hg8=>?_)
   · refine xE U 4 ?_;simp only[go_sem,qh,qd,qc,qe,qf,qg,reduceIte,reduceCtorEq,Xv,uf,if_false,if_true];refine zz ⟨rfl,_,_,⟨rfl,rfl⟩,.b hg8⟩
   have f3:=fun (x:ze)=>vaL (T:=tab) (t:=202) (ek:=AV.str) (ev:=AV.bool) (z:=false) (vc8.str rfl rfl rfl rfl) rfl rfl rfl rfl a0 a1 false (.map (y0 AV.str AV.bool a0)::x) 0 rfl
   refine xE U 4 ?_;simp only[go_sem,qh,qd,qc,qe,qf,qg,reduceIte,reduceCtorEq,Xv,uf,if_false,if_true,f3];refine zz ⟨rfl,_,_,⟨rfl,rfl⟩,.b hg8⟩
 rintro _ _ ⟨rfl,rfl⟩;refine nkN J ?_;refine zY (b:=((!r2)||((XE a0 a1).getD false))) rfl (fun hc4=>?_) (fun hc4=>?_)
 · rw[if_pos hc4] at h;refine O [4] ?_;apply yg;cases h;simp only[ZA,yQ,y5,xN,exists_eq_left',go_sem,qh,qd,qc,qe,qf,qg,reduceIte,reduceCtorEq];refine⟨by decide,by simp,?_,?_⟩
   · first|rfl|(simp only[go_sem,qh,qd,qc,qe,qf,qg,reduceIte,reduceCtorEq,push_cast,if_true,qq,qn,qu,qr,qs,qt,qz,qo,qw,qv,qm,zw]<;>rfl)
   first|rfl|(simp only[go_sem,qh,qd,qc,qe,qf,qg,reduceIte,reduceCtorEq,push_cast,if_true,qq,qn,qu,qr,qs,qt,qz,qo,qw,qv,qm,zw]<;>rfl)
 rw[Zc hc4] at h;apply zm;apply hZ1
 have f5:=fun (x:ze)=>vbY (T:=tab) (t:=202) (ek:=AV.str) (ev:=AV.bool) (vc8.str rfl rfl rfl rfl) rfl rfl a0 a1 true (.map (y0 AV.str AV.bool a0)::x) 0 rfl
 refine rgW [] f5 ?_;refine O [4] ?_;apply yg;cases h;simp only[ZA,yQ,y5,xN,exists_eq_left',go_sem,qh,qd,qc,qe,qf,qg,reduceIte,reduceCtorEq];refine⟨by decide,by simp,?_,?_⟩
 · first|rfl|(simp only[go_sem,qh,qd,qc,qe,qf,qg,reduceIte,reduceCtorEq,push_cast,if_true,qq,qn,qu,qr,qs,qt,qz,qo,qw,qv,qm,zw]<;>rfl)
 first|rfl|(simp only[go_sem,qh,qd,qc,qe,qf,qg,reduceIte,reduceCtorEq,push_cast,if_true,qq,qn,qu,qr,qs,qt,qz,qo,qw,qv,qm,zw]<;>rfl)
def XY (a0:Int):Bool:=
 ((decide (1≤a0))&&(decide (a0≤500)))
theorem XY.ok {a0 r}(h:XY a0=r):ACalls qi 171 [.int .i64 a0] [] (fun r' _=>r'=.bool r):=by
 refine zx (rs:=[.tmp 2]) U Tryz.func171 rfl Tryz.ntmps171 rfl Tryz.call171 (by simp) ?_;refine zK [(0,.int .i64 a0)] ⟨rfl,trivial⟩ ?_;unfold XY at h;refine O [0] ?_
 refine rc [2] fun K J=>?_
 refine rnW 3 qF ?_;refine cut 3 5 8 [] ((decide (1≤a0))&&(decide (a0≤500))) qF rfl ?_;refine rnN 1 ?_;refine nkN J ?_;cases h;exact rtA
def ZZ.l4 (a1:List UInt8):List wv→Int→wv×Bool
 |[],x2=>((⟨[],([]:List vdH)⟩:wv),false)
 |y4::q4,x2=>(if y4.fName=a1 then (y4,true) else ((ZZ.l4 a1 q4) (x2+1)))
def ZZ (a0:zB)(a1:List UInt8):wv×Bool:=
 (ZZ.l4 a1 a0.fEnums 0)
theorem ZZ.ok {a0 a1 r}(h:ZZ a0 a1=r):ACalls qi 213 [.agg (za a0),.str a1] [] (fun r' _=>r'=.tup [.agg (zk r.1),.bool r.2]):=by
 refine zx (rs:=[.cell 4 142,.tmp 5]) U Tryz.func213 rfl Tryz.ntmps213 rfl Tryz.call213 (by simp) ?_;refine zK [(0,.agg (za a0)),(1,.str a1)] ⟨rfl,rfl,trivial⟩ ?_;unfold ZZ at h;refine rgW [1,2,4] @za.eq_1 ?_
 refine zd fun Z1 hZ1=>?_
 refine O [1,4,9,10,11] ?_;apply zq
 refine xr 9 fun hb4=>?_
 replace hb4:qa a0.fEnums≤9223372036854775807:=hb4.1;refine yp (fun m L τ=>∃ (p4 q4:List wv) (x2:Int),m=qa q4∧L=[(1,.str a1),(4,.op 0 0 0),(9,.ds true (qb zk a0.fEnums) (qa a0.fEnums) false),(10,.int .i64 (qa a0.fEnums:Int)),(11,.int .i64 x2)]∧τ=([.cells 0 [.str [],.ds true [] 0 true]]:ze)∧a0.fEnums=p4++q4∧x2=(qa p4:Int)∧ZZ.l4 a1 q4 x2=r) _ ⟨[],a0.fEnums,0,rfl,rfl,rfl,rfl,rfl,h⟩ (.t [1] false) ?_;rintro m L τ ⟨p4,q4,x2,rfl,rfl,rfl,hE4,hi4,h⟩
 rcases q4 with _|⟨y4,q4⟩
 · have hz4:=xM hE4 hi4;simp only[ZZ.l4] at h;refine rgW [1,4,9,10,11,12] hz4 ?_
   refine zd fun Z5 hZ5=>?_
   refine zQ rfl ?_;apply yl;apply hZ1;refine rgW [4,5] (aI @zk.eq_1 hz4) ?_;cases h;exact rtA
 obtain⟨hz4,hw4,hx4,hE'4,hi'4⟩:=xq hE4 hi4 hb4;simp only[ZZ.l4] at h;refine rgW [1,4,9,10,11,12] (aI hz4 hw4) ?_
 refine zd fun Z6 hZ6=>?_
 refine zS rfl ?_;apply zm;apply hZ6
 refine zd fun Z7 hZ7=>?_
 apply zq;have f8:=E28.idxS hx4;have f9:=E28.loadS rfl rfl hx4;refine rgW [1,4,7,9,10,11] (aI @zk.eq_1 (aI hz4 (aI hw4 (aI f8 f9)))) ?_;refine rgW [1,4,7,9,10,11,18] (aI hz4 hw4) ?_;refine yv rfl (fun hc10=>?_) (fun hc10=>?_)
 · rw[if_pos hc10] at h;have t11:=eq_true hc10;refine rgW [4,5] (aI @zk.eq_1 (aI hz4 (aI hw4 t11))) ?_;cases h;exact rtA
 rw[if_neg hc10] at h;have t12:=eq_false hc10;apply zm;apply hZ7
 refine rgE U [1,4,9,10,11] fun K J=>?_
 simp only[go_sem,qh,qd,qc,qe,qf,qg,reduceIte,reduceCtorEq,Zp,hz4,hw4,t12];apply J
 exact⟨_,_,_,qK q4.length,⟨p4++[y4],q4,x2+1,rfl,rfl,rfl,hE'4,hi'4,h⟩,(.t [0] false)⟩
def XZ (a0:zB)(a1:ZB):Bool:=
 (if a1.fType.fKind=6 then bnd (ZZ a0 a1.fType.fName) fun r6=>(((decide (1≤a1.fLabel))&&(decide (a1.fLabel≤3)))&&r6.2) else (if a1.fType.fKind=7 then bnd (yw a0 a1.fType.fName) fun r10=>(((decide (1≤a1.fLabel))&&(decide (a1.fLabel≤3)))&&r10.2) else (((((decide (1≤a1.fLabel))&&(decide (a1.fLabel≤3)))&&(decide (1≤a1.fType.fKind)))&&(decide (a1.fType.fName=[])))&&(decide (a1.fType.fKind<6)))))
theorem XZ.ok {a0 a1 r}(h:XZ a0 a1=r):ACalls qi 172 [.agg (za a0),.agg (yB a1)] [] (fun r' _=>r'=.bool r):=by
 refine zx (rs:=[.tmp 4]) U Tryz.func172 rfl Tryz.ntmps172 rfl Tryz.call172 (by simp) ?_;refine zK [(0,.agg (za a0)),(1,.agg (yB a1))] ⟨rfl,rfl,trivial⟩ ?_;unfold XZ at h;refine rgW [2,3] (aI @yB.eq_1 (aI @za.eq_1 @xp.eq_1)) ?_
 refine rc [2,3,5] fun K J=>?_
 refine rnW 4 qF ?_;refine cut 4 13 17 [2,3] ((decide (1≤a1.fLabel))&&(decide (a1.fLabel≤3))) qF rfl ?_;refine rnN 1 ?_;refine nkN J ?_
 refine zd fun Z3 hZ3=>?_
 refine O [2,3,5,20] ?_;apply zq;refine rgW [2,3,5,20,21] qF ?_;refine yv rfl (fun hc4=>?_) (fun hc4=>?_)
 · rw[if_pos hc4] at h;have t5:=eq_true hc4
   refine rc [5,7] fun K J=>?_
   obtain⟨r6,hr6,h⟩:=yq h;refine rnW 4 (aI @za.eq_1 t5) ?_;refine clN rfl rfl rfl ((ZZ.ok hr6).c _) ?_;refine rnW 6 (aI @zk.eq_1 (aI @za.eq_1 t5)) ?_;refine nkN J ?_
   refine rc [4] fun K J=>?_
   refine rnW 2 t5 ?_;refine cut (b:=((decide (1≤a1.fLabel))&&(decide (a1.fLabel≤3)))) (hb:=boolP_eq _) 2 32 34 [] (((decide (1≤a1.fLabel))&&(decide (a1.fLabel≤3)))&&r6.2) t5 rfl ?_;refine rnW 1 t5 ?_;refine nkN J ?_;cases h;exact rtA
 rw[if_neg hc4] at h;have t7:=eq_false hc4;refine rgW [2,3,5,35] t7 ?_;refine yv rfl (fun hc8=>?_) (fun hc8=>?_)
 · rw[if_pos hc8] at h;have t9:=eq_true hc8
   refine rc [5,9] fun K J=>?_
   obtain⟨r10,hr10,h⟩:=yq h;refine rnW 4 (aI @za.eq_1 (aI t7 t9)) ?_;refine clN rfl rfl rfl ((yw.ok hr10).c _) ?_;refine rnW 6 (aI @zh.eq_1 (aI @za.eq_1 (aI t7 t9))) ?_;refine nkN J ?_
   refine rc [4] fun K J=>?_
   refine rnW 2 (aI t7 t9) ?_;refine cut (b:=((decide (1≤a1.fLabel))&&(decide (a1.fLabel≤3)))) (hb:=boolP_eq _) 2 46 48 [] (((decide (1≤a1.fLabel))&&(decide (a1.fLabel≤3)))&&r10.2) (aI t7 t9) rfl ?_;refine rnW 1 (aI t7 t9) ?_;refine nkN J ?_;cases h;exact rtA
 rw[if_neg hc8] at h;have t11:=eq_false hc8;apply zm;apply hZ3
 refine rc [4] fun K J=>?_
 refine rnW 2 (aI t7 t11) ?_;refine cut (b:=((decide (1≤a1.fLabel))&&(decide (a1.fLabel≤3)))) (hb:=boolP_eq _) 5 50 55 [3] (((decide (1≤a1.fLabel))&&(decide (a1.fLabel≤3)))&&(decide (1≤a1.fType.fKind))) (aI t7 t11) rfl ?_;refine rnW 1 (aI t7 t11) ?_;refine xi 8 (fun L τ=>L=[(3,.op 1 0 0),(64,.bool ((((decide (1≤a1.fLabel))&&(decide (a1.fLabel≤3)))&&(decide (1≤a1.fType.fKind)))&&(decide (a1.fType.fName=[]))))]∧τ=([.cells 0 (za a0),.cells 0 (yB a1)]:ze)) ?_ ?_
 · refine wA (b:=(((decide (1≤a1.fLabel))&&(decide (a1.fLabel≤3)))&&(decide (1≤a1.fType.fKind)))) 56 rfl (fun hg56=>?_) (fun hg56=>?_)
   · refine xE U 8 ?_;simp only[go_sem,qh,qd,qc,qe,qf,qg,reduceIte,reduceCtorEq,Zp,xp,t7,t11,evEqA,vab,ceq];refine zz ⟨rfl,_,_,⟨rfl,rfl⟩,.b hg56⟩
   refine rnW 8 (aI @xp.eq_1 (aI t7 t11)) ?_;refine zz ⟨rfl,_,_,⟨rfl,rfl⟩,.b hg56⟩
 rintro _ _ ⟨rfl,rfl⟩;refine rnW 1 (aI @xp.eq_1 (aI t7 t11)) ?_;refine cut (b:=((((decide (1≤a1.fLabel))&&(decide (a1.fLabel≤3)))&&(decide (1≤a1.fType.fKind)))&&(decide (a1.fType.fName=[])))) (hb:=boolP_eq _) 5 65 70 [] (((((decide (1≤a1.fLabel))&&(decide (a1.fLabel≤3)))&&(decide (1≤a1.fType.fKind)))&&(decide (a1.fType.fName=[])))&&(decide (a1.fType.fKind<6))) (aI @xp.eq_1 (aI t7 t11)) rfl ?_;refine rnW 1 (aI @xp.eq_1 (aI t7 t11)) ?_;refine nkN J ?_;cases h;exact rtA
def xU.l21 (a0:zB)(r2:Bool×List (List UInt8×Bool)):List ZB→Int→List (Int×Bool)→List (List UInt8×Bool)→Option (Int×List (List UInt8×Bool))
 |[],x17,l15,l16=>some (0,r2.2)
 |y21::q21,x17,l15,l16=>(xI l16 y21.fName).bind fun r28=>(if (!r28.1)=true then some (6,r2.2) else bnd (XY y21.fTag) fun r30=>(if ((!r30)||((XE l15 y21.fTag).getD false))=true then some (7,r2.2) else bnd (XZ a0 y21) fun r33=>(if (!r33)=true then some (8,r2.2) else ((xU.l21 a0 r2 q21) (x17+1) (vcn l15 y21.fTag true) r28.2))))
def xU.l12 (a0:zB)(a2:z8)(r2:Bool×List (List UInt8×Bool)):List Int→Int→List (Int×Bool)→Option (Int×List (List UInt8×Bool))
 |[],x9,l8=>(xU.l21 a0 r2 a2.fFields 0 l8 [])
 |y12::q12,x9,l8=>bnd (XY y12) fun r41=>(if ((!r41)||((XE l8 y12).getD false))=true then some (7,r2.2) else ((xU.l12 a0 a2 r2 q12) (x9+1) (vcn l8 y12 true)))
def xU (a0:zB)(a1:List (List UInt8×Bool))(a2:z8):Option (Int×List (List UInt8×Bool)):=
 (xI a1 a2.fName).bind fun r2=>(if (!r2.1)=true then some (6,r2.2) else (if ((decide (16<(qa a2.fFields:Int)))||(decide (32<(qa a2.fReserved:Int))))=true then some (4,r2.2) else (xU.l12 a0 a2 r2 a2.fReserved 0 [])))
theorem xU.ok {a0 a1 a2 r}(h:xU a0 a1 a2=some r):ACalls qi 126 [.agg (za a0),.mp 0,.agg (zh a2)] [.map (y0 AV.str AV.bool a1)] (fun r' σ'=>r'=.int .i64 r.1∧σ'=[.map (y0 AV.str AV.bool r.2)]):=by
 refine Zx [0] (rs:=[.tmp 6]) U Tryz.func126 rfl Tryz.ntmps126 rfl Tryz.call126 (by simp) rfl ?_;refine zK [(0,.agg (za a0)),(1,.mp 0),(2,.agg (zh a2))] ⟨rfl,rfl,rfl,trivial⟩ ?_;unfold xU at h;refine rgW [1,3,5] (aI @zh.eq_1 @za.eq_1) ?_
 refine zd fun Z1 hZ1=>?_
 apply zq
 refine rc [3,5,13] fun K J=>?_
 obtain⟨r2,hr2,h⟩:=bind_some h;refine rnN 3 ?_;refine clN rfl rfl rfl (@id (ACalls qi 128 [.mp 0,.str a2.fName] [.map (y0 AV.str AV.bool a1),.cells 0 (za a0),.cells 0 (zh a2)] (fun r' σ'=>r'=.bool r2.1∧σ'=[.map (y0 AV.str AV.bool r2.2),.cells 0 (za a0),.cells 0 (zh a2)])) ((xI.ok hr2).i [0])) ?_;refine rnN 2 ?_;refine nkN J ?_;refine zY (b:=(!r2.1)) rfl (fun hc3=>?_) (fun hc3=>?_)
 · rw[if_pos hc3] at h;refine O [6] ?_;apply yg;cases h;simp only[ZA,yQ,y5,xN,exists_eq_left',go_sem,qh,qd,qc,qe,qf,qg,reduceIte,reduceCtorEq];refine⟨by decide,by simp,?_,?_⟩
   · first|rfl|(simp only[go_sem,qh,qd,qc,qe,qf,qg,reduceIte,reduceCtorEq,push_cast,if_true,qq,qn,qu,qr,qs,qt,qz,qo,qw,qv,qm,zw]<;>rfl)
   first|rfl|(simp only[go_sem,qh,qd,qc,qe,qf,qg,reduceIte,reduceCtorEq,push_cast,if_true,qq,qn,qu,qr,qs,qt,qz,qo,qw,qv,qm,zw]<;>rfl)
 rw[Zc hc3] at h
 refine rc [3,5,19] fun K J=>?_
 refine rnW 5 qF ?_;refine cut 5 24 29 [3,5] ((decide (16<(qa a2.fFields:Int)))||(decide (32<(qa a2.fReserved:Int)))) qF rfl ?_;refine rnN 1 ?_;refine nkN J ?_;refine zY (b:=((decide (16<(qa a2.fFields:Int)))||(decide (32<(qa a2.fReserved:Int))))) rfl (fun hc6=>?_) (fun hc6=>?_)
 · rw[if_pos hc6] at h;refine O [6] ?_;apply yg;cases h;simp only[ZA,yQ,y5,xN,exists_eq_left',go_sem,qh,qd,qc,qe,qf,qg,reduceIte,reduceCtorEq];refine⟨by decide,by simp,?_,?_⟩
   · first|rfl|(simp only[go_sem,qh,qd,qc,qe,qf,qg,reduceIte,reduceCtorEq,push_cast,if_true,qq,qn,qu,qr,qs,qt,qz,qo,qw,qv,qm,zw]<;>rfl)
   first|rfl|(simp only[go_sem,qh,qd,qc,qe,qf,qg,reduceIte,reduceCtorEq,push_cast,if_true,qq,qn,qu,qr,qs,qt,qz,qo,qw,qv,qm,zw]<;>rfl)
 rw[Zc hc6] at h;apply zm;apply hZ1;refine O [3,5,7] ?_;refine Xl 3 rfl (τ:=[.map (y0 AV.str AV.bool r2.2),.cells 0 (za a0),.cells 0 (zh a2),.map (y0 (AV.int .i64) AV.bool [])]) rfl ?_;refine xB (L:=[(3,.op 1 0 0),(5,.op 2 0 0),(7,.mp 3)]) (τ:=[.map (y0 AV.str AV.bool r2.2),.cells 0 (za a0),.cells 0 (zh a2),.map (y0 (AV.int .i64) AV.bool [])]) .s ?_
 refine zd fun Z7 hZ7=>?_
 refine O [3,5,7,32,33,34] ?_;apply zq
 refine xr 32 fun hb12=>?_
 replace hb12:qa a2.fReserved≤9223372036854775807:=hb12.1;refine yp (fun m L τ=>∃ (p12 q12:List Int) (x9:Int) (l8:List (Int×Bool)),m=qa q12∧L=[(3,.op 1 0 0),(5,.op 2 0 0),(7,.mp 3),(32,.ds true (qb wJ a2.fReserved) (qa a2.fReserved) false),(33,.int .i64 (qa a2.fReserved:Int)),(34,.int .i64 x9)]∧τ=([.map (y0 AV.str AV.bool r2.2),.cells 0 (za a0),.cells 0 (zh a2),.map (y0 (AV.int .i64) AV.bool l8)]:ze)∧a2.fReserved=p12++q12∧x9=(qa p12:Int)∧xU.l12 a0 a2 r2 q12 x9 l8=some r) _ ⟨[],a2.fReserved,0,[],rfl,rfl,rfl,rfl,rfl,h⟩ .s ?_;rintro m L τ ⟨p12,q12,x9,l8,rfl,rfl,rfl,hE12,hi12,h⟩
 rcases q12 with _|⟨y12,q12⟩
 · have hz12:=xM hE12 hi12;simp only[xU.l12] at h;refine rgW [3,5,7,32,33,34,35] hz12 ?_
   refine zd fun Z13 hZ13=>?_
   refine zQ rfl ?_;apply yl;apply hZ7;refine rgW [3,5,7,10] hz12 ?_;refine Xl 4 rfl (τ:=[.map (y0 AV.str AV.bool r2.2),.cells 0 (za a0),.cells 0 (zh a2),.map (y0 (AV.int .i64) AV.bool l8),.map (y0 AV.str AV.bool [])]) rfl ?_;refine xB (L:=[(3,.op 1 0 0),(5,.op 2 0 0),(7,.mp 3),(10,.mp 4)]) (τ:=[.map (y0 AV.str AV.bool r2.2),.cells 0 (za a0),.cells 0 (zh a2),.map (y0 (AV.int .i64) AV.bool l8),.map (y0 AV.str AV.bool [])]) .s ?_
   refine zd fun Z14 hZ14=>?_
   refine rgW [3,7,10,51,52,53] hz12 ?_;apply zq
   refine xr 51 fun hb21=>?_
   replace hb21:qa a2.fFields≤9223372036854775807:=hb21.1;refine yp (fun m L τ=>∃ (p21 q21:List ZB) (x17:Int) (l15:List (Int×Bool)) (l16:List (List UInt8×Bool)),m=qa q21∧L=[(3,.op 1 0 0),(7,.mp 2),(10,.mp 3),(51,.ds true (qb yB a2.fFields) (qa a2.fFields) false),(52,.int .i64 (qa a2.fFields:Int)),(53,.int .i64 x17)]∧τ=([.map (y0 AV.str AV.bool r2.2),.cells 0 (za a0),.map (y0 (AV.int .i64) AV.bool l15),.map (y0 AV.str AV.bool l16)]:ze)∧a2.fFields=p21++q21∧x17=(qa p21:Int)∧xU.l21 a0 r2 q21 x17 l15 l16=some r) _ ⟨[],a2.fFields,0,l8,[],rfl,rfl,rfl,rfl,rfl,h⟩ (.t [0,1,3,4] false) ?_;rintro m L τ ⟨p21,q21,x17,l15,l16,rfl,rfl,rfl,hE21,hi21,h⟩
   rcases q21 with _|⟨y21,q21⟩
   · have hz21:=xM hE21 hi21;simp only[xU.l21] at h;refine rgW [3,7,10,51,52,53,54] (aI hz12 hz21) ?_
     refine zd fun Z22 hZ22=>?_
     refine zQ rfl ?_;apply yl;apply hZ14;refine rgW [6] (aI hz12 hz21) ?_;apply yg;cases h;simp only[ZA,yQ,y5,xN,exists_eq_left',go_sem,qh,qd,qc,qe,qf,qg,reduceIte,reduceCtorEq];refine⟨by decide,by simp,?_,?_⟩
     · first|rfl|(simp only[go_sem,qh,qd,qc,qe,qf,qg,reduceIte,reduceCtorEq,push_cast,if_true,qq,qn,qu,qr,qs,qt,qz,qo,qw,qv,qm,zw]<;>rfl)
     first|rfl|(simp only[go_sem,qh,qd,qc,qe,qf,qg,reduceIte,reduceCtorEq,push_cast,if_true,qq,qn,qu,qr,qs,qt,qz,qo,qw,qv,qm,zw]<;>rfl)
   obtain⟨hz21,hw21,hx21,hE'21,hi'21⟩:=xq hE21 hi21 hb21;simp only[xU.l21] at h;refine rgW [3,7,10,51,52,53,54] (aI hz12 (aI hz21 hw21)) ?_
   refine zd fun Z23 hZ23=>?_
   refine zS rfl ?_;apply zm;apply hZ23
   refine zd fun Z24 hZ24=>?_
   apply zq;have f25:=E127.idxS hx21;have f26:=E127.loadS rfl rfl hx21;refine rgW [3,7,10,12,51,52,53] (aI @yB.eq_1 (aI @xp.eq_1 (aI hz12 (aI hz21 (aI hw21 (aI f25 f26)))))) ?_
   refine zd fun Z27 hZ27=>?_
   apply zq
   refine rc [3,7,10,12,51,52,53,57] fun K J=>?_
   obtain⟨r28,hr28,h⟩:=bind_some h;refine rnW 3 (aI hz12 (aI hz21 hw21)) ?_;refine clN rfl rfl rfl (@id (ACalls qi 128 [.mp 3,.str y21.fName] [.map (y0 AV.str AV.bool r2.2),.cells 0 (za a0),.map (y0 (AV.int .i64) AV.bool l15),.map (y0 AV.str AV.bool l16),.cells 0 (yB y21)] (fun r' σ'=>r'=.bool r28.1∧σ'=[.map (y0 AV.str AV.bool r2.2),.cells 0 (za a0),.map (y0 (AV.int .i64) AV.bool l15),.map (y0 AV.str AV.bool r28.2),.cells 0 (yB y21)])) ((xI.ok hr28).i [3])) ?_;refine rnW 2 (aI hz12 (aI hz21 hw21)) ?_;refine nkN J ?_;refine zY (b:=(!r28.1)) rfl (fun hc29=>?_) (fun hc29=>?_)
   · rw[if_pos hc29] at h;refine rgW [6] (aI hz12 (aI hz21 hw21)) ?_;apply yg;cases h;simp only[ZA,yQ,y5,xN,exists_eq_left',go_sem,qh,qd,qc,qe,qf,qg,reduceIte,reduceCtorEq];refine⟨by decide,by simp,?_,?_⟩
     · first|rfl|(simp only[go_sem,qh,qd,qc,qe,qf,qg,reduceIte,reduceCtorEq,push_cast,if_true,qq,qn,qu,qr,qs,qt,qz,qo,qw,qv,qm,zw]<;>rfl)
     first|rfl|(simp only[go_sem,qh,qd,qc,qe,qf,qg,reduceIte,reduceCtorEq,push_cast,if_true,qq,qn,qu,qr,qs,qt,qz,qo,qw,qv,qm,zw]<;>rfl)
   rw[Zc hc29] at h
   refine rc [3,7,10,12,51,52,53,63] fun K J=>?_
   obtain⟨r30,hr30,h⟩:=yq h;refine rnW 2 (aI hz12 (aI hz21 hw21)) ?_;refine clN rfl rfl rfl ((XY.ok hr30).c _) ?_;refine rnW 2 (aI hz12 (aI hz21 hw21)) ?_;refine xi 5 (fun L τ=>L=[(3,.op 1 0 0),(7,.mp 2),(10,.mp 3),(12,.op 4 0 0),(51,.ds true (qb yB a2.fFields) (qa a2.fFields) false),(52,.int .i64 (qa a2.fFields:Int)),(53,.int .i64 x17),(73,.bool ((!r30)||((XE l15 y21.fTag).getD false)))]∧τ=([.map (y0 AV.str AV.bool r2.2),.cells 0 (za a0),.map (y0 (AV.int .i64) AV.bool l15),.map (y0 AV.str AV.bool r28.2),.cells 0 (yB y21)]:ze)) ?_ ?_
   · refine wA (b:=(!r30)) 68 rfl (fun hg68=>?_) (fun hg68=>?_)
     · refine xE U 5 ?_;simp only[go_sem,qh,qd,qc,qe,qf,qg,reduceIte,reduceCtorEq,Xv,uf,if_false,if_true,hz12,hz21,hw21];refine zz ⟨rfl,_,_,⟨rfl,rfl⟩,.b hg68⟩
     have f31:=fun (o0:Yq) (o1:Yq) (x:ze)=>vaL (T:=tab) (t:=265) (ek:=(AV.int .i64)) (ev:=AV.bool) (z:=false) (vc8.int rfl rfl rfl rfl) rfl rfl rfl rfl l15 y21.fTag false (o0::o1::.map (y0 (AV.int .i64) AV.bool l15)::x) 2 rfl
     refine xE U 5 ?_;simp only[go_sem,qh,qd,qc,qe,qf,qg,reduceIte,reduceCtorEq,Xv,uf,if_false,if_true,hz12,hz21,hw21,f31];refine zz ⟨rfl,_,_,⟨rfl,rfl⟩,.b hg68⟩
   rintro _ _ ⟨rfl,rfl⟩;refine rnW 1 (aI hz12 (aI hz21 hw21)) ?_;refine nkN J ?_;refine zY (b:=((!r30)||((XE l15 y21.fTag).getD false))) rfl (fun hc32=>?_) (fun hc32=>?_)
   · rw[if_pos hc32] at h;refine rgW [6] (aI hz12 (aI hz21 hw21)) ?_;apply yg;cases h;simp only[ZA,yQ,y5,xN,exists_eq_left',go_sem,qh,qd,qc,qe,qf,qg,reduceIte,reduceCtorEq];refine⟨by decide,by simp,?_,?_⟩
     · first|rfl|(simp only[go_sem,qh,qd,qc,qe,qf,qg,reduceIte,reduceCtorEq,push_cast,if_true,qq,qn,qu,qr,qs,qt,qz,qo,qw,qv,qm,zw]<;>rfl)
     first|rfl|(simp only[go_sem,qh,qd,qc,qe,qf,qg,reduceIte,reduceCtorEq,push_cast,if_true,qq,qn,qu,qr,qs,qt,qz,qo,qw,qv,qm,zw]<;>rfl)
   rw[Zc hc32] at h
   refine rc [3,7,10,12,51,52,53,74] fun K J=>?_
   obtain⟨r33,hr33,h⟩:=yq h;refine rnW 2 (aI @yB.eq_1 (aI @za.eq_1 (aI @xp.eq_1 (aI hz12 (aI hz21 hw21))))) ?_;refine clN rfl rfl rfl ((XZ.ok hr33).c _) ?_;refine rnW 2 (aI @yB.eq_1 (aI @za.eq_1 (aI @xp.eq_1 (aI hz12 (aI hz21 hw21))))) ?_;refine nkN J ?_;refine zY (b:=(!r33)) rfl (fun hc34=>?_) (fun hc34=>?_)
   · rw[if_pos hc34] at h;refine rgW [6] (aI hz12 (aI hz21 hw21)) ?_;apply yg;cases h;simp only[ZA,yQ,y5,xN,exists_eq_left',go_sem,qh,qd,qc,qe,qf,qg,reduceIte,reduceCtorEq];refine⟨by decide,by simp,?_,?_⟩
     · first|rfl|(simp only[go_sem,qh,qd,qc,qe,qf,qg,reduceIte,reduceCtorEq,push_cast,if_true,qq,qn,qu,qr,qs,qt,qz,qo,qw,qv,qm,zw]<;>rfl)
     first|rfl|(simp only[go_sem,qh,qd,qc,qe,qf,qg,reduceIte,reduceCtorEq,push_cast,if_true,qq,qn,qu,qr,qs,qt,qz,qo,qw,qv,qm,zw]<;>rfl)
   rw[Zc hc34] at h;apply zm;apply hZ27
   have f35:=fun (o0:Yq) (o1:Yq) (x:ze)=>vbY (T:=tab) (t:=265) (ek:=(AV.int .i64)) (ev:=AV.bool) (vc8.int rfl rfl rfl rfl) rfl rfl l15 y21.fTag true (o0::o1::.map (y0 (AV.int .i64) AV.bool l15)::x) 2 rfl
   refine rgE U [3,7,10,51,52,53] fun K J=>?_
   simp only[go_sem,qh,qd,qc,qe,qf,qg,reduceIte,reduceCtorEq,hz12,hz21,hw21,f35];apply J
   apply hZ24
   refine rgE U [3,7,10,51,52,53] fun K J=>?_
   simp only[go_sem,qh,qd,qc,qe,qf,qg,reduceIte,reduceCtorEq,Zp,hz12,hz21,hw21];apply J
   exact⟨_,_,_,qK q21.length,⟨p21++[y21],q21,x17+1,vcn l15 y21.fTag true,r28.2,rfl,rfl,rfl,hE'21,hi'21,h⟩,(.t [0,1,2,3] false)⟩
 obtain⟨hz12,hw12,hx12,hE'12,hi'12⟩:=xq hE12 hi12 hb12;simp only[xU.l12] at h;refine rgW [3,5,7,32,33,34,35] (aI hz12 hw12) ?_
 refine zd fun Z36 hZ36=>?_
 refine zS rfl ?_;apply zm;apply hZ36
 refine zd fun Z37 hZ37=>?_
 apply zq;have f38:=E26.idxS hx12;have f39:=E26.fldS0 (f:=3) rfl rfl hx12
 refine rg U [3,5,7,9,32,33,34] fun K J=>?_
 simp only[go_sem,qh,qd,qc,qe,qf,qg,reduceIte,reduceCtorEq,wJ,hz12,hw12,f38,f39];apply J
 refine zd fun Z40 hZ40=>?_
 refine rc [3,5,7,9,32,33,34,45] fun K J=>?_
 obtain⟨r41,hr41,h⟩:=yq h;refine rnW 1 (aI hz12 hw12) ?_;refine clN rfl rfl rfl ((XY.ok hr41).c _) ?_;refine rnW 2 (aI hz12 hw12) ?_;refine xi 4 (fun L τ=>L=[(3,.op 1 0 0),(5,.op 2 0 0),(7,.mp 3),(9,.int .i64 y12),(32,.ds true (qb wJ a2.fReserved) (qa a2.fReserved) false),(33,.int .i64 (qa a2.fReserved:Int)),(34,.int .i64 x9),(45,.bool ((!r41)||((XE l8 y12).getD false)))]∧τ=([.map (y0 AV.str AV.bool r2.2),.cells 0 (za a0),.cells 0 (zh a2),.map (y0 (AV.int .i64) AV.bool l8)]:ze)) ?_ ?_
 · refine wA (b:=(!r41)) 41 rfl (fun hg41=>?_) (fun hg41=>?_)
   · refine xE U 4 ?_;simp only[go_sem,qh,qd,qc,qe,qf,qg,reduceIte,reduceCtorEq,Xv,uf,if_false,if_true,hz12,hw12];refine zz ⟨rfl,_,_,⟨rfl,rfl⟩,.b hg41⟩
   have f42:=fun (o0:Yq) (o1:Yq) (o2:Yq) (x:ze)=>vaL (T:=tab) (t:=265) (ek:=(AV.int .i64)) (ev:=AV.bool) (z:=false) (vc8.int rfl rfl rfl rfl) rfl rfl rfl rfl l8 y12 false (o0::o1::o2::.map (y0 (AV.int .i64) AV.bool l8)::x) 3 rfl
   refine xE U 4 ?_;simp only[go_sem,qh,qd,qc,qe,qf,qg,reduceIte,reduceCtorEq,Xv,uf,if_false,if_true,hz12,hw12,f42];refine zz ⟨rfl,_,_,⟨rfl,rfl⟩,.b hg41⟩
 rintro _ _ ⟨rfl,rfl⟩;refine nkN J ?_;refine zY (b:=((!r41)||((XE l8 y12).getD false))) rfl (fun hc43=>?_) (fun hc43=>?_)
 · rw[if_pos hc43] at h;refine rgW [6] (aI hz12 hw12) ?_;apply yg;cases h;simp only[ZA,yQ,y5,xN,exists_eq_left',go_sem,qh,qd,qc,qe,qf,qg,reduceIte,reduceCtorEq];refine⟨by decide,by simp,?_,?_⟩
   · first|rfl|(simp only[go_sem,qh,qd,qc,qe,qf,qg,reduceIte,reduceCtorEq,push_cast,if_true,qq,qn,qu,qr,qs,qt,qz,qo,qw,qv,qm,zw]<;>rfl)
   first|rfl|(simp only[go_sem,qh,qd,qc,qe,qf,qg,reduceIte,reduceCtorEq,push_cast,if_true,qq,qn,qu,qr,qs,qt,qz,qo,qw,qv,qm,zw]<;>rfl)
 rw[Zc hc43] at h;apply zm;apply hZ40
 have f44:=fun (o0:Yq) (o1:Yq) (o2:Yq) (x:ze)=>vbY (T:=tab) (t:=265) (ek:=(AV.int .i64)) (ev:=AV.bool) (vc8.int rfl rfl rfl rfl) rfl rfl l8 y12 true (o0::o1::o2::.map (y0 (AV.int .i64) AV.bool l8)::x) 3 rfl
 refine rgE U [3,5,7,32,33,34] fun K J=>?_
 simp only[go_sem,qh,qd,qc,qe,qf,qg,reduceIte,reduceCtorEq,hz12,hw12,f44];apply J
 apply hZ37
 refine rgE U [3,5,7,32,33,34] fun K J=>?_
 simp only[go_sem,qh,qd,qc,qe,qf,qg,reduceIte,reduceCtorEq,Zp,hz12,hw12];apply J
 exact⟨_,_,_,qK q12.length,⟨p12++[y12],q12,x9+1,vcn l8 y12 true,rfl,rfl,rfl,hE'12,hi'12,h⟩,.s⟩
def wL.l23 (r2:Bool×List (List UInt8×Bool)):List vdH→Int→List (List UInt8×Bool)→List (Int×Bool)→Option (Int×List (List UInt8×Bool))
 |[],x19,l17,l18=>some (0,r2.2)
 |y23::q23,x19,l17,l18=>(xI l17 y23.fName).bind fun r30=>(if (!r30.1)=true then some (6,r2.2) else (if (((decide (y23.fN<0))||(decide (2147483647<y23.fN)))||((XE l18 y23.fN).getD false))=true then some (11,r2.2) else ((wL.l23 r2 q23) (x19+1) r30.2 (vcn l18 y23.fN true))))
def wL.l12 (a1:wv)(r2:Bool×List (List UInt8×Bool)):List vdH→Int→Bool→Option (Int×List (List UInt8×Bool))
 |[],x9,x8=>(if (!x8)=true then some (12,r2.2) else (wL.l23 r2 a1.fValues 0 [] []))
 |y12::q12,x9,x8=>((wL.l12 a1 r2 q12) (x9+1) (x8||(decide (y12.fN=0))))
def wL (a0:List (List UInt8×Bool))(a1:wv):Option (Int×List (List UInt8×Bool)):=
 (xI a0 a1.fName).bind fun r2=>(if (!r2.1)=true then some (6,r2.2) else (if 16<(qa a1.fValues:Int) then some (4,r2.2) else (wL.l12 a1 r2 a1.fValues 0 false)))
theorem wL.ok {a0 a1 r}(h:wL a0 a1=some r):ACalls qi 127 [.mp 0,.agg (zk a1)] [.map (y0 AV.str AV.bool a0)] (fun r' σ'=>r'=.int .i64 r.1∧σ'=[.map (y0 AV.str AV.bool r.2)]):=by
 refine Zx [0] (rs:=[.tmp 4]) U Tryz.func127 rfl Tryz.ntmps127 rfl Tryz.call127 (by simp) rfl ?_;refine zK [(0,.mp 0),(1,.agg (zk a1))] ⟨rfl,rfl,trivial⟩ ?_;unfold wL at h;refine rgW [0,3] @zk.eq_1 ?_
 refine zd fun Z1 hZ1=>?_
 apply zq
 refine rc [3,12] fun K J=>?_
 obtain⟨r2,hr2,h⟩:=bind_some h;refine rnN 3 ?_;refine clN rfl rfl rfl (@id (ACalls qi 128 [.mp 0,.str a1.fName] [.map (y0 AV.str AV.bool a0),.cells 0 (zk a1)] (fun r' σ'=>r'=.bool r2.1∧σ'=[.map (y0 AV.str AV.bool r2.2),.cells 0 (zk a1)])) ((xI.ok hr2).i [0])) ?_;refine rnN 2 ?_;refine nkN J ?_;refine zY (b:=(!r2.1)) rfl (fun hc3=>?_) (fun hc3=>?_)
 · rw[if_pos hc3] at h;refine O [4] ?_;apply yg;cases h;simp only[ZA,yQ,y5,xN,exists_eq_left',go_sem,qh,qd,qc,qe,qf,qg,reduceIte,reduceCtorEq];refine⟨by decide,by simp,?_,?_⟩
   · first|rfl|(simp only[go_sem,qh,qd,qc,qe,qf,qg,reduceIte,reduceCtorEq,push_cast,if_true,qq,qn,qu,qr,qs,qt,qz,qo,qw,qv,qm,zw]<;>rfl)
   first|rfl|(simp only[go_sem,qh,qd,qc,qe,qf,qg,reduceIte,reduceCtorEq,push_cast,if_true,qq,qn,qu,qr,qs,qt,qz,qo,qw,qv,qm,zw]<;>rfl)
 rw[Zc hc3] at h;refine rgW [3,18] qF ?_;refine yv rfl (fun hc4=>?_) (fun hc4=>?_)
 · rw[if_pos hc4] at h;have t5:=eq_true hc4;refine rgW [4] t5 ?_;apply yg;cases h;simp only[ZA,yQ,y5,xN,exists_eq_left',go_sem,qh,qd,qc,qe,qf,qg,reduceIte,reduceCtorEq];refine⟨by decide,by simp,?_,?_⟩
   · first|rfl|(simp only[go_sem,qh,qd,qc,qe,qf,qg,reduceIte,reduceCtorEq,push_cast,if_true,qq,qn,qu,qr,qs,qt,qz,qo,qw,qv,qm,zw]<;>rfl)
   first|rfl|(simp only[go_sem,qh,qd,qc,qe,qf,qg,reduceIte,reduceCtorEq,push_cast,if_true,qq,qn,qu,qr,qs,qt,qz,qo,qw,qv,qm,zw]<;>rfl)
 rw[if_neg hc4] at h;have t6:=eq_false hc4;apply zm;apply hZ1;refine rgW [3,5] t6 ?_
 refine zd fun Z7 hZ7=>?_
 refine rgW [3,5,24,25,26] t6 ?_;apply zq
 refine xr 24 fun hb12=>?_
 replace hb12:qa a1.fValues≤9223372036854775807:=hb12.1;refine yp (fun m L τ=>∃ (p12 q12:List vdH) (x9:Int) (x8:Bool),m=qa q12∧L=[(3,.op 1 0 0),(5,.bool x8),(24,.ds true (qb Zv a1.fValues) (qa a1.fValues) false),(25,.int .i64 (qa a1.fValues:Int)),(26,.int .i64 x9)]∧τ=([.map (y0 AV.str AV.bool r2.2),.cells 0 (zk a1)]:ze)∧a1.fValues=p12++q12∧x9=(qa p12:Int)∧wL.l12 a1 r2 q12 x9 x8=some r) _ ⟨[],a1.fValues,0,false,rfl,rfl,rfl,rfl,rfl,h⟩ .s ?_;rintro m L τ ⟨p12,q12,x9,x8,rfl,rfl,rfl,hE12,hi12,h⟩
 rcases q12 with _|⟨y12,q12⟩
 · have hz12:=xM hE12 hi12;simp only[wL.l12] at h;refine rgW [3,5,24,25,26,27] (aI t6 hz12) ?_
   refine zd fun Z13 hZ13=>?_
   refine zQ rfl ?_;apply yl;apply hZ7
   refine zd fun Z14 hZ14=>?_
   refine rgW [3,38] (aI t6 hz12) ?_;refine zY (b:=(!x8)) rfl (fun hc15=>?_) (fun hc15=>?_)
   · rw[if_pos hc15] at h;refine rgW [4] (aI t6 hz12) ?_;apply yg;cases h;simp only[ZA,yQ,y5,xN,exists_eq_left',go_sem,qh,qd,qc,qe,qf,qg,reduceIte,reduceCtorEq];refine⟨by decide,by simp,?_,?_⟩
     · first|rfl|(simp only[go_sem,qh,qd,qc,qe,qf,qg,reduceIte,reduceCtorEq,push_cast,if_true,qq,qn,qu,qr,qs,qt,qz,qo,qw,qv,qm,zw]<;>rfl)
     first|rfl|(simp only[go_sem,qh,qd,qc,qe,qf,qg,reduceIte,reduceCtorEq,push_cast,if_true,qq,qn,qu,qr,qs,qt,qz,qo,qw,qv,qm,zw]<;>rfl)
   rw[Zc hc15] at h;apply zm;apply hZ14;refine rgW [3,8,9] (aI t6 hz12) ?_;refine Xl 2 rfl rfl ?_;refine Xl 3 rfl (τ:=[.map (y0 AV.str AV.bool r2.2),.cells 0 (zk a1),.map (y0 AV.str AV.bool []),.map (y0 (AV.int .i64) AV.bool [])]) rfl ?_;refine xB (L:=[(3,.op 1 0 0),(8,.mp 2),(9,.mp 3)]) (τ:=[.map (y0 AV.str AV.bool r2.2),.cells 0 (zk a1),.map (y0 AV.str AV.bool []),.map (y0 (AV.int .i64) AV.bool [])]) .s ?_
   refine zd fun Z16 hZ16=>?_
   refine rgW [8,9,42,43,44] (aI t6 hz12) ?_;apply zq
   refine xr 42 fun hb23=>?_
   replace hb23:qa a1.fValues≤9223372036854775807:=hb23.1;refine yp (fun m L τ=>∃ (p23 q23:List vdH) (x19:Int) (l17:List (List UInt8×Bool)) (l18:List (Int×Bool)),m=qa q23∧L=[(8,.mp 1),(9,.mp 2),(42,.ds true (qb Zv a1.fValues) (qa a1.fValues) false),(43,.int .i64 (qa a1.fValues:Int)),(44,.int .i64 x19)]∧τ=([.map (y0 AV.str AV.bool r2.2),.map (y0 AV.str AV.bool l17),.map (y0 (AV.int .i64) AV.bool l18)]:ze)∧a1.fValues=p23++q23∧x19=(qa p23:Int)∧wL.l23 r2 q23 x19 l17 l18=some r) _ ⟨[],a1.fValues,0,[],[],rfl,rfl,rfl,rfl,rfl,h⟩ (.t [0,2,3] false) ?_;rintro m L τ ⟨p23,q23,x19,l17,l18,rfl,rfl,rfl,hE23,hi23,h⟩
   rcases q23 with _|⟨y23,q23⟩
   · have hz23:=xM hE23 hi23;simp only[wL.l23] at h;refine rgW [8,9,42,43,44,45] (aI t6 (aI hz12 hz23)) ?_
     refine zd fun Z24 hZ24=>?_
     refine zQ rfl ?_;apply yl;apply hZ16;refine rgW [4] (aI t6 (aI hz12 hz23)) ?_;apply yg;cases h;simp only[ZA,yQ,y5,xN,exists_eq_left',go_sem,qh,qd,qc,qe,qf,qg,reduceIte,reduceCtorEq];refine⟨by decide,by simp,?_,?_⟩
     · first|rfl|(simp only[go_sem,qh,qd,qc,qe,qf,qg,reduceIte,reduceCtorEq,push_cast,if_true,qq,qn,qu,qr,qs,qt,qz,qo,qw,qv,qm,zw]<;>rfl)
     first|rfl|(simp only[go_sem,qh,qd,qc,qe,qf,qg,reduceIte,reduceCtorEq,push_cast,if_true,qq,qn,qu,qr,qs,qt,qz,qo,qw,qv,qm,zw]<;>rfl)
   obtain⟨hz23,hw23,hx23,hE'23,hi'23⟩:=xq hE23 hi23 hb23;simp only[wL.l23] at h;refine rgW [8,9,42,43,44,45] (aI t6 (aI hz12 (aI hz23 hw23))) ?_
   refine zd fun Z25 hZ25=>?_
   refine zS rfl ?_;apply zm;apply hZ25
   refine zd fun Z26 hZ26=>?_
   apply zq;have f27:=E140.idxS hx23;have f28:=E140.loadS rfl rfl hx23;refine rgW [8,9,11,42,43,44] (aI @Zv.eq_1 (aI t6 (aI hz12 (aI hz23 (aI hw23 (aI f27 f28)))))) ?_
   refine zd fun Z29 hZ29=>?_
   apply zq
   refine rc [8,9,11,42,43,44,48] fun K J=>?_
   obtain⟨r30,hr30,h⟩:=bind_some h;refine rnW 3 (aI t6 (aI hz12 (aI hz23 hw23))) ?_;refine clN rfl rfl rfl (@id (ACalls qi 128 [.mp 1,.str y23.fName] [.map (y0 AV.str AV.bool r2.2),.map (y0 AV.str AV.bool l17),.map (y0 (AV.int .i64) AV.bool l18),.cells 0 [.str y23.fName,.int .i64 y23.fN]] (fun r' σ'=>r'=.bool r30.1∧σ'=[.map (y0 AV.str AV.bool r2.2),.map (y0 AV.str AV.bool r30.2),.map (y0 (AV.int .i64) AV.bool l18),.cells 0 [.str y23.fName,.int .i64 y23.fN]])) ((xI.ok hr30).i [1])) ?_;refine rnW 2 (aI t6 (aI hz12 (aI hz23 hw23))) ?_;refine nkN J ?_;refine zY (b:=(!r30.1)) rfl (fun hc31=>?_) (fun hc31=>?_)
   · rw[if_pos hc31] at h;refine rgW [4] (aI t6 (aI hz12 (aI hz23 hw23))) ?_;apply yg;cases h;simp only[ZA,yQ,y5,xN,exists_eq_left',go_sem,qh,qd,qc,qe,qf,qg,reduceIte,reduceCtorEq];refine⟨by decide,by simp,?_,?_⟩
     · first|rfl|(simp only[go_sem,qh,qd,qc,qe,qf,qg,reduceIte,reduceCtorEq,push_cast,if_true,qq,qn,qu,qr,qs,qt,qz,qo,qw,qv,qm,zw]<;>rfl)
     first|rfl|(simp only[go_sem,qh,qd,qc,qe,qf,qg,reduceIte,reduceCtorEq,push_cast,if_true,qq,qn,qu,qr,qs,qt,qz,qo,qw,qv,qm,zw]<;>rfl)
   rw[Zc hc31] at h
   refine rc [8,9,11,42,43,44,54] fun K J=>?_
   refine rnW 4 (aI t6 (aI hz12 (aI hz23 hw23))) ?_;refine cut 4 58 62 [8,9,42,11,44,43] ((decide (y23.fN<0))||(decide (2147483647<y23.fN))) (aI t6 (aI hz12 (aI hz23 hw23))) rfl ?_;refine rnW 1 (aI t6 (aI hz12 (aI hz23 hw23))) ?_;refine xi 5 (fun L τ=>L=[(8,.mp 1),(9,.mp 2),(11,.op 3 0 0),(42,.ds true (qb Zv a1.fValues) (qa a1.fValues) false),(43,.int .i64 (qa a1.fValues:Int)),(44,.int .i64 x19),(68,.bool (((decide (y23.fN<0))||(decide (2147483647<y23.fN)))||((XE l18 y23.fN).getD false)))]∧τ=([.map (y0 AV.str AV.bool r2.2),.map (y0 AV.str AV.bool r30.2),.map (y0 (AV.int .i64) AV.bool l18),.cells 0 [.str y23.fName,.int .i64 y23.fN]]:ze)) ?_ ?_
   · refine wA (b:=((decide (y23.fN<0))||(decide (2147483647<y23.fN)))) 63 rfl (fun hg63=>?_) (fun hg63=>?_)
     · refine xE U 5 ?_;simp only[go_sem,qh,qd,qc,qe,qf,qg,reduceIte,reduceCtorEq,Xv,uf,if_false,if_true,t6,hz12,hz23,hw23];refine zz ⟨rfl,_,_,⟨rfl,rfl⟩,.b hg63⟩
     have f34:=fun (o0:Yq) (o1:Yq) (x:ze)=>vaL (T:=tab) (t:=265) (ek:=(AV.int .i64)) (ev:=AV.bool) (z:=false) (vc8.int rfl rfl rfl rfl) rfl rfl rfl rfl l18 y23.fN false (o0::o1::.map (y0 (AV.int .i64) AV.bool l18)::x) 2 rfl
     refine xE U 5 ?_;simp only[go_sem,qh,qd,qc,qe,qf,qg,reduceIte,reduceCtorEq,Xv,uf,if_false,if_true,t6,hz12,hz23,hw23,f34];refine zz ⟨rfl,_,_,⟨rfl,rfl⟩,.b hg63⟩
   rintro _ _ ⟨rfl,rfl⟩;refine rnW 1 (aI t6 (aI hz12 (aI hz23 hw23))) ?_;refine nkN J ?_;refine zY (b:=(((decide (y23.fN<0))||(decide (2147483647<y23.fN)))||((XE l18 y23.fN).getD false))) rfl (fun hc35=>?_) (fun hc35=>?_)
   · rw[if_pos hc35] at h;refine rgW [4] (aI t6 (aI hz12 (aI hz23 hw23))) ?_;apply yg;cases h;simp only[ZA,yQ,y5,xN,exists_eq_left',go_sem,qh,qd,qc,qe,qf,qg,reduceIte,reduceCtorEq];refine⟨by decide,by simp,?_,?_⟩
     · first|rfl|(simp only[go_sem,qh,qd,qc,qe,qf,qg,reduceIte,reduceCtorEq,push_cast,if_true,qq,qn,qu,qr,qs,qt,qz,qo,qw,qv,qm,zw]<;>rfl)
     first|rfl|(simp only[go_sem,qh,qd,qc,qe,qf,qg,reduceIte,reduceCtorEq,push_cast,if_true,qq,qn,qu,qr,qs,qt,qz,qo,qw,qv,qm,zw]<;>rfl)
   rw[Zc hc35] at h;apply zm;apply hZ29
   have f36:=fun (o0:Yq) (o1:Yq) (x:ze)=>vbY (T:=tab) (t:=265) (ek:=(AV.int .i64)) (ev:=AV.bool) (vc8.int rfl rfl rfl rfl) rfl rfl l18 y23.fN true (o0::o1::.map (y0 (AV.int .i64) AV.bool l18)::x) 2 rfl
   refine rgE U [8,9,42,43,44] fun K J=>?_
   simp only[go_sem,qh,qd,qc,qe,qf,qg,reduceIte,reduceCtorEq,t6,hz12,hz23,hw23,f36];apply J
   apply hZ26
   refine rgE U [8,9,42,43,44] fun K J=>?_
   simp only[go_sem,qh,qd,qc,qe,qf,qg,reduceIte,reduceCtorEq,Zp,t6,hz12,hz23,hw23];apply J
   exact⟨_,_,_,qK q23.length,⟨p23++[y23],q23,x19+1,r30.2,vcn l18 y23.fN true,rfl,rfl,rfl,hE'23,hi'23,h⟩,(.t [0,1,2] false)⟩
 obtain⟨hz12,hw12,hx12,hE'12,hi'12⟩:=xq hE12 hi12 hb12;simp only[wL.l12] at h;refine rgW [3,5,24,25,26,27] (aI t6 (aI hz12 hw12)) ?_
 refine zd fun Z37 hZ37=>?_
 refine zS rfl ?_;apply zm;apply hZ37
 refine zd fun Z38 hZ38=>?_
 apply zq;have f39:=E140.idxS hx12;have f40:=E140.loadS rfl rfl hx12;refine rgW [3,5,7,24,25,26] (aI @Zv.eq_1 (aI t6 (aI hz12 (aI hw12 (aI f39 f40))))) ?_
 refine rcE [3,5,24,25,26] fun K J=>?_
 refine rnW 2 (aI t6 (aI hz12 hw12)) ?_;refine cut (b:=x8) (hb:=boolP_eq _) 4 31 35 [3,5,24,25,26] (x8||(decide (y12.fN=0))) (aI t6 (aI hz12 hw12)) rfl ?_;refine rnW 1 (aI t6 (aI hz12 hw12)) ?_;refine nkN J ?_;apply hZ38
 refine rgE U [3,5,24,25,26] fun K J=>?_
 simp only[go_sem,qh,qd,qc,qe,qf,qg,reduceIte,reduceCtorEq,Zp,t6,hz12,hw12];apply J
 exact⟨_,_,_,qK q12.length,⟨p12++[y12],q12,x9+1,(x8||(decide (y12.fN=0))),rfl,rfl,rfl,hE'12,hi'12,h⟩,(.t [0,1] false)⟩
def yN.l29 (a0:zB):List wT→Int→List (List UInt8×Bool)→Option Int
 |[],x26,l25=>some 0
 |y29::q29,x26,l25=>bnd (yw a0 y29.fIn) fun r35=>bnd (yw a0 y29.fOut) fun r36=>(xI l25 y29.fName).bind fun r37=>(if (!r37.1)=true then some 6 else (if ((!r35.2)||(!r36.2))=true then some 8 else ((yN.l29 a0 q29) (x26+1) r37.2)))
def yN.l22 (a0:zB):List wv→Int→List (List UInt8×Bool)→Option Int
 |[],x19,l18=>(yN.l29 a0 a0.fMethods 0 [])
 |y22::q22,x19,l18=>(wL l18 y22).bind fun r44=>(if r44.1=0 then ((yN.l22 a0 q22) (x19+1) r44.2) else some r44.1)
def yN.l15 (a0:zB):List z8→Int→List (List UInt8×Bool)→Option Int
 |[],x12,l11=>(yN.l22 a0 a0.fEnums 0 l11)
 |y15::q15,x12,l11=>(xU a0 l11 y15).bind fun r52=>(if r52.1=0 then ((yN.l15 a0 q15) (x12+1) r52.2) else some r52.1)
def yN (a0:zB):Option Int:=
 (ZE a0.fName).bind fun r2=>(if (!r2)=true then some 6 else (if (qa a0.fMessages:Int)=0 then some 12 else (if (((decide (10<(qa a0.fMessages:Int)))||(decide (6<(qa a0.fEnums:Int))))||(decide (6<(qa a0.fMethods:Int))))=true then some 4 else (yN.l15 a0 a0.fMessages 0 []))))
theorem yN.ok {a0 r}(h:yN a0=some r):ACalls qi 82 [.agg (za a0)] [] (fun r' _=>r'=.int .i64 r):=by
 refine zx (rs:=[.tmp 2]) U Tryz.func82 rfl Tryz.ntmps82 rfl Tryz.call82 (by simp) ?_;refine zK [(0,.agg (za a0))] ⟨rfl,trivial⟩ ?_;unfold yN at h;refine rgW [1] @za.eq_1 ?_
 refine zd fun Z1 hZ1=>?_
 apply zq
 refine rc [1,17] fun K J=>?_
 obtain⟨r2,hr2,h⟩:=bind_some h;refine rnN 2 ?_;refine clN rfl rfl rfl ((ZE.ok hr2).c _) ?_;refine rnN 2 ?_;refine nkN J ?_;refine zY (b:=(!r2)) rfl (fun hc3=>?_) (fun hc3=>?_)
 · rw[if_pos hc3] at h;refine O [2] ?_;cases h;exact rtA
 rw[Zc hc3] at h;refine rgW [1,22] qF ?_;refine yv rfl (fun hc4=>?_) (fun hc4=>?_)
 · rw[if_pos hc4] at h;have t5:=eq_true hc4;refine rgW [2] t5 ?_;cases h;exact rtA
 rw[if_neg hc4] at h;have t6:=eq_false hc4
 refine rc [1,27] fun K J=>?_
 refine rnW 5 t6 ?_;refine cut 5 32 37 [1] ((decide (10<(qa a0.fMessages:Int)))||(decide (6<(qa a0.fEnums:Int)))) t6 rfl ?_;refine rnW 1 t6 ?_;refine cut (b:=((decide (10<(qa a0.fMessages:Int)))||(decide (6<(qa a0.fEnums:Int))))) (hb:=boolP_eq _) 5 38 43 [1] (((decide (10<(qa a0.fMessages:Int)))||(decide (6<(qa a0.fEnums:Int))))||(decide (6<(qa a0.fMethods:Int)))) t6 rfl ?_;refine rnW 1 t6 ?_;refine nkN J ?_;refine zY (b:=(((decide (10<(qa a0.fMessages:Int)))||(decide (6<(qa a0.fEnums:Int))))||(decide (6<(qa a0.fMethods:Int))))) rfl (fun hc9=>?_) (fun hc9=>?_)
 · rw[if_pos hc9] at h;refine rgW [2] t6 ?_;cases h;exact rtA
 rw[Zc hc9] at h;apply zm;apply hZ1;refine rgW [1,3] t6 ?_;refine Xl 1 rfl (τ:=[.cells 0 (za a0),.map (y0 AV.str AV.bool [])]) rfl ?_;refine xB (L:=[(1,.op 0 0 0),(3,.mp 1)]) (τ:=[.cells 0 (za a0),.map (y0 AV.str AV.bool [])]) .s ?_
 refine zd fun Z10 hZ10=>?_
 refine rgW [1,3,46,47,48] t6 ?_;apply zq
 refine xr 46 fun hb15=>?_
 replace hb15:qa a0.fMessages≤9223372036854775807:=hb15.1;refine yp (fun m L τ=>∃ (p15 q15:List z8) (x12:Int) (l11:List (List UInt8×Bool)),m=qa q15∧L=[(1,.op 0 0 0),(3,.mp 1),(46,.ds true (qb zh a0.fMessages) (qa a0.fMessages) false),(47,.int .i64 (qa a0.fMessages:Int)),(48,.int .i64 x12)]∧τ=([.cells 0 (za a0),.map (y0 AV.str AV.bool l11)]:ze)∧a0.fMessages=p15++q15∧x12=(qa p15:Int)∧yN.l15 a0 q15 x12 l11=some r) _ ⟨[],a0.fMessages,0,[],rfl,rfl,rfl,rfl,rfl,h⟩ .s ?_;rintro m L τ ⟨p15,q15,x12,l11,rfl,rfl,rfl,hE15,hi15,h⟩
 rcases q15 with _|⟨y15,q15⟩
 · have hz15:=xM hE15 hi15;simp only[yN.l15] at h;refine rgW [1,3,46,47,48,49] (aI t6 hz15) ?_
   refine zd fun Z16 hZ16=>?_
   refine zQ rfl ?_;apply yl;apply hZ10
   refine zd fun Z17 hZ17=>?_
   refine rgW [1,3,61,62,63] (aI t6 hz15) ?_;apply zq
   refine xr 61 fun hb22=>?_
   replace hb22:qa a0.fEnums≤9223372036854775807:=hb22.1;refine yp (fun m L τ=>∃ (p22 q22:List wv) (x19:Int) (l18:List (List UInt8×Bool)),m=qa q22∧L=[(1,.op 0 0 0),(3,.mp 1),(61,.ds true (qb zk a0.fEnums) (qa a0.fEnums) false),(62,.int .i64 (qa a0.fEnums:Int)),(63,.int .i64 x19)]∧τ=([.cells 0 (za a0),.map (y0 AV.str AV.bool l18)]:ze)∧a0.fEnums=p22++q22∧x19=(qa p22:Int)∧yN.l22 a0 q22 x19 l18=some r) _ ⟨[],a0.fEnums,0,l11,rfl,rfl,rfl,rfl,rfl,h⟩ .s ?_;rintro m L τ ⟨p22,q22,x19,l18,rfl,rfl,rfl,hE22,hi22,h⟩
   rcases q22 with _|⟨y22,q22⟩
   · have hz22:=xM hE22 hi22;simp only[yN.l22] at h;refine rgW [1,3,61,62,63,64] (aI t6 (aI hz15 hz22)) ?_
     refine zd fun Z23 hZ23=>?_
     refine zQ rfl ?_;apply yl;apply hZ17;refine rgW [1,10] (aI t6 (aI hz15 hz22)) ?_;refine Xl 2 rfl (τ:=[.cells 0 (za a0),.map (y0 AV.str AV.bool l18),.map (y0 AV.str AV.bool [])]) rfl ?_;refine xB (L:=[(1,.op 0 0 0),(10,.mp 2)]) (τ:=[.cells 0 (za a0),.map (y0 AV.str AV.bool l18),.map (y0 AV.str AV.bool [])]) .s ?_
     refine zd fun Z24 hZ24=>?_
     refine rgW [1,10,76,77,78] (aI t6 (aI hz15 hz22)) ?_;apply zq
     refine xr 76 fun hb29=>?_
     replace hb29:qa a0.fMethods≤9223372036854775807:=hb29.1;refine yp (fun m L τ=>∃ (p29 q29:List wT) (x26:Int) (l25:List (List UInt8×Bool)),m=qa q29∧L=[(1,.op 0 0 0),(10,.mp 1),(76,.ds true (qb zr a0.fMethods) (qa a0.fMethods) false),(77,.int .i64 (qa a0.fMethods:Int)),(78,.int .i64 x26)]∧τ=([.cells 0 (za a0),.map (y0 AV.str AV.bool l25)]:ze)∧a0.fMethods=p29++q29∧x26=(qa p29:Int)∧yN.l29 a0 q29 x26 l25=some r) _ ⟨[],a0.fMethods,0,[],rfl,rfl,rfl,rfl,rfl,h⟩ (.t [0,2] false) ?_;rintro m L τ ⟨p29,q29,x26,l25,rfl,rfl,rfl,hE29,hi29,h⟩
     rcases q29 with _|⟨y29,q29⟩
     · have hz29:=xM hE29 hi29;simp only[yN.l29] at h;refine rgW [1,10,76,77,78,79] (aI t6 (aI hz15 (aI hz22 hz29))) ?_
       refine zd fun Z30 hZ30=>?_
       refine zQ rfl ?_;apply yl;apply hZ24;refine rgW [2] (aI t6 (aI hz15 (aI hz22 hz29))) ?_;cases h;exact rtA
     obtain⟨hz29,hw29,hx29,hE'29,hi'29⟩:=xq hE29 hi29 hb29;simp only[yN.l29] at h;refine rgW [1,10,76,77,78,79] (aI t6 (aI hz15 (aI hz22 (aI hz29 hw29)))) ?_
     refine zd fun Z31 hZ31=>?_
     refine zS rfl ?_;apply zm;apply hZ31
     refine zd fun Z32 hZ32=>?_
     apply zq;have f33:=E29.idxS hx29;have f34:=E29.loadS rfl rfl hx29;refine rgW [1,10,12,76,77,78] (aI @zr.eq_1 (aI t6 (aI hz15 (aI hz22 (aI hz29 (aI hw29 (aI f33 f34))))))) ?_
     refine rc [1,10,12,14,76,77,78] fun K J=>?_
     obtain⟨r35,hr35,h⟩:=yq h;refine rnW 3 (aI @za.eq_1 (aI t6 (aI hz15 (aI hz22 (aI hz29 hw29))))) ?_;refine clN rfl rfl rfl ((yw.ok hr35).c _) ?_;refine rnW 6 (aI @zh.eq_1 (aI @za.eq_1 (aI t6 (aI hz15 (aI hz22 (aI hz29 hw29)))))) ?_;refine nkN J ?_
     refine rc [1,10,12,14,16,76,77,78] fun K J=>?_
     obtain⟨r36,hr36,h⟩:=yq h;refine rnW 3 (aI @za.eq_1 (aI t6 (aI hz15 (aI hz22 (aI hz29 hw29))))) ?_;refine clN rfl rfl rfl ((yw.ok hr36).c _) ?_;refine rnW 6 (aI @zh.eq_1 (aI @za.eq_1 (aI t6 (aI hz15 (aI hz22 (aI hz29 hw29)))))) ?_;refine nkN J ?_;apply zq
     refine rc [1,10,14,16,76,77,78,96] fun K J=>?_
     obtain⟨r37,hr37,h⟩:=bind_some h;refine rnW 3 (aI t6 (aI hz15 (aI hz22 (aI hz29 hw29)))) ?_;refine clN rfl rfl rfl (@id (ACalls qi 128 [.mp 1,.str y29.fName] [.cells 0 (za a0),.map (y0 AV.str AV.bool l25),.cells 0 [.str y29.fName,.str y29.fIn,.str y29.fOut],.cells 0 (zh r35.1),.cells 0 (zh r36.1)] (fun r' σ'=>r'=.bool r37.1∧σ'=[.cells 0 (za a0),.map (y0 AV.str AV.bool r37.2),.cells 0 [.str y29.fName,.str y29.fIn,.str y29.fOut],.cells 0 (zh r35.1),.cells 0 (zh r36.1)])) ((xI.ok hr37).i [1])) ?_;refine rnW 2 (aI t6 (aI hz15 (aI hz22 (aI hz29 hw29)))) ?_;refine nkN J ?_;refine zY (b:=(!r37.1)) rfl (fun hc38=>?_) (fun hc38=>?_)
     · rw[if_pos hc38] at h;refine rgW [2] (aI t6 (aI hz15 (aI hz22 (aI hz29 hw29)))) ?_;cases h;exact rtA
     rw[Zc hc38] at h
     refine rc [1,10,76,77,78,102] fun K J=>?_
     refine rnW 3 (aI t6 (aI hz15 (aI hz22 (aI hz29 hw29)))) ?_;refine cut (b:=(!r35.2)) (hb:=boolP_eq _) 3 105 108 [1,10,76,77,78] ((!r35.2)||(!r36.2)) (aI t6 (aI hz15 (aI hz22 (aI hz29 hw29)))) rfl ?_;refine rnW 1 (aI t6 (aI hz15 (aI hz22 (aI hz29 hw29)))) ?_;refine nkN J ?_;refine zY (b:=((!r35.2)||(!r36.2))) rfl (fun hc39=>?_) (fun hc39=>?_)
     · rw[if_pos hc39] at h;refine rgW [2] (aI t6 (aI hz15 (aI hz22 (aI hz29 hw29)))) ?_;cases h;exact rtA
     rw[Zc hc39] at h;apply zm;apply hZ32
     refine rgE U [1,10,76,77,78] fun K J=>?_
     simp only[go_sem,qh,qd,qc,qe,qf,qg,reduceIte,reduceCtorEq,Zp,t6,hz15,hz22,hz29,hw29];apply J
     exact⟨_,_,_,qK q29.length,⟨p29++[y29],q29,x26+1,r37.2,rfl,rfl,rfl,hE'29,hi'29,h⟩,(.t [0,1] false)⟩
   obtain⟨hz22,hw22,hx22,hE'22,hi'22⟩:=xq hE22 hi22 hb22;simp only[yN.l22] at h;refine rgW [1,3,61,62,63,64] (aI t6 (aI hz15 (aI hz22 hw22))) ?_
   refine zd fun Z40 hZ40=>?_
   refine zS rfl ?_;apply zm;apply hZ40
   refine zd fun Z41 hZ41=>?_
   apply zq;have f42:=E28.idxS hx22;have f43:=E28.loadS rfl rfl hx22;refine rgW [1,3,8,61,62,63] (aI @zk.eq_1 (aI t6 (aI hz15 (aI hz22 (aI hw22 (aI f42 f43)))))) ?_
   refine rc [1,3,9,61,62,63] fun K J=>?_
   obtain⟨r44,hr44,h⟩:=bind_some h;refine rnW 2 (aI @zk.eq_1 (aI t6 (aI hz15 (aI hz22 hw22)))) ?_;refine clN rfl rfl rfl (@id (ACalls qi 127 [.mp 1,.agg (zk y22)] [.cells 0 (za a0),.map (y0 AV.str AV.bool l18),.cells 0 (zk y22)] (fun r' σ'=>r'=.int .i64 r44.1∧σ'=[.cells 0 (za a0),.map (y0 AV.str AV.bool r44.2),.cells 0 (zk y22)])) ((wL.ok hr44).i [1])) ?_;refine rnW 1 (aI @zk.eq_1 (aI t6 (aI hz15 (aI hz22 hw22)))) ?_;refine nkN J ?_;refine rgW [1,3,9,61,62,63,71] (aI t6 (aI hz15 (aI hz22 hw22))) ?_;refine yv rfl (fun hc45=>?_) (fun hc45=>?_)
   · rw[if_neg hc45] at h;have t46:=eq_false hc45;refine rgW [2] (aI t6 (aI hz15 (aI hz22 (aI hw22 t46)))) ?_;cases h;exact rtA
   rw[if_pos hc45] at h;have t47:=eq_true hc45;apply zm;apply hZ41
   refine rgE U [1,3,61,62,63] fun K J=>?_
   simp only[go_sem,qh,qd,qc,qe,qf,qg,reduceIte,reduceCtorEq,Zp,t6,hz15,hz22,hw22,t47];apply J
   exact⟨_,_,_,qK q22.length,⟨p22++[y22],q22,x19+1,r44.2,rfl,rfl,rfl,hE'22,hi'22,h⟩,(.t [0,1] false)⟩
 obtain⟨hz15,hw15,hx15,hE'15,hi'15⟩:=xq hE15 hi15 hb15;simp only[yN.l15] at h;refine rgW [1,3,46,47,48,49] (aI t6 (aI hz15 hw15)) ?_
 refine zd fun Z48 hZ48=>?_
 refine zS rfl ?_;apply zm;apply hZ48
 refine zd fun Z49 hZ49=>?_
 apply zq;have f50:=E27.idxS hx15;have f51:=E27.loadS rfl rfl hx15;refine rgW [1,3,5,46,47,48] (aI @zh.eq_1 (aI t6 (aI hz15 (aI hw15 (aI f50 f51))))) ?_
 refine rc [1,3,6,46,47,48] fun K J=>?_
 obtain⟨r52,hr52,h⟩:=bind_some h;refine rnW 3 (aI @zh.eq_1 (aI @za.eq_1 (aI t6 (aI hz15 hw15)))) ?_;refine clN rfl rfl rfl (@id (ACalls qi 126 [.agg (za a0),.mp 1,.agg (zh y15)] [.cells 0 (za a0),.map (y0 AV.str AV.bool l11),.cells 0 (zh y15)] (fun r' σ'=>r'=.int .i64 r52.1∧σ'=[.cells 0 (za a0),.map (y0 AV.str AV.bool r52.2),.cells 0 (zh y15)])) ((xU.ok hr52).i [1])) ?_;refine rnW 1 (aI @zh.eq_1 (aI @za.eq_1 (aI t6 (aI hz15 hw15)))) ?_;refine nkN J ?_;refine rgW [1,3,6,46,47,48,57] (aI t6 (aI hz15 hw15)) ?_;refine yv rfl (fun hc53=>?_) (fun hc53=>?_)
 · rw[if_neg hc53] at h;have t54:=eq_false hc53;refine rgW [2] (aI t6 (aI hz15 (aI hw15 t54))) ?_;cases h;exact rtA
 rw[if_pos hc53] at h;have t55:=eq_true hc53;apply zm;apply hZ49
 refine rgE U [1,3,46,47,48] fun K J=>?_
 simp only[go_sem,qh,qd,qc,qe,qf,qg,reduceIte,reduceCtorEq,Zp,t6,hz15,hw15,t55];apply J
 exact⟨_,_,_,qK q15.length,⟨p15++[y15],q15,x12+1,r52.2,rfl,rfl,rfl,hE'15,hi'15,h⟩,(.t [0,1] false)⟩
def Zb.l10 (a2:List zB):List Int→Int→Int→Option Bool
 |[],x7,x6=>some true
 |y10::q10,x7,x6=>(if ((decide (y10≤x6))||(decide (12<y10)))=true then some true else (YI a2 x7).bind fun y19=>(yN y19).bind fun r22=>some (!(decide (r22=0)))).bind fun c19=>(if c19=true then some false else ((Zb.l10 a2 q10) (x7+1) y10))
def Zb (a0:Int)(a1:List Int)(a2:List zB):Option Bool:=
 (if (((((decide ((qa a1:Int)<1))||(decide (12<(qa a1:Int))))||(!(decide ((qa a2:Int)=(qa a1:Int)))))||(decide (a0<0)))||(decide (255<a0)))=true then some false else (Zb.l10 a2 a1 0 0))
theorem Zb.ok {a0 a1 a2 r}(h:Zb a0 a1 a2=some r):ACalls qi 58 [.int .i64 a0,.ds true (qb wJ a1) (qa a1) false,.ds true (qb za a2) (qa a2) false] [] (fun r' _=>r'=.bool r):=by
 refine zx (rs:=[.tmp 6]) U Tryz.func58 rfl Tryz.ntmps58 rfl Tryz.call58 (by simp) ?_;refine zK [(0,.int .i64 a0),(1,.ds true (qb wJ a1) (qa a1) false),(2,.ds true (qb za a2) (qa a2) false)] ⟨rfl,rfl,rfl,trivial⟩ ?_;unfold Zb at h;refine O [0,1,2] ?_
 refine zd fun Z1 hZ1=>?_
 refine rc [1,2,32] fun K J=>?_
 refine rnW 4 qF ?_;refine cut 4 13 17 [0,1,2] ((decide ((qa a1:Int)<1))||(decide (12<(qa a1:Int)))) qF rfl ?_;refine rnN 1 ?_;refine cut (b:=((decide ((qa a1:Int)<1))||(decide (12<(qa a1:Int))))) (hb:=boolP_eq _) 6 18 24 [1,2,0] (((decide ((qa a1:Int)<1))||(decide (12<(qa a1:Int))))||(!(decide ((qa a2:Int)=(qa a1:Int))))) qF rfl ?_;refine rnN 1 ?_;refine cut (b:=(((decide ((qa a1:Int)<1))||(decide (12<(qa a1:Int))))||(!(decide ((qa a2:Int)=(qa a1:Int)))))) (hb:=boolP_eq _) 3 25 28 [1,2,0] ((((decide ((qa a1:Int)<1))||(decide (12<(qa a1:Int))))||(!(decide ((qa a2:Int)=(qa a1:Int)))))||(decide (a0<0))) qF rfl ?_;refine rnN 1 ?_;refine cut (b:=((((decide ((qa a1:Int)<1))||(decide (12<(qa a1:Int))))||(!(decide ((qa a2:Int)=(qa a1:Int)))))||(decide (a0<0)))) (hb:=boolP_eq _) 3 29 32 [1,2] (((((decide ((qa a1:Int)<1))||(decide (12<(qa a1:Int))))||(!(decide ((qa a2:Int)=(qa a1:Int)))))||(decide (a0<0)))||(decide (255<a0))) qF rfl ?_;refine nkN J ?_;refine zY (b:=(((((decide ((qa a1:Int)<1))||(decide (12<(qa a1:Int))))||(!(decide ((qa a2:Int)=(qa a1:Int)))))||(decide (a0<0)))||(decide (255<a0)))) rfl (fun hc4=>?_) (fun hc4=>?_)
 · rw[if_pos hc4] at h;refine O [6] ?_;cases h;exact rtA
 rw[Zc hc4] at h;apply zm;apply hZ1;refine O [1,2,7] ?_
 refine zd fun Z5 hZ5=>?_
 refine O [2,7,33,34,35] ?_;apply zq
 refine xr 33 fun hb10=>?_
 replace hb10:qa a1≤9223372036854775807:=hb10.1;refine yp (fun m L τ=>∃ (p10 q10:List Int) (x7:Int) (x6:Int),m=qa q10∧L=[(2,.ds true (qb za a2) (qa a2) false),(7,.int .i64 x6),(33,.ds true (qb wJ a1) (qa a1) false),(34,.int .i64 (qa a1:Int)),(35,.int .i64 x7)]∧τ=([]:ze)∧a1=p10++q10∧x7=(qa p10:Int)∧Zb.l10 a2 q10 x7 x6=some r) _ ⟨[],a1,0,0,rfl,rfl,rfl,rfl,rfl,h⟩ .s ?_;rintro m L τ ⟨p10,q10,x7,x6,rfl,rfl,rfl,hE10,hi10,h⟩
 rcases q10 with _|⟨y10,q10⟩
 · have hz10:=xM hE10 hi10;simp only[Zb.l10] at h;refine rgW [2,7,33,34,35,36] hz10 ?_
   refine zd fun Z11 hZ11=>?_
   refine zQ rfl ?_;apply yl;apply hZ5;refine rgW [6] hz10 ?_;cases h;exact rtA
 obtain⟨hz10,hw10,hx10,hE'10,hi'10⟩:=xq hE10 hi10 hb10;simp only[Zb.l10] at h;refine rgW [2,7,33,34,35,36] (aI hz10 hw10) ?_
 refine zd fun Z12 hZ12=>?_
 refine zS rfl ?_;apply zm;apply hZ12
 refine zd fun Z13 hZ13=>?_
 apply zq;have f14:=E26.idxS hx10;have f15:=E26.fldS0 (f:=3) rfl rfl hx10
 refine rg U [2,7,8,9,33,34,35] fun K J=>?_
 simp only[go_sem,qh,qd,qc,qe,qf,qg,reduceIte,reduceCtorEq,wJ,hz10,hw10,f14,f15];apply J
 refine zd fun Z16 hZ16=>?_
 refine rc [2,9,33,34,35,54] fun K J=>?_
 refine rnW 4 (aI hz10 hw10) ?_;refine cut 3 43 46 [33,2,35,34,8,9] ((decide (y10≤x6))||(decide (12<y10))) (aI hz10 hw10) rfl ?_;refine rnW 1 (aI hz10 hw10) ?_;obtain⟨c19,hc19,h⟩:=bind_some h;refine xi 7 (fun L τ=>L=[(2,.ds true (qb za a2) (qa a2) false),(9,.int .i64 y10),(33,.ds true (qb wJ a1) (qa a1) false),(34,.int .i64 (qa a1:Int)),(35,.int .i64 x7),(54,.bool c19)]∧τ=([]:ze)) ?_ ?_
 · refine wA (b:=((decide (y10≤x6))||(decide (12<y10)))) 47 rfl (fun hg47=>?_) (fun hg47=>?_)
   · rw[if_pos hg47] at hc19;refine rnW 7 (aI @za.eq_1 (aI hz10 hw10)) ?_;cases hc19;refine zz ⟨rfl,_,_,⟨rfl,rfl⟩,.b hg47⟩
   rw[Zc hg47] at hc19;obtain⟨y20,hy20,hc19⟩:=bind_some hc19;have f21:=E33.idxS hy20;have f22:=E33.loadS rfl rfl hy20;obtain⟨r23,hr23,hc19⟩:=bind_some hc19;refine rnW 4 (aI @za.eq_1 (aI hz10 (aI hw10 (aI f21 f22)))) ?_;refine clN rfl rfl rfl ((yN.ok hr23).c _) ?_;refine rnW 2 (aI @za.eq_1 (aI hz10 hw10)) ?_;cases hc19;refine zz ⟨rfl,_,_,⟨rfl,rfl⟩,.b hg47⟩
 rintro _ _ ⟨rfl,rfl⟩;refine nkN J ?_;refine zY (b:=c19) rfl (fun hc24=>?_) (fun hc24=>?_)
 · rw[if_pos hc24] at h;refine rgW [6] (aI hz10 hw10) ?_;cases h;exact rtA
 rw[Zc hc24] at h;apply zm;apply hZ16
 refine rgE U [2,7,33,34,35] fun K J=>?_
 simp only[go_sem,qh,qd,qc,qe,qf,qg,reduceIte,reduceCtorEq,hz10,hw10];apply J
 apply hZ13
 refine rgE U [2,7,33,34,35] fun K J=>?_
 simp only[go_sem,qh,qd,qc,qe,qf,qg,reduceIte,reduceCtorEq,Zp,hz10,hw10];apply J
 exact⟨_,_,_,qK q10.length,⟨p10++[y10],q10,x7+1,y10,rfl,rfl,rfl,hE'10,hi'10,h⟩,.s⟩
def wn.l4 (a1:List UInt8):List wT→Int→wT×Bool
 |[],x2=>((⟨[],[],[]⟩:wT),false)
 |y4::q4,x2=>(if y4.fName=a1 then (y4,true) else ((wn.l4 a1 q4) (x2+1)))
def wn (a0:zB)(a1:List UInt8):wT×Bool:=
 (wn.l4 a1 a0.fMethods 0)
theorem wn.ok {a0 a1 r}(h:wn a0 a1=r):ACalls qi 59 [.agg (za a0),.str a1] [] (fun r' _=>r'=.tup [.agg (zr r.1),.bool r.2]):=by
 refine zx (rs:=[.cell 4 61,.tmp 5]) U Tryz.func59 rfl Tryz.ntmps59 rfl Tryz.call59 (by simp) ?_;refine zK [(0,.agg (za a0)),(1,.str a1)] ⟨rfl,rfl,trivial⟩ ?_;unfold wn at h;refine rgW [1,2,4] @za.eq_1 ?_
 refine zd fun Z1 hZ1=>?_
 refine O [1,4,9,10,11] ?_;apply zq
 refine xr 9 fun hb4=>?_
 replace hb4:qa a0.fMethods≤9223372036854775807:=hb4.1;refine yp (fun m L τ=>∃ (p4 q4:List wT) (x2:Int),m=qa q4∧L=[(1,.str a1),(4,.op 0 0 0),(9,.ds true (qb zr a0.fMethods) (qa a0.fMethods) false),(10,.int .i64 (qa a0.fMethods:Int)),(11,.int .i64 x2)]∧τ=([.cells 0 [.str [],.str [],.str []]]:ze)∧a0.fMethods=p4++q4∧x2=(qa p4:Int)∧wn.l4 a1 q4 x2=r) _ ⟨[],a0.fMethods,0,rfl,rfl,rfl,rfl,rfl,h⟩ (.t [1] false) ?_;rintro m L τ ⟨p4,q4,x2,rfl,rfl,rfl,hE4,hi4,h⟩
 rcases q4 with _|⟨y4,q4⟩
 · have hz4:=xM hE4 hi4;simp only[wn.l4] at h;refine rgW [1,4,9,10,11,12] hz4 ?_
   refine zd fun Z5 hZ5=>?_
   refine zQ rfl ?_;apply yl;apply hZ1;refine rgW [4,5] (aI @zr.eq_1 hz4) ?_;cases h;exact rtA
 obtain⟨hz4,hw4,hx4,hE'4,hi'4⟩:=xq hE4 hi4 hb4;simp only[wn.l4] at h;refine rgW [1,4,9,10,11,12] (aI hz4 hw4) ?_
 refine zd fun Z6 hZ6=>?_
 refine zS rfl ?_;apply zm;apply hZ6
 refine zd fun Z7 hZ7=>?_
 apply zq;have f8:=E29.idxS hx4;have f9:=E29.loadS rfl rfl hx4;refine rgW [1,4,7,9,10,11] (aI @zr.eq_1 (aI hz4 (aI hw4 (aI f8 f9)))) ?_;refine rgW [1,4,7,9,10,11,18] (aI hz4 hw4) ?_;refine yv rfl (fun hc10=>?_) (fun hc10=>?_)
 · rw[if_pos hc10] at h;have t11:=eq_true hc10;refine rgW [4,5] (aI @zr.eq_1 (aI hz4 (aI hw4 t11))) ?_;cases h;exact rtA
 rw[if_neg hc10] at h;have t12:=eq_false hc10;apply zm;apply hZ7
 refine rgE U [1,4,9,10,11] fun K J=>?_
 simp only[go_sem,qh,qd,qc,qe,qf,qg,reduceIte,reduceCtorEq,Zp,hz4,hw4,t12];apply J
 exact⟨_,_,_,qK q4.length,⟨p4++[y4],q4,x2+1,rfl,rfl,rfl,hE'4,hi'4,h⟩,(.t [0] false)⟩
def yR.l20 (wg:zp→Int→Option Int)(a1:Int)(x7:Int)(rec10:Int→Int→Option Int):List zp→Int→Int→Option Int
 |[],x17,x16=>(rec10 (x7+1) x16)
 |y20::q20,x17,x16=>(wg y20 (IntKind.i64.wrap (a1-1))).bind fun r26=>((yR.l20 wg a1 x7 rec10 q20) (x17+1) (if x16<r26 then r26 else x16))
def yR.l10 (wg:zp→Int→Option Int)(a1:Int):List zv→Int→Int→Option Int
 |[],x7,x6=>some (IntKind.i64.wrap (x6+1))
 |y10::q10,x7,x6=>(yR.l20 wg a1 x7 (yR.l10 wg a1 q10) y10.fTrees 0 x6)
def yR.body (wg:zp→Int→Option Int)(a0:zp)(a1:Int):Option Int:=
 (if ((!(decide (a0.fKind=3)))||(decide (a1=0)))=true then some 0 else (yR.l10 wg a1 a0.fEntries 0 0))
theorem yR.step (wg:zp→Int→Option Int)(ih_value_deep:∀ (a0:zp) (a1:Int) (r:Int),wg a0 a1=some r→ACalls qi 179 [.agg (zb a0),.int .i64 a1] [] (fun r' _=>r'=.int .i64 r))(a0:zp)(a1:Int)(r:Int)(h:yR.body wg a0 a1=some r):ACalls qi 179 [.agg (zb a0),.int .i64 a1] [] (fun r' _=>r'=.int .i64 r):=by
 have ev_value_deep:=fun a0 a1 r h σ=>(ih_value_deep a0 a1 r h).c σ
 refine zx (rs:=[.tmp 4]) U Tryz.func179 rfl Tryz.ntmps179 rfl Tryz.call179 (by simp) ?_;refine zK [(0,.agg (zb a0)),(1,.int .i64 a1)] ⟨rfl,rfl,trivial⟩ ?_;unfold yR.body at h;refine rgW [1,2] (aI @zb.eq_1 @zf) ?_
 refine zd fun Z1 hZ1=>?_
 refine rc [1,2,16] fun K J=>?_
 refine rnW 4 qF ?_;refine cut 3 13 16 [1,2] ((!(decide (a0.fKind=3)))||(decide (a1=0))) qF rfl ?_;refine nkN J ?_;refine zY (b:=((!(decide (a0.fKind=3)))||(decide (a1=0)))) rfl (fun hc4=>?_) (fun hc4=>?_)
 · rw[if_pos hc4] at h;refine O [4] ?_;cases h;exact rtA
 rw[Zc hc4] at h;apply zm;apply hZ1;refine O [1,2,5] ?_
 refine zd fun Z5 hZ5=>?_
 refine O [1,5,18,19,20] ?_;apply zq
 refine xr 18 fun hb10=>?_
 replace hb10:qa a0.fEntries≤9223372036854775807:=hb10.1;refine yp (fun m L τ=>∃ (p10 q10:List zv) (x7:Int) (x6:Int),m=qa q10∧L=[(1,.int .i64 a1),(5,.int .i64 x6),(18,.ds true (qb zD a0.fEntries) (qa a0.fEntries) false),(19,.int .i64 (qa a0.fEntries:Int)),(20,.int .i64 x7)]∧τ=([]:ze)∧a0.fEntries=p10++q10∧x7=(qa p10:Int)∧yR.l10 wg a1 q10 x7 x6=some r) _ ⟨[],a0.fEntries,0,0,rfl,rfl,rfl,rfl,rfl,h⟩ (.t [] false) ?_;rintro m L τ ⟨p10,q10,x7,x6,rfl,rfl,rfl,hE10,hi10,h⟩
 rcases q10 with _|⟨y10,q10⟩
 · have hz10:=xM hE10 hi10;simp only[yR.l10] at h;refine rgW [1,5,18,19,20,21] hz10 ?_
   refine zd fun Z11 hZ11=>?_
   refine zQ rfl ?_;apply yl;apply hZ5;refine rgW [4] hz10 ?_;cases h;exact rtA
 obtain⟨hz10,hw10,hx10,hE'10,hi'10⟩:=xq hE10 hi10 hb10;simp only[yR.l10] at h;refine rgW [1,5,18,19,20,21] (aI hz10 hw10) ?_
 refine zd fun Z12 hZ12=>?_
 refine zS rfl ?_;apply zm;apply hZ12
 refine zd fun Z13 hZ13=>?_
 apply zq;have f14:=E34.idxS hx10;have f15:=E34.loadS rfl rfl hx10;refine rgW [1,5,7,18,19,20] (aI @zU.eq_1 (aI @yD (aI hz10 (aI hw10 (aI f14 f15))))) ?_;refine rgW [1,5,18,19,20,25,26,27] (aI hz10 hw10) ?_;apply zq
 refine xr 25 fun hb20=>?_
 replace hb20:qa y10.fTrees≤9223372036854775807:=hb20.1;refine yp (fun m L τ=>∃ (p20 q20:List zp) (x17:Int) (x16:Int),m=qa q20∧L=[(1,.int .i64 a1),(5,.int .i64 x16),(18,.ds true (qb zD a0.fEntries) (qa a0.fEntries) false),(19,.int .i64 (qa a0.fEntries:Int)),(20,.int .i64 x7),(25,.ds true (qb yj y10.fTrees) (qa y10.fTrees) false),(26,.int .i64 (qa y10.fTrees:Int)),(27,.int .i64 x17)]∧τ=([]:ze)∧y10.fTrees=p20++q20∧x17=(qa p20:Int)∧yR.l20 wg a1 x7 (yR.l10 wg a1 q10) q20 x17 x16=some r) _ ⟨[],y10.fTrees,0,x6,rfl,rfl,rfl,rfl,rfl,h⟩ (.t [] false) ?_;rintro m L τ ⟨p20,q20,x17,x16,rfl,rfl,rfl,hE20,hi20,h⟩
 rcases q20 with _|⟨y20,q20⟩
 · have hz20:=xM hE20 hi20;simp only[yR.l20] at h;refine rgW [1,5,18,19,20,25,26,27,28] (aI hz10 (aI hw10 hz20)) ?_
   refine zd fun Z21 hZ21=>?_
   refine zQ rfl ?_;apply yl;apply hZ13
   refine rgE U [1,5,18,19,20] fun K J=>?_
   simp only[go_sem,qh,qd,qc,qe,qf,qg,reduceIte,reduceCtorEq,Zp,hz10,hw10,hz20];apply J
   exact⟨_,_,_,qK q10.length,⟨p10++[y10],q10,x7+1,x16,rfl,rfl,rfl,hE'10,hi'10,h⟩,.s⟩
 obtain⟨hz20,hw20,hx20,hE'20,hi'20⟩:=xq hE20 hi20 hb20;simp only[yR.l20] at h;refine rgW [1,5,18,19,20,25,26,27,28] (aI hz10 (aI hw10 (aI hz20 hw20))) ?_
 refine zd fun Z22 hZ22=>?_
 refine zS rfl ?_;apply zm;apply hZ22
 refine zd fun Z23 hZ23=>?_
 apply zq;have f24:=E38.idxS hx20;have f25:=E38.loadS rfl rfl hx20;refine rgW [1,5,9,18,19,20,25,26,27] (aI @zb.eq_1 (aI @zf (aI hz10 (aI hw10 (aI hz20 (aI hw20 (aI f24 f25))))))) ?_
 refine rcE [1,5,18,19,20,25,26,27] fun K J=>?_
 obtain⟨r26,hr26,h⟩:=bind_some h;refine rnW 4 (aI @zb.eq_1 (aI @zf (aI hz10 (aI hw10 (aI hz20 hw20))))) ?_;refine clN rfl rfl rfl (ev_value_deep y20 (IntKind.i64.wrap (a1-1)) r26 hr26 _) ?_;refine xE U 2 ?_;simp only[go_sem,qh,qd,qc,qe,qf,qg,reduceIte,reduceCtorEq,vcb,foldO,vcN,zb,zf,hz10,hw10,hz20,hw20];refine nkN J ?_;apply hZ23
 refine rgE U [1,5,18,19,20,25,26,27] fun K J=>?_
 simp only[go_sem,qh,qd,qc,qe,qf,qg,reduceIte,reduceCtorEq,Zp,hz10,hw10,hz20,hw20];apply J
 exact⟨_,_,_,qK q20.length,⟨p20++[y20],q20,x17+1,(if x16<r26 then r26 else x16),rfl,rfl,rfl,hE'20,hi'20,h⟩,(.t [] false)⟩
def yR : Nat→zp→Int→Option Int
 |0,_,_=>none
 |k+1,a0,a1=>yR.body (yR k) a0 a1
theorem yR.all (k:Nat):(∀ (a0:zp) (a1:Int) (r:Int),yR k a0 a1=some r→ACalls qi 179 [.agg (zb a0),.int .i64 a1] [] (fun r' _=>r'=.int .i64 r)):=by
 induction k with
 |zero=>exact (fun a0 a1 r h=>by simp only[yR] at h; cases h)
 |succ k ih=>exact (fun a0 a1 r h=>yR.step _ ih a0 a1 r (by simpa only [yR] using h))
theorem yR.ev (k:Nat)(a0:zp)(a1:Int)(r:Int)(h:yR k a0 a1=some r)(σ:ze):ACalls qi 179 [.agg (zb a0),.int .i64 a1] σ (fun r' σ'=>r'=.int .i64 r∧σ'=σ):=
 ((yR.all k) a0 a1 r h).c σ
def YN (a0:zp):Option Int:=
 (yR xz a0 101).bind fun r1=>some r1
theorem YN.ok {a0 r}(h:YN a0=some r):ACalls qi 139 [.agg (zb a0)] [] (fun r' _=>r'=.int .i64 r):=by
 refine zx (rs:=[.tmp 2]) U Tryz.func139 rfl Tryz.ntmps139 rfl Tryz.call139 (by simp) ?_;refine zK [(0,.agg (zb a0))] ⟨rfl,trivial⟩ ?_;unfold YN at h;refine rgW [1] (aI @zb.eq_1 @zf) ?_
 refine rc [2] fun K J=>?_
 obtain⟨r1,hr1,h⟩:=bind_some h;refine rnW 1 (aI @zb.eq_1 @zf) ?_;refine clN rfl rfl rfl (yR.ev xz a0 101 r1 hr1 _) ?_;refine rnW 1 (aI @zb.eq_1 @zf) ?_;refine nkN J ?_;cases h;exact rtA
def xY (a0:yC):Bool:=
 (if ((decide (a0.fTag<1))||(decide (500<a0.fTag)))=true then false else (if a0.fWire=0 then decide (a0.fB=[]) else (if a0.fWire=1 then ((decide (a0.fN=0))&&(decide ((qa a0.fB:Int)≤4096))) else false)))
theorem xY.ok {a0 r}(h:xY a0=r):ACalls qi 147 [.agg (zy a0)] [] (fun r' _=>r'=.bool r):=by
 refine zx (rs:=[.tmp 2]) U Tryz.func147 rfl Tryz.ntmps147 rfl Tryz.call147 (by simp) ?_;refine zK [(0,.agg (zy a0))] ⟨rfl,trivial⟩ ?_;unfold xY at h;refine rgW [1] @zy.eq_1 ?_
 refine zd fun Z1 hZ1=>?_
 refine rc [1,10] fun K J=>?_
 refine rnW 4 qF ?_;refine cut 4 6 10 [1] ((decide (a0.fTag<1))||(decide (500<a0.fTag))) qF rfl ?_;refine nkN J ?_;refine zY (b:=((decide (a0.fTag<1))||(decide (500<a0.fTag)))) rfl (fun hc4=>?_) (fun hc4=>?_)
 · rw[if_pos hc4] at h;refine O [2] ?_;cases h;exact rtA
 rw[Zc hc4] at h;apply zm;apply hZ1
 refine zd fun Z5 hZ5=>?_
 refine O [1,12] ?_;apply zq;refine rgW [1,12,13] qF ?_;refine yv rfl (fun hc6=>?_) (fun hc6=>?_)
 · rw[if_pos hc6] at h;have t7:=eq_true hc6;refine rgW [2] t7 ?_;cases h;exact rtA
 rw[if_neg hc6] at h;have t8:=eq_false hc6;refine rgW [1,18] t8 ?_;refine yv rfl (fun hc9=>?_) (fun hc9=>?_)
 · rw[if_pos hc9] at h;have t10:=eq_true hc9
   refine rc [2] fun K J=>?_
   refine rnW 4 (aI t8 t10) ?_;refine cut 5 23 28 [] ((decide (a0.fN=0))&&(decide ((qa a0.fB:Int)≤4096))) (aI t8 t10) rfl ?_;refine rnW 1 (aI t8 t10) ?_;refine nkN J ?_;cases h;exact rtA
 rw[if_neg hc9] at h;have t13:=eq_false hc9;apply zm;apply hZ5;refine rgW [2] (aI t8 t13) ?_;cases h;exact rtA
def wM.l4 (a0:List yC):Nat→Int→Option Bool
 |0,_=>none
 |k4+1,x2=>(if x2<(qa a0:Int) then (YI a0 x2).bind fun y9=>(YI a0 (IntKind.i64.wrap (x2-1))).bind fun y12=>(if y9.fTag<y12.fTag then some false else ((wM.l4 a0 k4) (IntKind.i64.wrap (x2+1)))) else some true)
def wM (a0:List yC):Option Bool:=
 (wM.l4 a0 xz 1)
theorem wM.ok {a0 r}(h:wM a0=some r):ACalls qi 223 [.ds true (qb zy a0) (qa a0) false] [] (fun r' _=>r'=.bool r):=by
 refine zx (rs:=[.tmp 2]) U Tryz.func223 rfl Tryz.ntmps223 rfl Tryz.call223 (by simp) ?_;refine zK [(0,.ds true (qb zy a0) (qa a0) false)] ⟨rfl,trivial⟩ ?_;unfold wM at h;refine O [0] ?_
 refine zd fun Z1 hZ1=>?_
 refine O [0,3] ?_;apply zq;refine yp (fun m L τ=>∃ (k4:Nat) (x2:Int),m=0+k4∧L=[(0,.ds true (qb zy a0) (qa a0) false),(3,.int .i64 x2)]∧τ=([]:ze)∧wM.l4 a0 k4 x2=some r) _ ⟨xz,1,rfl,rfl,rfl,h⟩ .s ?_;rintro m L τ ⟨k4,x2,rfl,rfl,rfl,h⟩
 rcases k4 with _|k4
 · cases h
 simp only[wM.l4] at h
 refine zd fun Z5 hZ5=>?_
 refine rgW [0,3,7] qF ?_;refine yv rfl (fun hc6=>?_) (fun hc6=>?_)
 · rw[if_pos hc6] at h;have t7:=eq_true hc6;apply zm;apply hZ5
   refine zd fun Z8 hZ8=>?_
   apply zq;obtain⟨y9,hy9,h⟩:=bind_some h;have f10:=E35.idxS hy9;have f11:=E35.fldS0 (f:=3) rfl rfl hy9;obtain⟨y12,hy12,h⟩:=bind_some h;have f13:=E35.idxS hy12;have f14:=E35.fldS0 (f:=3) rfl rfl hy12
   refine rd [0,3,21] fun K J=>?_
   refine DW.start (T:=tab) [.any,.any,.any,.any,.at [],.any,.any,.any,.any,.any,.at [],.any] [] ?_;refine DW.runN U 8 ?_;simp only[go_sem,qh,qd,qc,qe,qf,qg,reduceIte,reduceCtorEq,Zp,zy,t7,f10,f11,f13,f14];refine DW.runN U 4 ?_;simp only[go_sem,qh,qd,qc,qe,qf,qg,reduceIte,reduceCtorEq,Zp,zy,t7,f10,f11,f13,f14];refine DW.fin U (by decide +kernel) rfl ?_;simp only[zH,ye,yx,Zn,upd,qc,reduceIte,xh,xO];apply J
   refine yv rfl (fun hc15=>?_) (fun hc15=>?_)
   · rw[if_pos hc15] at h;have t16:=eq_true hc15;refine rgW [2] (aI t7 t16) ?_;cases h;exact rtA
   rw[if_neg hc15] at h;have t17:=eq_false hc15;apply zm;apply hZ8
   refine rgE U [0,3] fun K J=>?_
   simp only[go_sem,qh,qd,qc,qe,qf,qg,reduceIte,reduceCtorEq,Zp,t7,t17];apply J
   exact⟨_,_,_,qK (0+k4),⟨k4,IntKind.i64.wrap (x2+1),rfl,rfl,rfl,h⟩,.s⟩
 rw[if_neg hc6] at h;have t18:=eq_false hc6;apply yl;apply hZ1;refine rgW [2] t18 ?_;cases h;exact rtA
def xP.l16 (x2:Int)(rec4:Int→Option Bool)(y4:yC):List zv→Int→Option Bool
 |[],x14=>(rec4 (x2+1))
 |y16::q16,x14=>(if y16.fTag=y4.fTag then some false else ((xP.l16 x2 rec4 y4 q16) (x14+1)))
def xP.l4 (a0:zp):List yC→Int→Option Bool
 |[],x2=>(wM a0.fRest).bind fun r6=>some r6
 |y4::q4,x2=>bnd (xY y4) fun r12=>(if (!r12)=true then some false else (xP.l16 x2 (xP.l4 a0 q4) y4 a0.fEntries 0))
def xP (a0:zp):Option Bool:=
 (xP.l4 a0 a0.fRest 0)
theorem xP.ok {a0 r}(h:xP a0=some r):ACalls qi 181 [.agg (zb a0)] [] (fun r' _=>r'=.bool r):=by
 refine zx (rs:=[.tmp 2]) U Tryz.func181 rfl Tryz.ntmps181 rfl Tryz.call181 (by simp) ?_;refine zK [(0,.agg (zb a0))] ⟨rfl,trivial⟩ ?_;unfold xP at h;refine rgW [1] (aI @zb.eq_1 @zf) ?_
 refine zd fun Z1 hZ1=>?_
 refine O [1,8,9,10] ?_;apply zq
 refine xr 8 fun hb4=>?_
 replace hb4:qa a0.fRest≤9223372036854775807:=hb4.1;refine yp (fun m L τ=>∃ (p4 q4:List yC) (x2:Int),m=qa q4∧L=[(1,.op 0 0 0),(8,.ds true (qb zy a0.fRest) (qa a0.fRest) false),(9,.int .i64 (qa a0.fRest:Int)),(10,.int .i64 x2)]∧τ=([.cells 0 (zb a0)]:ze)∧a0.fRest=p4++q4∧x2=(qa p4:Int)∧xP.l4 a0 q4 x2=some r) _ ⟨[],a0.fRest,0,rfl,rfl,rfl,rfl,rfl,h⟩ .s ?_;rintro m L τ ⟨p4,q4,x2,rfl,rfl,rfl,hE4,hi4,h⟩
 rcases q4 with _|⟨y4,q4⟩
 · have hz4:=xM hE4 hi4;simp only[xP.l4] at h;refine rgW [1,8,9,10,11] hz4 ?_
   refine zd fun Z5 hZ5=>?_
   refine zQ rfl ?_;apply yl;apply hZ1
   refine rc [2] fun K J=>?_
   obtain⟨r6,hr6,h⟩:=bind_some h;refine rnW 2 hz4 ?_;refine clN rfl rfl rfl ((wM.ok hr6).c _) ?_;refine rnW 1 hz4 ?_;refine nkN J ?_;cases h;exact rtA
 obtain⟨hz4,hw4,hx4,hE'4,hi'4⟩:=xq hE4 hi4 hb4;simp only[xP.l4] at h;refine rgW [1,8,9,10,11] (aI hz4 hw4) ?_
 refine zd fun Z7 hZ7=>?_
 refine zS rfl ?_;apply zm;apply hZ7
 refine zd fun Z8 hZ8=>?_
 apply zq;have f9:=E35.idxS hx4;have f10:=E35.loadS rfl rfl hx4;refine rgW [1,4,8,9,10] (aI @zy.eq_1 (aI hz4 (aI hw4 (aI f9 f10)))) ?_
 refine zd fun Z11 hZ11=>?_
 refine rc [1,4,8,9,10,16] fun K J=>?_
 obtain⟨r12,hr12,h⟩:=yq h;refine rnW 1 (aI @zy.eq_1 (aI hz4 hw4)) ?_;refine clN rfl rfl rfl ((xY.ok hr12).c _) ?_;refine rnW 1 (aI @zy.eq_1 (aI hz4 hw4)) ?_;refine nkN J ?_;refine zY (b:=(!r12)) rfl (fun hc13=>?_) (fun hc13=>?_)
 · rw[if_pos hc13] at h;refine rgW [2] (aI hz4 hw4) ?_;cases h;exact rtA
 rw[Zc hc13] at h;apply zm;apply hZ11;refine rgW [1,4,8,9,10,18,19,20] (aI hz4 hw4) ?_;apply zq
 refine xr 18 fun hb16=>?_
 replace hb16:qa a0.fEntries≤9223372036854775807:=hb16.1;refine yp (fun m L τ=>∃ (p16 q16:List zv) (x14:Int),m=qa q16∧L=[(1,.op 0 0 0),(4,.op 1 0 0),(8,.ds true (qb zy a0.fRest) (qa a0.fRest) false),(9,.int .i64 (qa a0.fRest:Int)),(10,.int .i64 x2),(18,.ds true (qb zD a0.fEntries) (qa a0.fEntries) false),(19,.int .i64 (qa a0.fEntries:Int)),(20,.int .i64 x14)]∧τ=([.cells 0 (zb a0),.cells 0 [.int .i64 y4.fTag,.int .i64 y4.fWire,.int .i64 y4.fN,.str y4.fB]]:ze)∧a0.fEntries=p16++q16∧x14=(qa p16:Int)∧xP.l16 x2 (xP.l4 a0 q4) y4 q16 x14=some r) _ ⟨[],a0.fEntries,0,rfl,rfl,rfl,rfl,rfl,h⟩ .s ?_;rintro m L τ ⟨p16,q16,x14,rfl,rfl,rfl,hE16,hi16,h⟩
 rcases q16 with _|⟨y16,q16⟩
 · have hz16:=xM hE16 hi16;simp only[xP.l16] at h;refine rgW [1,4,8,9,10,18,19,20,21] (aI hz4 (aI hw4 hz16)) ?_
   refine zd fun Z17 hZ17=>?_
   refine zQ rfl ?_;apply yl;apply hZ8
   refine rgE U [1,8,9,10] fun K J=>?_
   simp only[go_sem,qh,qd,qc,qe,qf,qg,reduceIte,reduceCtorEq,Zp,hz4,hw4,hz16];apply J
   exact⟨_,_,_,qK q4.length,⟨p4++[y4],q4,x2+1,rfl,rfl,rfl,hE'4,hi'4,h⟩,(.t [0] false)⟩
 obtain⟨hz16,hw16,hx16,hE'16,hi'16⟩:=xq hE16 hi16 hb16;simp only[xP.l16] at h;refine rgW [1,4,8,9,10,18,19,20,21] (aI hz4 (aI hw4 (aI hz16 hw16))) ?_
 refine zd fun Z18 hZ18=>?_
 refine zS rfl ?_;apply zm;apply hZ18
 refine zd fun Z19 hZ19=>?_
 apply zq;have f20:=E34.idxS hx16;have f21:=E34.loadS rfl rfl hx16;refine rgW [1,4,6,8,9,10,18,19,20] (aI @zU.eq_1 (aI @yD (aI hz4 (aI hw4 (aI hz16 (aI hw16 (aI f20 f21))))))) ?_;refine rgW [1,4,8,9,10,18,19,20,28] (aI hz4 (aI hw4 (aI hz16 hw16))) ?_;refine yv rfl (fun hc22=>?_) (fun hc22=>?_)
 · rw[if_pos hc22] at h;have t23:=eq_true hc22;refine rgW [2] (aI hz4 (aI hw4 (aI hz16 (aI hw16 t23)))) ?_;cases h;exact rtA
 rw[if_neg hc22] at h;have t24:=eq_false hc22;apply zm;apply hZ19
 refine rgE U [1,4,8,9,10,18,19,20] fun K J=>?_
 simp only[go_sem,qh,qd,qc,qe,qf,qg,reduceIte,reduceCtorEq,Zp,hz4,hw4,hz16,hw16,t24];apply J
 exact⟨_,_,_,qK q16.length,⟨p16++[y16],q16,x14+1,rfl,rfl,rfl,hE'16,hi'16,h⟩,(.t [0,1] false)⟩
def z7.j25 (x16:Int)(rec18:Int→Option Bool)(x24:Bool):Option Bool:=
 (if x24=true then some false else (rec18 (x16+1)))
def z7.l18 (yX:zp→Option Bool)(x3:Int)(rec6:Int→Int→Option Bool)(y6:zv):List zp→Int→Option Bool
 |[],x16=>(rec6 (x3+1) y6.fTag)
 |y18::q18,x16=>(YI y6.fTrees 0).bind fun y27=>(if y18.fKind=y27.fKind then (yX y18).bind fun r32=>(z7.j25 x16 (z7.l18 yX x3 rec6 y6 q18) (!r32)) else (z7.j25 x16 (z7.l18 yX x3 rec6 y6 q18) true))
def z7.l6 (yX:zp→Option Bool):List zv→Int→Int→Option Bool
 |[],x3,x2=>some true
 |y6::q6,x3,x2=>(if ((((decide (y6.fTag≤x2))||(decide (500<y6.fTag)))||(decide ((qa y6.fTrees:Int)<1)))||(decide (64<(qa y6.fTrees:Int))))=true then some false else (z7.l18 yX x3 (z7.l6 yX q6) y6 y6.fTrees 0))
def z7.body (wB:zp→Option Bool)(yX:zp→Option Bool)(a0:zp):Option Bool:=
 (z7.l6 yX a0.fEntries 0 0)
theorem z7.step (wB:zp→Option Bool)(yX:zp→Option Bool)(XC:∀ (a0:zp) (r:Bool),wB a0=some r→ACalls qi 180 [.agg (zb a0)] [] (fun r' _=>r'=.bool r))(vad:∀ (a0:zp) (r:Bool),yX a0=some r→ACalls qi 140 [.agg (zb a0)] [] (fun r' _=>r'=.bool r))(a0:zp)(r:Bool)(h:z7.body wB yX a0=some r):ACalls qi 180 [.agg (zb a0)] [] (fun r' _=>r'=.bool r):=by
 have ev_value_entries:=fun a0 r h σ=>(XC a0 r h).c σ
 have ev_value_right:=fun a0 r h σ=>(vad a0 r h).c σ
 refine zx (rs:=[.tmp 2]) U Tryz.func180 rfl Tryz.ntmps180 rfl Tryz.call180 (by simp) ?_;refine zK [(0,.agg (zb a0))] ⟨rfl,trivial⟩ ?_;unfold z7.body at h;refine rgW [1] (aI @zb.eq_1 @zf) ?_;refine O [1,3] ?_
 refine zd fun Z1 hZ1=>?_
 refine O [3,9,10,11] ?_;apply zq
 refine xr 9 fun hb6=>?_
 replace hb6:qa a0.fEntries≤9223372036854775807:=hb6.1;refine yp (fun m L τ=>∃ (p6 q6:List zv) (x3:Int) (x2:Int),m=qa q6∧L=[(3,.int .i64 x2),(9,.ds true (qb zD a0.fEntries) (qa a0.fEntries) false),(10,.int .i64 (qa a0.fEntries:Int)),(11,.int .i64 x3)]∧τ=([]:ze)∧a0.fEntries=p6++q6∧x3=(qa p6:Int)∧z7.l6 yX q6 x3 x2=some r) _ ⟨[],a0.fEntries,0,0,rfl,rfl,rfl,rfl,rfl,h⟩ (.t [] false) ?_;rintro m L τ ⟨p6,q6,x3,x2,rfl,rfl,rfl,hE6,hi6,h⟩
 rcases q6 with _|⟨y6,q6⟩
 · have hz6:=xM hE6 hi6;simp only[z7.l6] at h;refine rgW [3,9,10,11,12] hz6 ?_
   refine zd fun Z7 hZ7=>?_
   refine zQ rfl ?_;apply yl;apply hZ1;refine rgW [2] hz6 ?_;cases h;exact rtA
 obtain⟨hz6,hw6,hx6,hE'6,hi'6⟩:=xq hE6 hi6 hb6;simp only[z7.l6] at h;refine rgW [3,9,10,11,12] (aI hz6 hw6) ?_
 refine zd fun Z8 hZ8=>?_
 refine zS rfl ?_;apply zm;apply hZ8
 refine zd fun Z9 hZ9=>?_
 apply zq;have f10:=E34.idxS hx6;have f11:=E34.loadS rfl rfl hx6;refine rgW [3,5,9,10,11] (aI @zU.eq_1 (aI @yD (aI hz6 (aI hw6 (aI f10 f11))))) ?_
 refine zd fun Z12 hZ12=>?_
 refine rc [5,9,10,11,35] fun K J=>?_
 refine rnW 5 (aI hz6 hw6) ?_;refine cut 4 19 23 [5,9,10,11] ((decide (y6.fTag≤x2))||(decide (500<y6.fTag))) (aI hz6 hw6) rfl ?_;refine rnW 1 (aI hz6 hw6) ?_;refine cut (b:=((decide (y6.fTag≤x2))||(decide (500<y6.fTag)))) (hb:=boolP_eq _) 5 24 29 [5,9,10,11] (((decide (y6.fTag≤x2))||(decide (500<y6.fTag)))||(decide ((qa y6.fTrees:Int)<1))) (aI hz6 hw6) rfl ?_;refine rnW 1 (aI hz6 hw6) ?_;refine cut (b:=(((decide (y6.fTag≤x2))||(decide (500<y6.fTag)))||(decide ((qa y6.fTrees:Int)<1)))) (hb:=boolP_eq _) 5 30 35 [5,9,10,11] ((((decide (y6.fTag≤x2))||(decide (500<y6.fTag)))||(decide ((qa y6.fTrees:Int)<1)))||(decide (64<(qa y6.fTrees:Int)))) (aI hz6 hw6) rfl ?_;refine nkN J ?_;refine zY (b:=((((decide (y6.fTag≤x2))||(decide (500<y6.fTag)))||(decide ((qa y6.fTrees:Int)<1)))||(decide (64<(qa y6.fTrees:Int))))) rfl (fun hc15=>?_) (fun hc15=>?_)
 · rw[if_pos hc15] at h;refine rgW [2] (aI hz6 hw6) ?_;cases h;exact rtA
 rw[Zc hc15] at h;apply zm;apply hZ12;refine rgW [3,5,9,10,11] (aI hz6 hw6) ?_;refine rgW [3,5,9,10,11,39,40,41] (aI hz6 hw6) ?_;apply zq
 refine xr 39 fun hb18=>?_
 replace hb18:qa y6.fTrees≤9223372036854775807:=hb18.1;refine yp (fun m L τ=>∃ (p18 q18:List zp) (x16:Int),m=qa q18∧L=[(3,.int .i64 y6.fTag),(5,.op 0 0 0),(9,.ds true (qb zD a0.fEntries) (qa a0.fEntries) false),(10,.int .i64 (qa a0.fEntries:Int)),(11,.int .i64 x3),(39,.ds true (qb yj y6.fTrees) (qa y6.fTrees) false),(40,.int .i64 (qa y6.fTrees:Int)),(41,.int .i64 x16)]∧τ=([.cells 0 (zU y6)]:ze)∧y6.fTrees=p18++q18∧x16=(qa p18:Int)∧z7.l18 yX x3 (z7.l6 yX q6) y6 q18 x16=some r) _ ⟨[],y6.fTrees,0,rfl,rfl,rfl,rfl,rfl,h⟩ .s ?_;rintro m L τ ⟨p18,q18,x16,rfl,rfl,rfl,hE18,hi18,h⟩
 rcases q18 with _|⟨y18,q18⟩
 · have hz18:=xM hE18 hi18;simp only[z7.l18] at h;refine rgW [3,5,9,10,11,39,40,41,42] (aI hz6 (aI hw6 hz18)) ?_
   refine zd fun Z19 hZ19=>?_
   refine zQ rfl ?_;apply yl;apply hZ9
   refine rgE U [3,9,10,11] fun K J=>?_
   simp only[go_sem,qh,qd,qc,qe,qf,qg,reduceIte,reduceCtorEq,Zp,hz6,hw6,hz18];apply J
   exact⟨_,_,_,qK q6.length,⟨p6++[y6],q6,x3+1,y6.fTag,rfl,rfl,rfl,hE'6,hi'6,h⟩,(.t [] false)⟩
 obtain⟨hz18,hw18,hx18,hE'18,hi'18⟩:=xq hE18 hi18 hb18;simp only[z7.l18] at h;refine rgW [3,5,9,10,11,39,40,41,42] (aI hz6 (aI hw6 (aI hz18 hw18))) ?_
 refine zd fun Z20 hZ20=>?_
 refine zS rfl ?_;apply zm;apply hZ20
 refine zd fun Z21 hZ21=>?_
 apply zq;have f22:=E38.idxS hx18;have f23:=E38.loadS rfl rfl hx18;refine rgW [3,5,7,9,10,11,39,40,41] (aI @zb.eq_1 (aI @zf (aI hz6 (aI hw6 (aI hz18 (aI hw18 (aI f22 f23))))))) ?_;refine xV (fun L τ=>∃ (x24:Bool),L=[(3,.int .i64 y6.fTag),(5,.op 0 0 0),(9,.ds true (qb zD a0.fEntries) (qa a0.fEntries) false),(10,.int .i64 (qa a0.fEntries:Int)),(11,.int .i64 x3),(39,.ds true (qb yj y6.fTrees) (qa y6.fTrees) false),(40,.int .i64 (qa y6.fTrees:Int)),(41,.int .i64 x16),(57,.bool x24)]∧τ=([.cells 0 (zU y6)]:ze)∧z7.j25 x16 (z7.l18 yX x3 (z7.l6 yX q6) y6 q18) x24=some r) ?_ ?_
 · refine rdE [3,5,9,10,11,39,40,41,57] fun K J=>?_
   refine DW.start (T:=tab) [.any,.at [],.any,.at [],.any,.any,.at [],.any,.any,.at [],.eff,.any,.any] [] ?_;obtain⟨y27,hy27,h⟩:=bind_some h;have f28:=E38.idxS hy27;have f29:=E38.fldS0 (f:=3) rfl rfl hy27;refine DW.runN U 8 ?_;simp only[go_sem,qh,qd,qc,qe,qf,qg,reduceIte,reduceCtorEq,Zp,zb,zf,hz6,hw6,hz18,hw18,f28,f29];refine DW.runN U 1 ?_;simp only[go_sem,qh,qd,qc,qe,qf,qg,reduceIte,reduceCtorEq,zb,zf,hz6,hw6,hz18,hw18,f28,f29]
   refine DW.if 53 rfl (fun hg53=>?_) (fun hg53=>?_)
   · rw[if_neg hg53] at h;have t30:=eq_false hg53;refine DW.runN U 4 ?_;simp only[go_sem,qh,qd,qc,qe,qf,qg,reduceIte,reduceCtorEq,zb,zf,hz6,hw6,hz18,hw18,t30];refine DW.fin U (by decide +kernel) rfl ?_;simp only[zH,ye,yx,Zn,upd,qc,reduceIte,xh,xO];apply J
     exact⟨_,_,⟨true,rfl,rfl,h⟩,(.t [0] false)⟩
   rw[if_pos hg53] at h;have t31:=eq_true hg53;obtain⟨r32,hr32,h⟩:=bind_some h;refine DW.runN U 1 ?_;simp only[go_sem,qh,qd,qc,qe,qf,qg,reduceIte,reduceCtorEq,zb,zf,hz6,hw6,hz18,hw18,t31];refine DW.call rfl rfl rfl (ev_value_right y18 r32 hr32 _) ?_;refine DW.runN U 2 ?_;simp only[go_sem,qh,qd,qc,qe,qf,qg,reduceIte,reduceCtorEq,zb,zf,hz6,hw6,hz18,hw18,t31];refine DW.fin U (by decide +kernel) rfl ?_;simp only[zH,ye,yx,Zn,upd,qc,reduceIte,xh,xO];apply J
   exact⟨_,_,⟨!r32,rfl,rfl,h⟩,(.t [0] false)⟩
 rintro _ _ ⟨x24,rfl,rfl,h⟩;unfold z7.j25 at h;refine zY (b:=x24) rfl (fun hc26=>?_) (fun hc26=>?_)
 · rw[if_pos hc26] at h;refine rgW [2] (aI hz6 (aI hw6 (aI hz18 hw18))) ?_;cases h;exact rtA
 rw[Zc hc26] at h;apply zm;apply hZ21
 refine rgE U [3,5,9,10,11,39,40,41] fun K J=>?_
 simp only[go_sem,qh,qd,qc,qe,qf,qg,reduceIte,reduceCtorEq,Zp,hz6,hw6,hz18,hw18];apply J
 exact⟨_,_,_,qK q18.length,⟨p18++[y18],q18,x16+1,rfl,rfl,rfl,hE'18,hi'18,h⟩,.s⟩
def we.body (wB:zp→Option Bool)(yX:zp→Option Bool)(a0:zp):Option Bool:=
 (if a0.fKind=1 then some (((decide (a0.fS=[]))&&(decide ((qa a0.fEntries:Int)=0)))&&(decide ((qa a0.fRest:Int)=0))) else (if a0.fKind=2 then some (((decide (a0.fN=0))&&(decide ((qa a0.fEntries:Int)=0)))&&(decide ((qa a0.fRest:Int)=0))) else (if a0.fKind=3 then (if ((decide (a0.fN=0))&&(decide (a0.fS=[])))=true then (wB a0).bind fun r16=>some r16 else some false).bind fun c16=>(if c16=true then (xP a0).bind fun r18=>some r18 else some false).bind fun c18=>some c18 else some false)))
theorem we.step (wB:zp→Option Bool)(yX:zp→Option Bool)(XC:∀ (a0:zp) (r:Bool),wB a0=some r→ACalls qi 180 [.agg (zb a0)] [] (fun r' _=>r'=.bool r))(vad:∀ (a0:zp) (r:Bool),yX a0=some r→ACalls qi 140 [.agg (zb a0)] [] (fun r' _=>r'=.bool r))(a0:zp)(r:Bool)(h:we.body wB yX a0=some r):ACalls qi 140 [.agg (zb a0)] [] (fun r' _=>r'=.bool r):=by
 have ev_value_entries:=fun a0 r h σ=>(XC a0 r h).c σ
 have ev_value_right:=fun a0 r h σ=>(vad a0 r h).c σ
 refine zx (rs:=[.tmp 2]) U Tryz.func140 rfl Tryz.ntmps140 rfl Tryz.call140 (by simp) ?_;refine zK [(0,.agg (zb a0))] ⟨rfl,trivial⟩ ?_;unfold we.body at h;refine rgW [1] (aI @zb.eq_1 @zf) ?_
 refine zd fun Z1 hZ1=>?_
 refine O [1,4] ?_;apply zq;refine rgW [1,4,5] qF ?_;refine yv rfl (fun hc2=>?_) (fun hc2=>?_)
 · rw[if_pos hc2] at h;have t3:=eq_true hc2
   refine rc [2] fun K J=>?_
   refine rnW 4 t3 ?_;refine cut 5 10 15 [1] ((decide (a0.fS=[]))&&(decide ((qa a0.fEntries:Int)=0))) t3 rfl ?_;refine rnW 1 t3 ?_;refine cut (b:=((decide (a0.fS=[]))&&(decide ((qa a0.fEntries:Int)=0)))) (hb:=boolP_eq _) 5 16 21 [] (((decide (a0.fS=[]))&&(decide ((qa a0.fEntries:Int)=0)))&&(decide ((qa a0.fRest:Int)=0))) t3 rfl ?_;refine rnW 1 t3 ?_;refine nkN J ?_;cases h;exact rtA
 rw[if_neg hc2] at h;have t6:=eq_false hc2;refine rgW [1,4,22] t6 ?_;refine yv rfl (fun hc7=>?_) (fun hc7=>?_)
 · rw[if_pos hc7] at h;have t8:=eq_true hc7
   refine rc [2] fun K J=>?_
   refine rnW 4 (aI t6 t8) ?_;refine cut 5 27 32 [1] ((decide (a0.fN=0))&&(decide ((qa a0.fEntries:Int)=0))) (aI t6 t8) rfl ?_;refine rnW 1 (aI t6 t8) ?_;refine cut (b:=((decide (a0.fN=0))&&(decide ((qa a0.fEntries:Int)=0)))) (hb:=boolP_eq _) 5 33 38 [] (((decide (a0.fN=0))&&(decide ((qa a0.fEntries:Int)=0)))&&(decide ((qa a0.fRest:Int)=0))) (aI t6 t8) rfl ?_;refine rnW 1 (aI t6 t8) ?_;refine nkN J ?_;cases h;exact rtA
 rw[if_neg hc7] at h;have t11:=eq_false hc7;refine rgW [1,39] (aI t6 t11) ?_;refine yv rfl (fun hc12=>?_) (fun hc12=>?_)
 · rw[if_pos hc12] at h;have t13:=eq_true hc12
   refine rc [2] fun K J=>?_
   refine rnW 4 (aI t6 (aI t11 t13)) ?_;refine cut 4 44 48 [1] ((decide (a0.fN=0))&&(decide (a0.fS=[]))) (aI t6 (aI t11 t13)) rfl ?_;refine rnW 1 (aI t6 (aI t11 t13)) ?_;obtain⟨c16,hc16,h⟩:=bind_some h;refine xi 3 (fun L τ=>L=[(1,.op 0 0 0),(52,.bool c16)]∧τ=([.cells 0 (zb a0)]:ze)) ?_ ?_
   · refine wA (b:=((decide (a0.fN=0))&&(decide (a0.fS=[])))) 49 rfl (fun hg49=>?_) (fun hg49=>?_)
     · rw[if_pos hg49] at hc16;obtain⟨r17,hr17,hc16⟩:=bind_some hc16;refine rnW 1 (aI @zb.eq_1 (aI @zf (aI t6 (aI t11 t13)))) ?_;refine clN rfl rfl rfl (ev_value_entries a0 r17 hr17 _) ?_;refine rnW 1 (aI @zb.eq_1 (aI @zf (aI t6 (aI t11 t13)))) ?_;cases hc16;refine zz ⟨rfl,_,_,⟨rfl,rfl⟩,.b hg49⟩
     rw[Zc hg49] at hc16;refine rnW 3 (aI @zb.eq_1 (aI @zf (aI t6 (aI t11 t13)))) ?_;cases hc16;refine zz ⟨rfl,_,_,⟨rfl,rfl⟩,.b hg49⟩
   rintro _ _ ⟨rfl,rfl⟩;refine rnW 1 (aI @zb.eq_1 (aI @zf (aI t6 (aI t11 t13)))) ?_;obtain⟨c18,hc18,h⟩:=bind_some h;refine xi 3 (fun L τ=>L=[(56,.bool c18)]∧τ=([.cells 0 (zb a0)]:ze)) ?_ ?_
   · refine wA (b:=c16) 53 rfl (fun hg53=>?_) (fun hg53=>?_)
     · rw[if_pos hg53] at hc18;obtain⟨r19,hr19,hc18⟩:=bind_some hc18;refine rnW 1 (aI @zb.eq_1 (aI @zf (aI t6 (aI t11 t13)))) ?_;refine clN rfl rfl rfl ((xP.ok hr19).c _) ?_;refine rnW 1 (aI @zb.eq_1 (aI @zf (aI t6 (aI t11 t13)))) ?_;cases hc18;refine zz ⟨rfl,_,_,⟨rfl,rfl⟩,.b hg53⟩
     rw[Zc hg53] at hc18;refine rnW 3 (aI @zb.eq_1 (aI @zf (aI t6 (aI t11 t13)))) ?_;cases hc18;refine zz ⟨rfl,_,_,⟨rfl,rfl⟩,.b hg53⟩
   rintro _ _ ⟨rfl,rfl⟩;refine rnW 1 (aI @zb.eq_1 (aI @zf (aI t6 (aI t11 t13)))) ?_;refine nkN J ?_;cases h;exact rtA
 rw[if_neg hc12] at h;have t20:=eq_false hc12;apply zm;apply hZ1;refine rgW [2] (aI t6 (aI t11 t20)) ?_;cases h;exact rtA
mutual
def z7 : Nat→zp→Option Bool
 |0,_=>none
 |k+1,a0=>z7.body (z7 k) (we k) a0
def we : Nat→zp→Option Bool
 |0,_=>none
 |k+1,a0=>we.body (z7 k) (we k) a0
end
theorem z7.all (k:Nat):(∀ (a0:zp) (r:Bool),z7 k a0=some r→ACalls qi 180 [.agg (zb a0)] [] (fun r' _=>r'=.bool r))∧(∀ (a0:zp) (r:Bool),we k a0=some r→ACalls qi 140 [.agg (zb a0)] [] (fun r' _=>r'=.bool r)):=by
 induction k with
 |zero=>exact⟨(fun a0 r h=>by simp only[z7] at h; cases h),(fun a0 r h=>by simp only[we] at h; cases h)⟩
 |succ k ih=>exact⟨(fun a0 r h=>z7.step _ _ ih.1 ih.2 a0 r (by simpa only [z7] using h)),(fun a0 r h=>we.step _ _ ih.1 ih.2 a0 r (by simpa only [we] using h))⟩
theorem we.ev (k:Nat)(a0:zp)(r:Bool)(h:we k a0=some r)(σ:ze):ACalls qi 140 [.agg (zb a0)] σ (fun r' σ'=>r'=.bool r∧σ'=σ):=
 ((z7.all k).2 a0 r h).c σ
def Yb (a0:zp):Option Bool:=
 (YN a0).bind fun r1=>(if r1≤10 then (we xz a0).bind fun r2=>some r2 else some false).bind fun c2=>some c2
theorem Yb.ok {a0 r}(h:Yb a0=some r):ACalls qi 93 [.agg (zb a0)] [] (fun r' _=>r'=.bool r):=by
 refine zx (rs:=[.tmp 2]) U Tryz.func93 rfl Tryz.ntmps93 rfl Tryz.call93 (by simp) ?_;refine zK [(0,.agg (zb a0))] ⟨rfl,trivial⟩ ?_;unfold Yb at h;refine rgW [1] (aI @zb.eq_1 @zf) ?_
 refine rc [2] fun K J=>?_
 obtain⟨r1,hr1,h⟩:=bind_some h;refine rnW 1 (aI @zb.eq_1 @zf) ?_;refine clN rfl rfl rfl ((YN.ok hr1).c _) ?_;refine rnW 2 (aI @zb.eq_1 @zf) ?_;obtain⟨c2,hc2,h⟩:=bind_some h;refine xi 3 (fun L τ=>L=[(9,.bool c2)]∧τ=([.cells 0 (zb a0)]:ze)) ?_ ?_
 · refine Yw 6 rfl (fun hg6=>?_) (fun hg6=>?_)
   · have t3:=eq_true hg6;rw[if_pos hg6] at hc2;obtain⟨r4,hr4,hc2⟩:=bind_some hc2;refine rnW 1 (aI @zb.eq_1 @zf) ?_;refine clN rfl rfl rfl (we.ev xz a0 r4 hr4 _) ?_;refine rnW 1 (aI @zb.eq_1 @zf) ?_;cases hc2;refine zz ⟨rfl,_,_,⟨rfl,rfl⟩,.p t3⟩
   have t5:=eq_false hg6;rw[if_neg hg6] at hc2;refine rnW 3 (aI @zb.eq_1 @zf) ?_;cases hc2;refine zz ⟨rfl,_,_,⟨rfl,rfl⟩,.p t5⟩
 rintro _ _ ⟨rfl,rfl⟩;refine rnW 1 (aI @zb.eq_1 @zf) ?_;refine nkN J ?_;cases h;exact rtA
def va3 (a0:Int):zo:=
 (zo.num a0)
theorem va3.ok {a0 r}(h:va3 a0=r):ACalls qi 225 [.int .i64 a0] [] (fun r' _=>r'=.agg (zi r)):=by
 refine zx (rs:=[.cell 2 228]) U Tryz.func225 rfl Tryz.ntmps225 rfl Tryz.call225 (by simp) ?_;refine zK [(0,.int .i64 a0)] ⟨rfl,trivial⟩ ?_;unfold va3 at h;refine O [0,2] ?_;refine rgW [2] @zi.eq_1 ?_;cases h;exact rtA
def va2 (a0:List UInt8):zo:=
 (zo.str a0)
theorem va2.ok {a0 r}(h:va2 a0=r):ACalls qi 226 [.str a0] [] (fun r' _=>r'=.agg (zi r)):=by
 refine zx (rs:=[.cell 2 228]) U Tryz.func226 rfl Tryz.ntmps226 rfl Tryz.call226 (by simp) ?_;refine zK [(0,.str a0)] ⟨rfl,trivial⟩ ?_;unfold va2 at h;refine O [0,2] ?_;refine rgW [2] @zi.eq_1 ?_;cases h;exact rtA
def xQ (a0:List yC):Option (List yC):=(vaV (qa a0) 40).bind fun _=>some a0
theorem xQ.ok (a0 r:List yC)(h:xQ a0=some r):ACalls qi 227 [.ds true (qb zy a0) (qa a0) false] [] (fun r' _=>r'=.ds true (qb zy r) (qa r) false):=by
 obtain⟨_u,hu,h⟩:=bind_some h;have gu:=xF hu;cases h
 have f1:=fun nl tt σ=>Z0 E35.len a0 nl tt σ
 have f2:=yf E35.len a0;have f3:=XJ zy a0
 have fin:∀ σ id ver tt,ze.at σ id ver=some (qb zy a0)→tell σ [] true 12 (.os true 4 id ver 0 (qa a0) tt)=.ds true (qb zy a0) (qa a0) false:=by
  intro σ id ver tt hs
  simp only[ZC,wU,hs,qq,qn];rw[if_pos (by rw[f2]; exact qx _),← f2,uk,zw]
 refine zx (rs:=[.tmp 2]) U Tryz.func227 rfl Tryz.ntmps227 rfl Tryz.call227 (by simp) ?_;refine zK [(0,.ds true (qb zy a0) (qa a0) false)] ⟨rfl,trivial⟩ ?_;refine O [0] ?_
 refine zd fun Z1 hZ1=>?_
 refine rc [0,4] fun K J=>?_
 refine rnN 1 ?_
 refine Xe U rfl rfl rfl rfl rfl rfl fun b hnil=>?_
 have hb:b=true→a0=[]:=fun hb=>by
  have:=hnil hb;simp only[xg,go_sem,qh,qd,qc,qe,qf,qg,reduceIte,reduceCtorEq] at this;exact um this
 clear hnil
 refine nkN J ?_;cases b
 · refine zQ rfl ?_;apply zm;apply hZ1
   refine rg U [2] fun K J=>?_
   by_cases h0:qa a0=0
   · obtain rfl:=um h0;simp only[go_sem,qh,qd,qc,qe,qf,qg,reduceIte,reduceCtorEq,zV,yI,qW,qU,xj,yG,xg,y1,qO,qB,uy,ua,gt_iff_lt];apply J
     apply yg;simp only[ZA,yQ,y5,xN,exists_eq_left',go_sem,qh,qd,qc,qe,qf,qg,reduceIte,reduceCtorEq]
     first|rfl|(simp only[go_sem,qh,qd,qc,qe,qf,qg,reduceIte,reduceCtorEq,ZC,wU,qr]<;>rfl)
   have h1:=eq_false h0;simp only[go_sem,qh,qd,qc,qe,qf,qg,reduceIte,reduceCtorEq,zV,yI,qW,qU,xj,yG,xg,f1,f3,h1,gu,yW,gt_iff_lt,qr,qG,uy];apply J
   apply yg;simp only[ZA,yQ,y5,xN,exists_eq_left',go_sem,qh,qd,qc,qe,qf,qg,reduceIte,reduceCtorEq];exact fin _ _ _ _ (by simp only[ze.at_hd,ze.at_tl,if_true])
 obtain rfl:=hb rfl;refine zS rfl ?_;refine O [2] ?_;apply yg;simp only[ZA,yQ,y5,xN,exists_eq_left',go_sem,qh,qd,qc,qe,qf,qg,reduceIte,reduceCtorEq]
 first|rfl|(simp only[go_sem,qh,qd,qc,qe,qf,qg,reduceIte,reduceCtorEq,Xa,qr,qt,qv,qw]<;>rfl)
theorem xQ.own (a0 r:List yC)(h:xQ a0=some r):ACalls qi 227 [.ds true (qb zy a0) (qa a0) false] [] (fun r' σ'=>r'=.os true 4 0 0 0 (qa r) false∧σ'=[.cells 0 (qb zy r)]):=by
 obtain⟨_u,hu,h⟩:=bind_some h;have gu:=xF hu;cases h
 have f1:=fun nl tt σ=>Z0 E35.len a0 nl tt σ
 have f2:=yf E35.len a0;have f3:=XJ zy a0;refine vdG (rs:=[.tmp 2]) U Tryz.func227 rfl Tryz.ntmps227 rfl Tryz.call227 (by simp) ?_;refine zK [(0,.ds true (qb zy a0) (qa a0) false)] ⟨rfl,trivial⟩ ?_;refine O [0] ?_
 refine zd fun Z1 hZ1=>?_
 refine rc [0,4] fun K J=>?_
 refine rnN 1 ?_
 refine Xe U rfl rfl rfl rfl rfl rfl fun b hnil=>?_
 have hb:b=true→a0=[]:=fun hb=>by
  have:=hnil hb;simp only[xg,go_sem,qh,qd,qc,qe,qf,qg,reduceIte,reduceCtorEq] at this;exact um this
 clear hnil
 refine nkN J ?_;cases b
 · refine zQ rfl ?_;apply zm;apply hZ1
   refine rg U [2] fun K J=>?_
   by_cases h0:qa a0=0
   · obtain rfl:=um h0;simp only[go_sem,qh,qd,qc,qe,qf,qg,reduceIte,reduceCtorEq,zV,yI,qW,qU,xj,yG,xg,y1,qO,qB,uy,ua,gt_iff_lt];apply J
     apply yg;simp only[ZA,yQ,y5,xN,exists_eq_left',go_sem,qh,qd,qc,qe,qf,qg,reduceIte,reduceCtorEq];refine .inl ⟨0,true,by simp,?_,?_⟩
     · first|rfl|(simp only[go_sem,qh,qd,qc,qe,qf,qg,reduceIte,reduceCtorEq,ZC,Yl,if_true]<;>rfl)
     first|rfl|(simp only[go_sem,qh,qd,qc,qe,qf,qg,reduceIte,reduceCtorEq,YR,Xu,Yr,YT,YS,qr]<;>rfl)
   have h1:=eq_false h0;simp only[go_sem,qh,qd,qc,qe,qf,qg,reduceIte,reduceCtorEq,zV,yI,qW,qU,xj,yG,xg,f1,f3,h1,gu,yW,gt_iff_lt,qr,qG,uy];apply J
   apply yg;simp only[ZA,yQ,y5,xN,exists_eq_left',go_sem,qh,qd,qc,qe,qf,qg,reduceIte,reduceCtorEq];refine .inl ⟨1,false,by simp,?_,?_⟩
   · first|rfl|(simp only[go_sem,qh,qd,qc,qe,qf,qg,reduceIte,reduceCtorEq,ZC,Yl,if_true]<;>rfl)
   first|rfl|(simp only[go_sem,qh,qd,qc,qe,qf,qg,reduceIte,reduceCtorEq,YR,Xu,Yr,YT,YS,zw]<;>rfl)
 obtain rfl:=hb rfl;refine zS rfl ?_;refine O [2] ?_;apply yg;simp only[ZA,yQ,y5,xN,exists_eq_left',go_sem,qh,qd,qc,qe,qf,qg,reduceIte,reduceCtorEq];refine .inr ?_
 first|rfl|(simp only[go_sem,qh,qd,qc,qe,qf,qg,reduceIte,reduceCtorEq,Xa,qr,qt,qz,qm,qo]<;>rfl)
theorem xQ.ev (a0 r:List yC)(h:xQ a0=some r)(σ:ze):ACalls qi 227 [.ds true (qb zy a0) (qa a0) false] σ (fun r' σ'=>r'=.ds true (qb zy r) (qa r) false∧σ'=σ):=
 (xQ.ok a0 r h).pureAt (by simp only[AV.canon,xl,xv,ZJ,YB,wE,qN,qo,uh,qm,uC]) (by simp only[AV.canon,xl,xv,ZJ,YB,wE,qN,qo,uh,qm,uC]) σ
def yr.l35 (xu:zp→Option zo)(l14:List yF)(x16:Int)(rec20:List yF→Int→Option zo)(y25:zv):List zp→Int→List zo→Option zo
 |[],x31,l29=>(vaV (qa l14+1) 32).bind fun _u37=>(rec20 (l14++[(⟨y25.fTag,l29⟩:yF)]) (IntKind.i64.wrap (x16+1)))
 |y35::q35,x31,l29=>(xu y35).bind fun r43=>(vaV (qa l29+1) 16).bind fun _u45=>((yr.l35 xu l14 x16 rec20 y25 q35) (x31+1) (l29++[r43]))
def yr.l20 (xu:zp→Option zo)(a0:zp)(r12:List yC):Nat→List yF→Int→Option zo
 |0,_,_=>none
 |k20+1,l14,x16=>(if x16<(qa a0.fEntries:Int) then (YI a0.fEntries x16).bind fun y25=>(yr.l35 xu l14 x16 (yr.l20 xu a0 r12 k20) y25 y25.fTrees 0 ([]:List zo)) else some (zo.node l14 r12))
def yr.l62 (xu:zp→Option zo)(a0:zp)(r12:List yC)(y52:zv):List zp→Int→List zo→Option zo
 |[],x58,l56=>(yr.l20 xu a0 r12 xz [(⟨y52.fTag,l56⟩:yF)] (IntKind.i64.wrap (0+1)))
 |y62::q62,x58,l56=>(xu y62).bind fun r68=>(vaV (qa l56+1) 16).bind fun _u70=>((yr.l62 xu a0 r12 y52 q62) (x58+1) (l56++[r68]))
def yr.body (xu:zp→Option zo)(a0:zp):Option zo:=
 (if a0.fKind=1 then bnd (va3 a0.fN) fun r4=>some r4 else (if a0.fKind=2 then bnd (va2 a0.fS) fun r9=>some r9 else (xQ a0.fRest).bind fun r12=>(if 0<(qa a0.fEntries:Int) then (YI a0.fEntries 0).bind fun y52=>(yr.l62 xu a0 r12 y52 y52.fTrees 0 ([]:List zo)) else some (zo.node ([]:List yF) r12))))
theorem yr.step (xu:zp→Option zo)(ih_value_made:∀ (a0:zp) (r:zo),xu a0=some r→ACalls qi 185 [.agg (zb a0)] [] (fun r' _=>r'=.agg (zi r)))(a0:zp)(r:zo)(h:yr.body xu a0=some r):ACalls qi 185 [.agg (zb a0)] [] (fun r' _=>r'=.agg (zi r)):=by
 have ev_value_made:=fun a0 r h σ=>(ih_value_made a0 r h).c σ
 refine zx (rs:=[.cell 2 228]) U Tryz.func185 rfl Tryz.ntmps185 rfl Tryz.call185 (by simp) ?_;refine zK [(0,.agg (zb a0))] ⟨rfl,trivial⟩ ?_;unfold yr.body at h;refine rgW [1,2] (aI @zb.eq_1 @zf) ?_
 refine zd fun Z1 hZ1=>?_
 refine O [1,2,10] ?_;apply zq;refine rgW [1,2,10,11] qF ?_;refine yv rfl (fun hc2=>?_) (fun hc2=>?_)
 · rw[if_pos hc2] at h;have t3:=eq_true hc2
   refine rc [2] fun K J=>?_
   obtain⟨r4,hr4,h⟩:=yq h;refine rnW 2 t3 ?_;refine clN rfl rfl rfl ((va3.ok hr4).c _) ?_;have f5:=Ye r4;unfold AV.one at f5;refine rnW 1 (aI @zi.eq_1 (aI t3 f5)) ?_;refine nkN J ?_;cases h;exact rtA
 rw[if_neg hc2] at h;have t6:=eq_false hc2;refine rgW [1,2,16] t6 ?_;refine yv rfl (fun hc7=>?_) (fun hc7=>?_)
 · rw[if_pos hc7] at h;have t8:=eq_true hc7
   refine rc [2] fun K J=>?_
   obtain⟨r9,hr9,h⟩:=yq h;refine rnW 2 (aI t6 t8) ?_;refine clN rfl rfl rfl ((va2.ok hr9).c _) ?_;have f10:=Ye r9;unfold AV.one at f10;refine rnW 1 (aI @zi.eq_1 (aI t6 (aI t8 f10))) ?_;refine nkN J ?_;cases h;exact rtA
 rw[if_neg hc7] at h;have t11:=eq_false hc7;apply zm;apply hZ1
 refine rc [1,2,3] fun K J=>?_
 obtain⟨r12,hr12,h⟩:=bind_some h;refine rnW 2 (aI t6 t11) ?_;refine clN rfl rfl rfl (xQ.ev a0.fRest r12 hr12 _) ?_;refine rnW 3 (aI @zI.eq_1 (aI t6 t11)) ?_;refine nkN J ?_
 refine zd fun Z13 hZ13=>?_
 refine rgW [2,3,27,28,29] (aI t6 t11) ?_;apply zq;refine awp_loopS1 (fun m L τ=>∃ (k20:Nat) (l14:List yF) (x16:Int) (v15:Nat),m=0+k20∧L=[(2,.op 0 0 0),(3,.op 1 0 0),(27,.ds true (qb zD a0.fEntries) (qa a0.fEntries) false),(28,.int .i64 (qa a0.fEntries:Int)),(29,.int .i64 x16)]∧τ=([.cells 0 [.nilI],.cells 0 [.os true 2 2 v15 0 (qa l14) false,.ds true (qb zy r12) (qa r12) false],.cells v15 (qb yV l14)]:ze)∧yr.l20 xu a0 r12 k20 l14 x16=some r) (xz+1) ?_ ?_
 · refine rgW [2,3,27,28,29,30] (aI t6 t11) ?_
   refine zd fun Z48 hZ48=>?_
   refine yv rfl (fun hc49=>?_) (fun hc49=>?_)
   · rw[if_pos hc49] at h;have t50:=eq_true hc49;apply zm;apply hZ48
     refine zd fun Z51 hZ51=>?_
     apply zq;obtain⟨y52,hy52,h⟩:=bind_some h;have f53:=E34.idxS hy52;have f54:=E34.loadS rfl rfl hy52;refine rgW [2,3,5,27,28,29] (aI @zU.eq_1 (aI @yD (aI t6 (aI t11 (aI t50 (aI f53 f54)))))) ?_;refine rgW [2,3,5,6,27,28,29] (aI @yJ.eq_1 (aI @yH (aI t6 (aI t11 t50)))) ?_;refine Zw 4 1 1 rfl (by simp) rfl (L:=[(2,.op 1 0 0),(3,.op 2 0 0),(5,.op 3 0 0),(6,.op 4 0 0),(27,.ds true (qb zD a0.fEntries) (qa a0.fEntries) false),(28,.int .i64 (qa a0.fEntries:Int)),(29,.int .i64 0)]) (τ:=[.cells 0 (zb a0),.cells 0 [.nilI],.cells 0 [.ds true [] 0 true,.ds true (qb zy r12) (qa r12) false],.cells 0 (zU y52),.cells 0 [.int .i64 y52.fTag,.os true 1 5 0 0 (qa ([]:List zo)) false],.cells 0 (qb zi ([]:List zo))]) .s ?_
     refine zd fun Z55 hZ55=>?_
     refine rgW [2,3,6,27,28,29,37,38,39] (aI t6 (aI t11 t50)) ?_;apply zq
     refine xr 37 fun hb62=>?_
     replace hb62:qa y52.fTrees≤9223372036854775807:=hb62.1;refine yp (fun m L τ=>∃ (p62 q62:List zp) (x58:Int) (l56:List zo) (v57:Nat),m=qa q62∧L=[(2,.op 0 0 0),(3,.op 1 0 0),(6,.op 2 0 0),(27,.ds true (qb zD a0.fEntries) (qa a0.fEntries) false),(28,.int .i64 (qa a0.fEntries:Int)),(29,.int .i64 0),(37,.ds true (qb yj y52.fTrees) (qa y52.fTrees) false),(38,.int .i64 (qa y52.fTrees:Int)),(39,.int .i64 x58)]∧τ=([.cells 0 [.nilI],.cells 0 [.ds true [] 0 true,.ds true (qb zy r12) (qa r12) false],.cells 0 [.int .i64 y52.fTag,.os true 1 3 v57 0 (qa l56) false],.cells v57 (qb zi l56)]:ze)∧y52.fTrees=p62++q62∧x58=(qa p62:Int)∧yr.l62 xu a0 r12 y52 q62 x58 l56=some r) _ ⟨[],y52.fTrees,0,([]:List zo),0,rfl,rfl,rfl,rfl,rfl,h⟩ (.t [1,2,4,5] false) ?_;rintro m L τ ⟨p62,q62,x58,l56,v57,rfl,rfl,rfl,hE62,hi62,h⟩
     rcases q62 with _|⟨y62,q62⟩
     · have hz62:=xM hE62 hi62;simp only[yr.l62] at h;refine rgW [2,3,6,27,28,29,37,38,39,40] (aI t6 (aI t11 (aI t50 hz62))) ?_
       refine zd fun Z63 hZ63=>?_
       refine zQ rfl ?_;apply yl;apply hZ55
       refine rdE [2,3,27,28,29] fun K J=>?_
       refine DW.start (T:=tab) [.any,.any,.any,.any,.own 1 [],.at [],.eff,.eff,.any,.any,.eff] [(1,[])] ?_;refine DW.runN U 8 ?_;simp only[go_sem,qh,qd,qc,qe,qf,qg,reduceIte,reduceCtorEq,zV,yI,ug,qW,qU,true_and,uj,xj,yG,xg,yJ,yH,zI,t6,t11,t50,hz62,yW,ua,qZ,AV.one,qN,qo,gt_iff_lt,ym,qH,qE,qO,qD,qG,qj,qp,qB,qn,qA,qI];refine DW.runN U 3 ?_;simp only[go_sem,qh,qd,qc,qe,qf,qg,reduceIte,reduceCtorEq,yJ,yH,zI,t6,t11,t50,hz62,yW,ua,qZ,AV.one,qN,qo,gt_iff_lt,ym,qH,qE,qO,qD,qG,qj,qp,qB,qn,qA,qI];refine DW.fin U (by decide +kernel) rfl ?_;simp only[zH,ye,yx,Zn,upd,qc,reduceIte,xh,xO];apply J
       apply hZ51
       refine rgE U [2,3,27,28,29] fun K J=>?_
       simp only[go_sem,qh,qd,qc,qe,qf,qg,reduceIte,reduceCtorEq,Zp,t6,t11,t50,hz62];apply J
       exact⟨_,_,_,(Nat.lt_succ_of_le (Nat.le_of_eq (qn xz))),⟨xz,[(⟨y52.fTag,l56⟩:yF)],IntKind.i64.wrap (0+1),0,rfl,rfl,rfl,h⟩,(.t [0,1,5] false)⟩
     obtain⟨hz62,hw62,hx62,hE'62,hi'62⟩:=xq hE62 hi62 hb62;simp only[yr.l62] at h;refine rgW [2,3,6,27,28,29,37,38,39,40] (aI t6 (aI t11 (aI t50 (aI hz62 hw62)))) ?_
     refine zd fun Z64 hZ64=>?_
     refine zS rfl ?_;apply zm;apply hZ64
     refine zd fun Z65 hZ65=>?_
     apply zq;have f66:=E38.idxS hx62;have f67:=E38.loadS rfl rfl hx62;refine rgW [2,3,6,8,27,28,29,37,38,39] (aI @zb.eq_1 (aI @zf (aI t6 (aI t11 (aI t50 (aI hz62 (aI hw62 (aI f66 f67)))))))) ?_;obtain⟨r68,hr68,h⟩:=bind_some h;have f69:=Ye r68;unfold AV.one at f69;obtain⟨_u70,hu70,h⟩:=bind_some h;have gu70:=xF hu70;have f71:=(yf E282.len l56)
     refine rdE [2,3,6,27,28,29,37,38,39] fun K J=>?_
     refine DW.start (T:=tab) [.any,.own 2 [],.at [],.eff,.eff,.eff,.any,.eff] [(2,[])] ?_;refine DW.runN U 3 ?_;simp only[go_sem,qh,qd,qc,qe,qf,qg,reduceIte,reduceCtorEq,zb,yJ,zf,yH,zi,t6,t11,t50,hz62,hw62,f69,gu70,f71,yW,ua,qZ,AV.one,qN,qo,gt_iff_lt,ym,qH,qE,qO,qD,qG,qj,qp,qB,qn,qA,qI];refine DW.call rfl rfl rfl (ev_value_made y62 r68 hr68 _) ?_;refine DW.runN U 4 ?_;simp only[go_sem,qh,qd,qc,qe,qf,qg,reduceIte,reduceCtorEq,zV,yI,ug,qW,qU,true_and,uj,xj,yG,xg,zb,yJ,zf,yH,zi,t6,t11,t50,hz62,hw62,f69,gu70,f71,yW,ua,qZ,AV.one,qN,qo,gt_iff_lt,ym,qH,qE,qO,qD,qG,qj,qp,qB,qn,qA,qI];refine DW.fin U (by decide +kernel) rfl ?_;simp only[zH,ye,yx,Zn,upd,qc,reduceIte,xh,xO];apply J
     apply hZ65
     refine rgE U [2,3,6,27,28,29,37,38,39] fun K J=>?_
     simp only[go_sem,qh,qd,qc,qe,qf,qg,reduceIte,reduceCtorEq,Zp,t6,t11,t50,hz62,hw62];apply J
     exact⟨_,_,_,qK q62.length,⟨p62++[y62],q62,x58+1,l56++[r68],v57+1,rfl,rfl,rfl,hE'62,hi'62,h⟩,(.t [0,1,2,3] false)⟩
   rw[if_neg hc49] at h;have t72:=eq_false hc49;apply yl;apply hZ13;refine rgW [2] (aI @zi.eq_1 (aI t6 (aI t11 t72))) ?_;cases h;exact rtA
 clear h
 rintro m L τ ⟨k20,l14,x16,v15,rfl,rfl,rfl,h⟩
 rcases k20 with _|k20
 · cases h
 simp only[yr.l20] at h;refine rgW [2,3,27,28,29,30] (aI t6 t11) ?_
 refine zd fun Z21 hZ21=>?_
 refine yv rfl (fun hc22=>?_) (fun hc22=>?_)
 · rw[if_pos hc22] at h;have t23:=eq_true hc22;apply zm;apply hZ21
   refine zd fun Z24 hZ24=>?_
   apply zq;obtain⟨y25,hy25,h⟩:=bind_some h;have f26:=E34.idxS hy25;have f27:=E34.loadS rfl rfl hy25;refine rgW [2,3,5,27,28,29] (aI @zU.eq_1 (aI @yD (aI t6 (aI t11 (aI t23 (aI f26 f27)))))) ?_;refine rgW [2,3,5,6,27,28,29] (aI @yJ.eq_1 (aI @yH (aI t6 (aI t11 t23)))) ?_;refine Zw 4 1 1 rfl (by simp) rfl (L:=[(2,.op 0 0 0),(3,.op 1 0 0),(5,.op 3 0 0),(6,.op 4 0 0),(27,.ds true (qb zD a0.fEntries) (qa a0.fEntries) false),(28,.int .i64 (qa a0.fEntries:Int)),(29,.int .i64 x16)]) (τ:=[.cells 0 [.nilI],.cells 0 [.os true 2 2 v15 0 (qa l14) false,.ds true (qb zy r12) (qa r12) false],.cells v15 (qb yV l14),.cells 0 (zU y25),.cells 0 [.int .i64 y25.fTag,.os true 1 5 0 0 (qa ([]:List zo)) false],.cells 0 (qb zi ([]:List zo))]) .s ?_
   refine zd fun Z28 hZ28=>?_
   refine rgW [2,3,6,27,28,29,37,38,39] (aI t6 (aI t11 t23)) ?_;apply zq
   refine xr 37 fun hb35=>?_
   replace hb35:qa y25.fTrees≤9223372036854775807:=hb35.1;refine yp (fun m L τ=>∃ (p35 q35:List zp) (x31:Int) (l29:List zo) (v30:Nat),m=qa q35∧L=[(2,.op 0 0 0),(3,.op 1 0 0),(6,.op 3 0 0),(27,.ds true (qb zD a0.fEntries) (qa a0.fEntries) false),(28,.int .i64 (qa a0.fEntries:Int)),(29,.int .i64 x16),(37,.ds true (qb yj y25.fTrees) (qa y25.fTrees) false),(38,.int .i64 (qa y25.fTrees:Int)),(39,.int .i64 x31)]∧τ=([.cells 0 [.nilI],.cells 0 [.os true 2 2 v15 0 (qa l14) false,.ds true (qb zy r12) (qa r12) false],.cells v15 (qb yV l14),.cells 0 [.int .i64 y25.fTag,.os true 1 4 v30 0 (qa l29) false],.cells v30 (qb zi l29)]:ze)∧y25.fTrees=p35++q35∧x31=(qa p35:Int)∧yr.l35 xu l14 x16 (yr.l20 xu a0 r12 k20) y25 q35 x31 l29=some r) _ ⟨[],y25.fTrees,0,([]:List zo),0,rfl,rfl,rfl,rfl,rfl,h⟩ (.t [0,1,2,4,5] false) ?_;rintro m L τ ⟨p35,q35,x31,l29,v30,rfl,rfl,rfl,hE35,hi35,h⟩
   rcases q35 with _|⟨y35,q35⟩
   · have hz35:=xM hE35 hi35;simp only[yr.l35] at h;refine rgW [2,3,6,27,28,29,37,38,39,40] (aI t6 (aI t11 (aI t23 hz35))) ?_
     refine zd fun Z36 hZ36=>?_
     refine zQ rfl ?_;apply yl;apply hZ28;obtain⟨_u37,hu37,h⟩:=bind_some h;have gu37:=xF hu37;have f38:=(yf E324.len l14)
     refine rdE [2,3,27,28,29] fun K J=>?_
     refine DW.start (T:=tab) [.any,.any,.any,.any,.own 1 [],.at [],.eff,.eff,.any,.any,.eff] [(1,[])] ?_;refine DW.runN U 8 ?_;simp only[go_sem,qh,qd,qc,qe,qf,qg,reduceIte,reduceCtorEq,zV,yI,ug,qW,qU,true_and,uj,xj,yG,xg,yJ,yH,zI,t6,t11,t23,hz35,gu37,f38,yW,ua,qZ,AV.one,qN,qo,gt_iff_lt,ym,qH,qE,qO,qD,qG,qj,qp,qB,qn,qA,qI];refine DW.runN U 3 ?_;simp only[go_sem,qh,qd,qc,qe,qf,qg,reduceIte,reduceCtorEq,yJ,yH,zI,t6,t11,t23,hz35,gu37,f38,yW,ua,qZ,AV.one,qN,qo,gt_iff_lt,ym,qH,qE,qO,qD,qG,qj,qp,qB,qn,qA,qI];refine DW.fin U (by decide +kernel) rfl ?_;simp only[zH,ye,yx,Zn,upd,qc,reduceIte,xh,xO];apply J
     apply hZ24
     refine rgE U [2,3,27,28,29] fun K J=>?_
     simp only[go_sem,qh,qd,qc,qe,qf,qg,reduceIte,reduceCtorEq,Zp,t6,t11,t23,hz35];apply J
     exact⟨_,_,_,qK (0+k20),⟨k20,l14++[(⟨y25.fTag,l29⟩:yF)],IntKind.i64.wrap (x16+1),v15+1,rfl,rfl,rfl,h⟩,(.t [0,1,2] false)⟩
   obtain⟨hz35,hw35,hx35,hE'35,hi'35⟩:=xq hE35 hi35 hb35;simp only[yr.l35] at h;refine rgW [2,3,6,27,28,29,37,38,39,40] (aI t6 (aI t11 (aI t23 (aI hz35 hw35)))) ?_
   refine zd fun Z39 hZ39=>?_
   refine zS rfl ?_;apply zm;apply hZ39
   refine zd fun Z40 hZ40=>?_
   apply zq;have f41:=E38.idxS hx35;have f42:=E38.loadS rfl rfl hx35;refine rgW [2,3,6,8,27,28,29,37,38,39] (aI @zb.eq_1 (aI @zf (aI t6 (aI t11 (aI t23 (aI hz35 (aI hw35 (aI f41 f42)))))))) ?_;obtain⟨r43,hr43,h⟩:=bind_some h;have f44:=Ye r43;unfold AV.one at f44;obtain⟨_u45,hu45,h⟩:=bind_some h;have gu45:=xF hu45;have f46:=(yf E282.len l29)
   refine rdE [2,3,6,27,28,29,37,38,39] fun K J=>?_
   refine DW.start (T:=tab) [.any,.own 2 [],.at [],.eff,.eff,.eff,.any,.eff] [(2,[])] ?_;refine DW.runN U 3 ?_;simp only[go_sem,qh,qd,qc,qe,qf,qg,reduceIte,reduceCtorEq,zb,yJ,zf,yH,zi,t6,t11,t23,hz35,hw35,f44,gu45,f46,yW,ua,qZ,AV.one,qN,qo,gt_iff_lt,ym,qH,qE,qO,qD,qG,qj,qp,qB,qn,qA,qI];refine DW.call rfl rfl rfl (ev_value_made y35 r43 hr43 _) ?_;refine DW.runN U 4 ?_;simp only[go_sem,qh,qd,qc,qe,qf,qg,reduceIte,reduceCtorEq,zV,yI,ug,qW,qU,true_and,uj,xj,yG,xg,zb,yJ,zf,yH,zi,t6,t11,t23,hz35,hw35,f44,gu45,f46,yW,ua,qZ,AV.one,qN,qo,gt_iff_lt,ym,qH,qE,qO,qD,qG,qj,qp,qB,qn,qA,qI];refine DW.fin U (by decide +kernel) rfl ?_;simp only[zH,ye,yx,Zn,upd,qc,reduceIte,xh,xO];apply J
   apply hZ40
   refine rgE U [2,3,6,27,28,29,37,38,39] fun K J=>?_
   simp only[go_sem,qh,qd,qc,qe,qf,qg,reduceIte,reduceCtorEq,Zp,t6,t11,t23,hz35,hw35];apply J
   exact⟨_,_,_,qK q35.length,⟨p35++[y35],q35,x31+1,l29++[r43],v30+1,rfl,rfl,rfl,hE'35,hi'35,h⟩,(.t [0,1,2,3,4] false)⟩
 rw[if_neg hc22] at h;have t47:=eq_false hc22;apply yl;apply hZ13;refine rgW [2] (aI @zi.eq_1 (aI t6 (aI t11 t47))) ?_;cases h;exact rtA
end
section
set_option maxRecDepth 4000
set_option maxHeartbeats 1000000
open AM
def yr : Nat→zp→Option zo
 |0,_=>none
 |k+1,a0=>yr.body (yr k) a0
theorem yr.all (k:Nat):(∀ (a0:zp) (r:zo),yr k a0=some r→ACalls qi 185 [.agg (zb a0)] [] (fun r' _=>r'=.agg (zi r))):=by
 induction k with
 |zero=>exact (fun a0 r h=>by simp only[yr] at h; cases h)
 |succ k ih=>exact (fun a0 r h=>yr.step _ ih a0 r (by simpa only [yr] using h))
theorem yr.ev (k:Nat)(a0:zp)(r:zo)(h:yr k a0=some r)(σ:ze):ACalls qi 185 [.agg (zb a0)] σ (fun r' σ'=>r'=.agg (zi r)∧σ'=σ):=
 ((yr.all k) a0 r h).c σ
def Xm (a0:zp):Option (zo×Bool):=
 (Yb a0).bind fun r2=>(if (!r2)=true then some (zo.nil,false) else (yr xz a0).bind fun r4=>some (r4,true))
theorem Xm.ok {a0 r}(h:Xm a0=some r):ACalls qi 144 [.agg (zb a0)] [] (fun r' _=>r'=.tup [.agg (zi r.1),.bool r.2]):=by
 refine zx (rs:=[.cell 2 228,.tmp 3]) U Tryz.func144 rfl Tryz.ntmps144 rfl Tryz.call144 (by simp) ?_;refine zK [(0,.agg (zb a0))] ⟨rfl,trivial⟩ ?_;unfold Xm at h;refine rgW [1,2] (aI @zb.eq_1 @zf) ?_
 refine zd fun Z1 hZ1=>?_
 refine rc [1,2,6] fun K J=>?_
 obtain⟨r2,hr2,h⟩:=bind_some h;refine rnW 1 (aI @zb.eq_1 @zf) ?_;refine clN rfl rfl rfl ((Yb.ok hr2).c _) ?_;refine rnW 1 (aI @zb.eq_1 @zf) ?_;refine nkN J ?_;refine zY (b:=(!r2)) rfl (fun hc3=>?_) (fun hc3=>?_)
 · rw[if_pos hc3] at h;refine rgW [2,3] @zi.eq_1 ?_;cases h;exact rtA
 rw[Zc hc3] at h;apply zm;apply hZ1
 refine rc [2,3] fun K J=>?_
 obtain⟨r4,hr4,h⟩:=bind_some h;refine rnW 1 (aI @zb.eq_1 @zf) ?_;refine clN rfl rfl rfl (yr.ev xz a0 r4 hr4 _) ?_;have f5:=Ye r4;unfold AV.one at f5;refine rnW 2 (aI @zb.eq_1 (aI @zf (aI @zi.eq_1 f5))) ?_;refine nkN J ?_;cases h;exact rtA
def xL (a0:zo):Option zZ:=
 (match a0 with|.nil=>none|.num n2=>none|.str s2=>none|.node e2 r2=>some (⟨e2,r2⟩:zZ))
theorem xL.ok {a0 r}(h:xL a0=some r):ACalls qi 146 [.agg (zi a0)] [] (fun r' _=>r'=.dp (zI r) 0):=by
 refine zx (rs:=[.tmp 2]) U Tryz.func146 rfl Tryz.ntmps146 rfl Tryz.call146 (by simp) ?_;refine zK [(0,.agg (zi a0))] ⟨rfl,trivial⟩ ?_;unfold xL at h;have f1:=Ye a0;unfold AV.one at f1;refine rgW [1] (aI @zi.eq_1 f1) ?_
 rcases a0 with _|n2|s2|⟨e2,r2⟩
 · dsimp only at h
   try simp only[Xp,XQ,zi]
   cases h
 · dsimp only at h
   try simp only[Xo,XP,zi]
   cases h
 · dsimp only at h
   try simp only[Xn,XO,zi]
   cases h
 dsimp only at h
 try simp only[Yz,Y8,zi]
 refine rg U [2] fun K J=>?_
 simp only[go_sem,qh,qd,qc,qe,qf,qg,reduceIte,reduceCtorEq,xA,xC,TypeDesc.isIface];apply J
 cases h;exact rtA
def wt (a0:zZ):Option (List yC):=
 (xQ a0.frest).bind fun r1=>some r1
theorem wt.own {a0 r}(h:wt a0=some r):ACalls qi 186 [.dp (zI a0) 0] [] (fun r' σ'=>r'=.os true 4 0 0 0 (qa r) false∧σ'=[.cells 0 (qb zy r)]):=by
 refine ACalls.own0 (by simp only[push_cast]) ?_;refine vcE (rs:=[.tmp 2]) U Tryz.func186 rfl Tryz.ntmps186 rfl Tryz.call186 (by simp) ?_;refine zK [(0,.dp (zI a0) 0)] ⟨rfl,trivial⟩ ?_;unfold wt at h;refine O [0] ?_
 refine rc [2] fun K J=>?_
 obtain⟨r1,hr1,h⟩:=bind_some h;refine xE U 4 ?_;simp only[go_sem,qh,qd,qc,qe,qf,qg,reduceIte,reduceCtorEq,zI,vbg];refine clN rfl rfl rfl (@id (ACalls qi 227 [.ds true (qb zy a0.frest) (qa a0.frest) false] [] (fun r' σ'=>r'=.os true 4 0 0 0 (qa r1) false∧σ'=[.cells 0 (qb zy r1)])) ((xQ.own a0.frest r1 hr1).ownAt0 (by simp only[push_cast]) (by simp only[push_cast]) _)) ?_;refine rnW 1 @zI.eq_1 ?_;refine nkN J ?_;apply yg;cases h;simp only[ZA,yQ,y5,xN,exists_eq_left',go_sem,qh,qd,qc,qe,qf,qg,reduceIte,reduceCtorEq,zy];refine⟨0,0,by simp,?_,?_⟩
 · first|rfl|(simp only[go_sem,qh,qd,qc,qe,qf,qg,reduceIte,reduceCtorEq,push_cast,if_true,qq,qn,qu,qr,qs,qt,qz,qo,qw,qv,qm,zw,zy]<;>rfl)
 first|rfl|(simp only[go_sem,qh,qd,qc,qe,qf,qg,reduceIte,reduceCtorEq,push_cast,if_true,qq,qn,qu,qr,qs,qt,qz,qo,qw,qv,qm,zw,zy]<;>rfl)
theorem wt.ok {a0 r}(h:wt a0=some r):ACalls qi 186 [.dp (zI a0) 0] [] (fun r' _=>r'=.ds true (qb zy r) (qa r) false):=
 (wt.own h).ownData (yf E35.len r) (by simp only[push_cast])
def xn.l8 : List yF→Int→List Int→Option (List Int)
 |[],x4,l2=>some l2
 |y8::q8,x4,l2=>(vaV (qa l2+1) 8).bind fun _u14=>((xn.l8 q8) (x4+1) (l2++[y8.ftag]))
def xn (a0:zZ):Option (List Int):=
 (xn.l8 a0.fentries 0 ([]:List Int))
theorem xn.own {a0 r}(h:xn a0=some r):ACalls qi 187 [.dp (zI a0) 0] [] (fun r' σ'=>r'=.os true 1 0 0 0 (qa r) false∧σ'=[.cells 0 (qb wJ r)]):=by
 refine ACalls.own0 (by simp only[push_cast]) ?_;refine vcE (rs:=[.tmp 2]) U Tryz.func187 rfl Tryz.ntmps187 rfl Tryz.call187 (by simp) ?_;refine zK [(0,.dp (zI a0) 0)] ⟨rfl,trivial⟩ ?_;unfold xn at h;refine O [0] ?_;refine O [0,3] ?_;refine vaA 3 1 rfl ?_;refine xB (L:=[(0,.dp (zI a0) 0),(3,.os true 1 0 0 0 (qa ([]:List Int)) false)]) (τ:=[.cells 0 (qb wJ ([]:List Int))]) .s ?_
 refine zd fun Z1 hZ1=>?_
 refine rg U [3,9,10,11] fun K J=>?_
 simp only[go_sem,qh,qd,qc,qe,qf,qg,reduceIte,reduceCtorEq,zI,vbg];apply J
 apply zq
 refine xr 9 fun hb8=>?_
 replace hb8:qa a0.fentries≤9223372036854775807:=hb8.1;refine yp (fun m L τ=>∃ (p8 q8:List yF) (x4:Int) (l2:List Int) (v3:Nat),m=qa q8∧L=[(3,.os true 1 0 v3 0 (qa l2) false),(9,.ds true (qb yV a0.fentries) (qa a0.fentries) false),(10,.int .i64 (qa a0.fentries:Int)),(11,.int .i64 x4)]∧τ=([.cells v3 (qb wJ l2)]:ze)∧a0.fentries=p8++q8∧x4=(qa p8:Int)∧xn.l8 q8 x4 l2=some r) _ ⟨[],a0.fentries,0,([]:List Int),0,rfl,rfl,rfl,rfl,rfl,h⟩ .s ?_;rintro m L τ ⟨p8,q8,x4,l2,v3,rfl,rfl,rfl,hE8,hi8,h⟩
 rcases q8 with _|⟨y8,q8⟩
 · have hz8:=xM hE8 hi8;simp only[xn.l8] at h;refine rgW [3,9,10,11,12] hz8 ?_
   refine zd fun Z9 hZ9=>?_
   refine zQ rfl ?_;apply yl;apply hZ1;refine rgW [2] hz8 ?_;apply yg;cases h;simp only[ZA,yQ,y5,xN,exists_eq_left',go_sem,qh,qd,qc,qe,qf,qg,reduceIte,reduceCtorEq];refine⟨0,v3,by simp,?_,?_⟩
   · first|rfl|(simp only[go_sem,qh,qd,qc,qe,qf,qg,reduceIte,reduceCtorEq,push_cast,if_true,qq,qn,qu,qr,qs,qt,qz,qo,qw,qv,qm,zw]<;>rfl)
   first|rfl|(simp only[go_sem,qh,qd,qc,qe,qf,qg,reduceIte,reduceCtorEq,push_cast,if_true,qq,qn,qu,qr,qs,qt,qz,qo,qw,qv,qm,zw]<;>rfl)
 obtain⟨hz8,hw8,hx8,hE'8,hi'8⟩:=xq hE8 hi8 hb8;simp only[xn.l8] at h;refine rgW [3,9,10,11,12] (aI hz8 hw8) ?_
 refine zd fun Z10 hZ10=>?_
 refine zS rfl ?_;apply zm;apply hZ10
 refine zd fun Z11 hZ11=>?_
 apply zq;have f12:=E324.idxS hx8;have f13:=E324.loadS rfl rfl hx8;refine rgW [3,5,9,10,11] (aI @yJ.eq_1 (aI @yH (aI hz8 (aI hw8 (aI f12 f13))))) ?_;obtain⟨_u14,hu14,h⟩:=bind_some h;have gu14:=xF hu14;have f15:=(yf E26.len l2)
 refine rgE U [3,9,10,11] fun K J=>?_
 simp only[go_sem,qh,qd,qc,qe,qf,qg,reduceIte,reduceCtorEq,zV,yI,ug,qW,qU,true_and,uj,xj,yG,xg,wJ,hz8,hw8,gu14,f15,yW,ua,qZ,AV.one,qN,qo,gt_iff_lt,ym,qH,qE,qO,qD,qG,qj,qp,qB,qn,qA,qI];apply J
 apply hZ11
 refine rgE U [3,9,10,11] fun K J=>?_
 simp only[go_sem,qh,qd,qc,qe,qf,qg,reduceIte,reduceCtorEq,Zp,hz8,hw8];apply J
 exact⟨_,_,_,qK q8.length,⟨p8++[y8],q8,x4+1,l2++[y8.ftag],v3+1,rfl,rfl,rfl,hE'8,hi'8,h⟩,(.t [0] false)⟩
theorem xn.ok {a0 r}(h:xn a0=some r):ACalls qi 187 [.dp (zI a0) 0] [] (fun r' _=>r'=.ds true (qb wJ r) (qa r) false):=
 (xn.own h).ownData (yf E26.len r) (by simp only[push_cast])
def wp (a0:List zo):Option (List zo):=(vaV (qa a0) 16).bind fun _=>some a0
theorem wp.own (a0 r:List zo)(h:wp a0=some r):ACalls qi 228 [.ds true (qb zi a0) (qa a0) false] [] (fun r' σ'=>r'=.os true 1 0 0 0 (qa r) false∧σ'=[.cells 0 (qb zi r)]):=by
 obtain⟨_u,hu,h⟩:=bind_some h;have gu:=xF hu;cases h
 have f1:=fun nl tt σ=>Z0 E282.len a0 nl tt σ
 have f2:=yf E282.len a0;have f3:=XJ zi a0;refine vdG (rs:=[.tmp 2]) U Tryz.func228 rfl Tryz.ntmps228 rfl Tryz.call228 (by simp) ?_;refine zK [(0,.ds true (qb zi a0) (qa a0) false)] ⟨rfl,trivial⟩ ?_;refine O [0] ?_
 refine zd fun Z1 hZ1=>?_
 refine rc [0,4] fun K J=>?_
 refine rnN 1 ?_
 refine Xe U rfl rfl rfl rfl rfl rfl fun b hnil=>?_
 have hb:b=true→a0=[]:=fun hb=>by
  have:=hnil hb;simp only[xg,go_sem,qh,qd,qc,qe,qf,qg,reduceIte,reduceCtorEq] at this;exact um this
 clear hnil
 refine nkN J ?_;cases b
 · refine zQ rfl ?_;apply zm;apply hZ1
   refine rg U [2] fun K J=>?_
   by_cases h0:qa a0=0
   · obtain rfl:=um h0;simp only[go_sem,qh,qd,qc,qe,qf,qg,reduceIte,reduceCtorEq,zV,yI,qW,qU,xj,yG,xg,y1,qO,qB,uy,ua,gt_iff_lt];apply J
     apply yg;simp only[ZA,yQ,y5,xN,exists_eq_left',go_sem,qh,qd,qc,qe,qf,qg,reduceIte,reduceCtorEq];refine .inl ⟨0,true,by simp,?_,?_⟩
     · first|rfl|(simp only[go_sem,qh,qd,qc,qe,qf,qg,reduceIte,reduceCtorEq,ZC,Yl,if_true]<;>rfl)
     first|rfl|(simp only[go_sem,qh,qd,qc,qe,qf,qg,reduceIte,reduceCtorEq,YR,Xu,Yr,YT,YS,qr]<;>rfl)
   have h1:=eq_false h0;simp only[go_sem,qh,qd,qc,qe,qf,qg,reduceIte,reduceCtorEq,zV,yI,qW,qU,xj,yG,xg,f1,f3,h1,gu,yW,gt_iff_lt,qr,qG,uy];apply J
   apply yg;simp only[ZA,yQ,y5,xN,exists_eq_left',go_sem,qh,qd,qc,qe,qf,qg,reduceIte,reduceCtorEq];refine .inl ⟨1,false,by simp,?_,?_⟩
   · first|rfl|(simp only[go_sem,qh,qd,qc,qe,qf,qg,reduceIte,reduceCtorEq,ZC,Yl,if_true]<;>rfl)
   first|rfl|(simp only[go_sem,qh,qd,qc,qe,qf,qg,reduceIte,reduceCtorEq,YR,Xu,Yr,YT,YS,zw]<;>rfl)
 obtain rfl:=hb rfl;refine zS rfl ?_;refine O [2] ?_;apply yg;simp only[ZA,yQ,y5,xN,exists_eq_left',go_sem,qh,qd,qc,qe,qf,qg,reduceIte,reduceCtorEq];refine .inr ?_
 first|rfl|(simp only[go_sem,qh,qd,qc,qe,qf,qg,reduceIte,reduceCtorEq,Xa,qr,qt,qz,qm,qo]<;>rfl)
def yP.l4 (a1:Int):List yF→Int→Option (List zo)
 |[],x2=>some ([]:List zo)
 |y4::q4,x2=>(if y4.ftag=a1 then (wp y4.fl).bind fun r12=>some r12 else ((yP.l4 a1 q4) (x2+1)))
def yP (a0:zZ)(a1:Int):Option (List zo):=
 (yP.l4 a1 a0.fentries 0)
theorem yP.ok {a0 a1 r}(h:yP a0 a1=some r):ACalls qi 188 [.dp (zI a0) 0,.int .i64 a1] [] (fun r' _=>r'=.ds true (qb zi r) (qa r) false):=by
 refine zx (rs:=[.tmp 4]) U Tryz.func188 rfl Tryz.ntmps188 rfl Tryz.call188 (by simp) ?_;refine zK [(0,.dp (zI a0) 0),(1,.int .i64 a1)] ⟨rfl,rfl,trivial⟩ ?_;unfold yP at h;refine O [0,1] ?_
 refine zd fun Z1 hZ1=>?_
 refine rg U [1,10,11,12] fun K J=>?_
 simp only[go_sem,qh,qd,qc,qe,qf,qg,reduceIte,reduceCtorEq,zI,vbg];apply J
 apply zq
 refine xr 10 fun hb4=>?_
 replace hb4:qa a0.fentries≤9223372036854775807:=hb4.1;refine yp (fun m L τ=>∃ (p4 q4:List yF) (x2:Int),m=qa q4∧L=[(1,.int .i64 a1),(10,.ds true (qb yV a0.fentries) (qa a0.fentries) false),(11,.int .i64 (qa a0.fentries:Int)),(12,.int .i64 x2)]∧τ=([]:ze)∧a0.fentries=p4++q4∧x2=(qa p4:Int)∧yP.l4 a1 q4 x2=some r) _ ⟨[],a0.fentries,0,rfl,rfl,rfl,rfl,rfl,h⟩ .s ?_;rintro m L τ ⟨p4,q4,x2,rfl,rfl,rfl,hE4,hi4,h⟩
 rcases q4 with _|⟨y4,q4⟩
 · have hz4:=xM hE4 hi4;simp only[yP.l4] at h;refine rgW [1,10,11,12,13] hz4 ?_
   refine zd fun Z5 hZ5=>?_
   refine zQ rfl ?_;apply yl;apply hZ1;refine rgW [4] hz4 ?_;cases h;exact rtA
 obtain⟨hz4,hw4,hx4,hE'4,hi'4⟩:=xq hE4 hi4 hb4;simp only[yP.l4] at h;refine rgW [1,10,11,12,13] (aI hz4 hw4) ?_
 refine zd fun Z6 hZ6=>?_
 refine zS rfl ?_;apply zm;apply hZ6
 refine zd fun Z7 hZ7=>?_
 apply zq;have f8:=E324.idxS hx4;have f9:=E324.loadS rfl rfl hx4;refine rgW [1,6,10,11,12] (aI @yJ.eq_1 (aI @yH (aI hz4 (aI hw4 (aI f8 f9))))) ?_;refine rgW [1,6,10,11,12,19] (aI hz4 hw4) ?_;refine yv rfl (fun hc10=>?_) (fun hc10=>?_)
 · rw[if_pos hc10] at h;have t11:=eq_true hc10
   refine rc [4] fun K J=>?_
   obtain⟨r12,hr12,h⟩:=bind_some h;refine rnW 2 (aI hz4 (aI hw4 t11)) ?_;refine clN rfl rfl rfl (@id (ACalls qi 228 [.ds true (qb zi y4.fl) (qa y4.fl) false] [.cells 0 (yJ y4)] (fun r' σ'=>r'=.os true 1 1 0 0 (qa r12) false∧σ'=[.cells 0 (yJ y4),.cells 0 (qb zi r12)])) ((wp.own y4.fl r12 hr12).ownAt0 (by simp only[push_cast]) (by simp only[push_cast]) _)) ?_;refine rnW 1 (aI hz4 (aI hw4 t11)) ?_;refine nkN J ?_;cases h;exact rtA
 rw[if_neg hc10] at h;have t13:=eq_false hc10;apply zm;apply hZ7
 refine rgE U [1,10,11,12] fun K J=>?_
 simp only[go_sem,qh,qd,qc,qe,qf,qg,reduceIte,reduceCtorEq,Zp,hz4,hw4,t13];apply J
 exact⟨_,_,_,qK q4.length,⟨p4++[y4],q4,x2+1,rfl,rfl,rfl,hE'4,hi'4,h⟩,(.t [] false)⟩
def wW (a0:zo):Int×Bool:=
 (match a0 with|.nil=>(0,false)|.num n2=>(n2,true)|.str s2=>(0,false)|.node e2 r2=>(0,false))
theorem wW.ok {a0 r}(h:wW a0=r):ACalls qi 243 [.agg (zi a0)] [] (fun r' _=>r'=.tup [.int .i64 r.1,.bool r.2]):=by
 refine zx (rs:=[.tmp 2,.tmp 3]) U Tryz.func243 rfl Tryz.ntmps243 rfl Tryz.call243 (by simp) ?_;refine zK [(0,.agg (zi a0))] ⟨rfl,trivial⟩ ?_;unfold wW at h;have f1:=Ye a0;unfold AV.one at f1;refine rgW [1] (aI @zi.eq_1 f1) ?_
 rcases a0 with _|n2|s2|⟨e2,r2⟩
 · dsimp only at h
   try simp only[Xp,XQ,zi]
   refine rg U [4,5] fun K J=>?_
   simp only[go_sem,qh,qd,qc,qe,qf,qg,reduceIte,reduceCtorEq,xA,xC,TypeDesc.isIface];apply J
   refine O [2,3] ?_;cases h;exact rtA
 · dsimp only at h
   try simp only[Xo,XP,zi]
   refine rg U [4,5] fun K J=>?_
   simp only[go_sem,qh,qd,qc,qe,qf,qg,reduceIte,reduceCtorEq,xA,xC,TypeDesc.isIface];apply J
   refine O [2,3] ?_;cases h;exact rtA
 · dsimp only at h
   try simp only[Xn,XO,zi]
   refine rg U [4,5] fun K J=>?_
   simp only[go_sem,qh,qd,qc,qe,qf,qg,reduceIte,reduceCtorEq,xA,xC,TypeDesc.isIface];apply J
   refine O [2,3] ?_;cases h;exact rtA
 dsimp only at h
 try simp only[Yz,Y8,zi]
 refine rg U [4,5] fun K J=>?_
 simp only[go_sem,qh,qd,qc,qe,qf,qg,reduceIte,reduceCtorEq,xA,xC,TypeDesc.isIface];apply J
 refine O [2,3] ?_;cases h;exact rtA
def ZR (a0:zo):List UInt8×Bool:=
 (match a0 with|.nil=>([],false)|.num n2=>([],false)|.str s2=>(s2,true)|.node e2 r2=>([],false))
theorem ZR.ok {a0 r}(h:ZR a0=r):ACalls qi 244 [.agg (zi a0)] [] (fun r' _=>r'=.tup [.str r.1,.bool r.2]):=by
 refine zx (rs:=[.tmp 2,.tmp 3]) U Tryz.func244 rfl Tryz.ntmps244 rfl Tryz.call244 (by simp) ?_;refine zK [(0,.agg (zi a0))] ⟨rfl,trivial⟩ ?_;unfold ZR at h;have f1:=Ye a0;unfold AV.one at f1;refine rgW [1] (aI @zi.eq_1 f1) ?_
 rcases a0 with _|n2|s2|⟨e2,r2⟩
 · dsimp only at h
   try simp only[Xp,XQ,zi]
   refine rg U [4,5] fun K J=>?_
   simp only[go_sem,qh,qd,qc,qe,qf,qg,reduceIte,reduceCtorEq,xA,xC,TypeDesc.isIface];apply J
   refine O [2,3] ?_;cases h;exact rtA
 · dsimp only at h
   try simp only[Xo,XP,zi]
   refine rg U [4,5] fun K J=>?_
   simp only[go_sem,qh,qd,qc,qe,qf,qg,reduceIte,reduceCtorEq,xA,xC,TypeDesc.isIface];apply J
   refine O [2,3] ?_;cases h;exact rtA
 · dsimp only at h
   try simp only[Xn,XO,zi]
   refine rg U [4,5] fun K J=>?_
   simp only[go_sem,qh,qd,qc,qe,qf,qg,reduceIte,reduceCtorEq,xA,xC,TypeDesc.isIface];apply J
   refine O [2,3] ?_;cases h;exact rtA
 dsimp only at h
 try simp only[Yz,Y8,zi]
 refine rg U [4,5] fun K J=>?_
 simp only[go_sem,qh,qd,qc,qe,qf,qg,reduceIte,reduceCtorEq,xA,xC,TypeDesc.isIface];apply J
 refine O [2,3] ?_;cases h;exact rtA
def Yg (a0:zo):Option zo:=
 bnd (wW a0) fun r3=>(if r3.2=true then some (zo.num r3.1) else bnd (ZR a0) fun r6=>(if r6.2=true then some (zo.str r6.1) else (xL a0).bind fun r8=>some (zo.node r8.fentries r8.frest)))
theorem Yg.ok {a0 r}(h:Yg a0=some r):ACalls qi 229 [.agg (zi a0)] [] (fun r' _=>r'=anyV r):=by
 refine zx (rs:=[.tmp 2]) U Tryz.func229 rfl Tryz.ntmps229 rfl Tryz.call229 (by simp) ?_;refine zK [(0,.agg (zi a0))] ⟨rfl,trivial⟩ ?_;unfold Yg at h;have f1:=Ye a0;unfold AV.one at f1;refine rgW [1] (aI @zi.eq_1 f1) ?_
 refine zd fun Z2 hZ2=>?_
 refine rc [1,3,4] fun K J=>?_
 obtain⟨r3,hr3,h⟩:=yq h;refine rnW 1 @zi.eq_1 ?_;refine clN rfl rfl rfl ((wW.ok hr3).c _) ?_;refine rnW 5 @zi.eq_1 ?_;refine nkN J ?_;refine O [1,3,12] ?_;refine zY (b:=r3.2) rfl (fun hc4=>?_) (fun hc4=>?_)
 · rw[if_pos hc4] at h;refine O [2] ?_;cases h;exact rtA
 rw[Zc hc4] at h;apply zm;apply hZ2
 refine zd fun Z5 hZ5=>?_
 refine rc [1,5,6] fun K J=>?_
 obtain⟨r6,hr6,h⟩:=yq h;refine rnW 1 @zi.eq_1 ?_;refine clN rfl rfl rfl ((ZR.ok hr6).c _) ?_;refine rnW 5 @zi.eq_1 ?_;refine nkN J ?_;refine O [1,5,20] ?_;refine zY (b:=r6.2) rfl (fun hc7=>?_) (fun hc7=>?_)
 · rw[if_pos hc7] at h;refine O [2] ?_;cases h;exact rtA
 rw[Zc hc7] at h;apply zm;apply hZ5
 refine rc [2] fun K J=>?_
 obtain⟨r8,hr8,h⟩:=bind_some h;refine rnW 1 @zi.eq_1 ?_;refine clN rfl rfl rfl ((xL.ok hr8).c _) ?_;refine rnW 2 @zi.eq_1 ?_;refine nkN J ?_;cases h;exact rtA
def wy.l9 : Nat→List UInt8→Int→Option (List UInt8)
 |0,_,_=>none
 |k9+1,l3,x5=>(if 128≤x5 then (vaV (qa l3+1) 1).bind fun _u14=>((wy.l9 k9) (l3++[ur (qT (IntKind.u8.wrap ((uz (qM 8 (IntKind.u8.wrap x5) ||| qM 8 128):Nat):Int)))]) (Int.fdiv x5 (2^(min (qT 7) 64)))) else (vaV (qa l3+1) 1).bind fun _u18=>some (l3++[ur (qT (IntKind.u8.wrap x5))]))
def wy (a0:List UInt8)(a1:Int):Option (List UInt8):=
 (if 128≤a1 then (vaV (qa a0+1) 1).bind fun _u24=>(wy.l9 xz (a0++[ur (qT (IntKind.u8.wrap ((uz (qM 8 (IntKind.u8.wrap a1) ||| qM 8 128):Nat):Int)))]) (Int.fdiv a1 (2^(min (qT 7) 64)))) else (vaV (qa a0+1) 1).bind fun _u28=>some (a0++[ur (qT (IntKind.u8.wrap a1))]))
theorem wy.own {a0 a1 r}(h:wy a0 a1=some r):ACalls qi 191 [.ds true (qb Ym a0) (qa a0) false,.int .u64 a1] [] (fun r' σ'=>r'=.os true 1 0 0 0 (qa r) false∧σ'=[.cells 0 (qb Ym r)]):=by
 refine ACalls.own0 (by simp only[push_cast]) ?_;refine vcE (rs:=[.tmp 4]) U Tryz.func191 rfl Tryz.ntmps191 rfl Tryz.call191 (by simp) ?_;refine zK [(0,.ds true (qb Ym a0) (qa a0) false),(1,.int .u64 a1)] ⟨rfl,rfl,trivial⟩ ?_;unfold wy at h;refine O [0,1] ?_;have f1:=E48.sl_tight a0 .i64 .i64;refine rgW [0,1] f1 ?_
 refine zd fun Z2 hZ2=>?_
 apply zq;refine awp_loopS1 (fun m L τ=>∃ (k9:Nat) (l3:List UInt8) (x5:Int) (v4:Nat),m=0+k9∧L=[(0,.os true 1 0 v4 0 (qa l3) false),(1,.int .u64 x5)]∧τ=([.cells v4 (qb Ym l3)]:ze)∧wy.l9 k9 l3 x5=some r) (xz+1) ?_ ?_
 · refine zd fun Z20 hZ20=>?_
   refine rgW [0,1,12] qF ?_;refine yv rfl (fun hc21=>?_) (fun hc21=>?_)
   · rw[if_pos hc21] at h;have t22:=eq_true hc21;apply zm;apply hZ20;apply zq;have f23:=Zz (T:=tab) (src:=287) (dst:=5) rfl rfl rfl;obtain⟨_u24,hu24,h⟩:=bind_some h;have gu24:=xF hu24;have f25:=app_tight E48.len a0 (m:=1) (by decide)
     refine rg U [0,1] fun K J=>?_
     simp only[go_sem,qh,qd,qc,qe,qf,qg,reduceIte,reduceCtorEq,Zp,zV,yI,ug,qW,qU,true_and,uj,xj,xg,Ym,t22,f23,gu24,f25,yW,ua,qZ,AV.one,qN,qo,gt_iff_lt,ym,qH,qE,qO,qD,qG,qj,qp,qB,qn,qA,qI];apply J
     refine xB (L:=[(0,.os true 1 1 0 0 (qa (a0++[ur (qT (IntKind.u8.wrap ((uz (qM 8 (IntKind.u8.wrap a1) ||| qM 8 128):Nat):Int)))])) false),(1,.int .u64 a1)]) (τ:=[.cells 0 [.int .u8 (IntKind.u8.wrap ((uz (qM 8 (IntKind.u8.wrap a1) ||| qM 8 128):Nat):Int))],.cells 0 (qb Ym (a0++[ur (qT (IntKind.u8.wrap ((uz (qM 8 (IntKind.u8.wrap a1) ||| qM 8 128):Nat):Int)))]))]) (.same (by first|exact⟨rfl,rfl,trivial⟩|rfl|(simp only[go_sem,qh,qd,qc,qe,qf,qg,reduceIte,reduceCtorEq,vbt,Ym,wJ,encS,encK,ym,qH,qE,qO,qD,qG,qj,qp,qB,qn,qA,qI,ux,vaH,and_self]<;>rfl)) (by first|exact⟨rfl,rfl,trivial⟩|rfl|(simp only[go_sem,qh,qd,qc,qe,qf,qg,reduceIte,reduceCtorEq,vbt,Ym,wJ,encS,encK,ym,qH,qE,qO,qD,qG,qj,qp,qB,qn,qA,qI,ux,vaH,and_self]<;>rfl))) ?_
     refine rgE U [0,1] fun K J=>?_
     simp only[go_sem,qh,qd,qc,qe,qf,qg,reduceIte,reduceCtorEq,Zp,t22,vag,Int.reduceLT];apply J
     exact⟨_,_,_,(Nat.lt_succ_of_le (Nat.le_of_eq (qn xz))),⟨xz,a0++[ur (qT (IntKind.u8.wrap ((uz (qM 8 (IntKind.u8.wrap a1) ||| qM 8 128):Nat):Int)))],Int.fdiv a1 (2^(min (qT 7) 64)),0,rfl,rfl,rfl,h⟩,(.t [1] false)⟩
   rw[if_neg hc21] at h;have t26:=eq_false hc21;apply yl;apply hZ2;have f27:=Zz (T:=tab) (src:=287) (dst:=5) rfl rfl rfl;obtain⟨_u28,hu28,h⟩:=bind_some h;have gu28:=xF hu28;have f29:=app_tight E48.len a0 (m:=1) (by decide)
   refine rg U [4] fun K J=>?_
   simp only[go_sem,qh,qd,qc,qe,qf,qg,reduceIte,reduceCtorEq,zV,yI,ug,qW,qU,true_and,uj,xj,xg,Ym,t26,f27,gu28,f29,yW,ua,qZ,AV.one,qN,qo,gt_iff_lt,ym,qH,qE,qO,qD,qG,qj,qp,qB,qn,qA,qI];apply J
   refine xB (L:=[(4,.os true 1 1 0 0 (qa (a0++[ur (qT (IntKind.u8.wrap a1))])) false)]) (τ:=[.cells 0 [.int .u8 (IntKind.u8.wrap a1)],.cells 0 (qb Ym (a0++[ur (qT (IntKind.u8.wrap a1))]))]) (.same (by first|exact⟨rfl,trivial⟩|rfl|(simp only[go_sem,qh,qd,qc,qe,qf,qg,reduceIte,reduceCtorEq,vbt,Ym,wJ,encS,encK,ym,qH,qE,qO,qD,qG,qj,qp,qB,qn,qA,qI,ux,vaH,and_self]<;>rfl)) (by first|exact⟨rfl,trivial⟩|rfl|(simp only[go_sem,qh,qd,qc,qe,qf,qg,reduceIte,reduceCtorEq,vbt,Ym,wJ,encS,encK,ym,qH,qE,qO,qD,qG,qj,qp,qB,qn,qA,qI,ux,vaH,and_self]<;>rfl))) ?_;apply yg;cases h;simp only[ZA,yQ,y5,xN,exists_eq_left',go_sem,qh,qd,qc,qe,qf,qg,reduceIte,reduceCtorEq];refine⟨1,0,by simp,?_,?_⟩
   · first|rfl|(simp only[go_sem,qh,qd,qc,qe,qf,qg,reduceIte,reduceCtorEq,push_cast,if_true,qq,qn,qu,qr,qs,qt,qz,qo,qw,qv,qm,zw]<;>rfl)
   first|rfl|(simp only[go_sem,qh,qd,qc,qe,qf,qg,reduceIte,reduceCtorEq,push_cast,if_true,qq,qn,qu,qr,qs,qt,qz,qo,qw,qv,qm,zw]<;>rfl)
 clear h
 rintro m L τ ⟨k9,l3,x5,v4,rfl,rfl,rfl,h⟩
 rcases k9 with _|k9
 · cases h
 simp only[wy.l9] at h
 refine zd fun Z10 hZ10=>?_
 refine rgW [0,1,12] qF ?_;refine yv rfl (fun hc11=>?_) (fun hc11=>?_)
 · rw[if_pos hc11] at h;have t12:=eq_true hc11;apply zm;apply hZ10;apply zq;have f13:=Zz (T:=tab) (src:=287) (dst:=5) rfl rfl rfl;obtain⟨_u14,hu14,h⟩:=bind_some h;have gu14:=xF hu14;have f15:=(yf E48.len l3)
   refine rg U [0,1] fun K J=>?_
   simp only[go_sem,qh,qd,qc,qe,qf,qg,reduceIte,reduceCtorEq,Zp,zV,yI,ug,qW,qU,true_and,uj,xj,yG,xg,Ym,t12,f13,gu14,f15,yW,ua,qZ,AV.one,qN,qo,gt_iff_lt,ym,qH,qE,qO,qD,qG,qj,qp,qB,qn,qA,qI];apply J
   refine xB (L:=[(0,.os true 1 0 (v4+1) 0 (qa (l3++[ur (qT (IntKind.u8.wrap ((uz (qM 8 (IntKind.u8.wrap x5) ||| qM 8 128):Nat):Int)))])) false),(1,.int .u64 x5)]) (τ:=[.cells (v4+1) (qb Ym (l3++[ur (qT (IntKind.u8.wrap ((uz (qM 8 (IntKind.u8.wrap x5) ||| qM 8 128):Nat):Int)))])),.cells 0 [.int .u8 (IntKind.u8.wrap ((uz (qM 8 (IntKind.u8.wrap x5) ||| qM 8 128):Nat):Int))]]) (.same (by first|exact⟨rfl,rfl,trivial⟩|rfl|(simp only[go_sem,qh,qd,qc,qe,qf,qg,reduceIte,reduceCtorEq,vbt,Ym,wJ,encS,encK,ym,qH,qE,qO,qD,qG,qj,qp,qB,qn,qA,qI,ux,vaH,and_self]<;>rfl)) (by first|exact⟨rfl,rfl,trivial⟩|rfl|(simp only[go_sem,qh,qd,qc,qe,qf,qg,reduceIte,reduceCtorEq,vbt,Ym,wJ,encS,encK,ym,qH,qE,qO,qD,qG,qj,qp,qB,qn,qA,qI,ux,vaH,and_self]<;>rfl))) ?_
   refine rgE U [0,1] fun K J=>?_
   simp only[go_sem,qh,qd,qc,qe,qf,qg,reduceIte,reduceCtorEq,Zp,t12,vag,Int.reduceLT];apply J
   exact⟨_,_,_,qK (0+k9),⟨k9,l3++[ur (qT (IntKind.u8.wrap ((uz (qM 8 (IntKind.u8.wrap x5) ||| qM 8 128):Nat):Int)))],Int.fdiv x5 (2^(min (qT 7) 64)),v4+1,rfl,rfl,rfl,h⟩,(.t [0] false)⟩
 rw[if_neg hc11] at h;have t16:=eq_false hc11;apply yl;apply hZ2;have f17:=Zz (T:=tab) (src:=287) (dst:=5) rfl rfl rfl;obtain⟨_u18,hu18,h⟩:=bind_some h;have gu18:=xF hu18;have f19:=(yf E48.len l3)
 refine rg U [4] fun K J=>?_
 simp only[go_sem,qh,qd,qc,qe,qf,qg,reduceIte,reduceCtorEq,zV,yI,ug,qW,qU,true_and,uj,xj,yG,xg,Ym,t16,f17,gu18,f19,yW,ua,qZ,AV.one,qN,qo,gt_iff_lt,ym,qH,qE,qO,qD,qG,qj,qp,qB,qn,qA,qI];apply J
 refine xB (L:=[(4,.os true 1 0 (v4+1) 0 (qa (l3++[ur (qT (IntKind.u8.wrap x5))])) false)]) (τ:=[.cells (v4+1) (qb Ym (l3++[ur (qT (IntKind.u8.wrap x5))])),.cells 0 [.int .u8 (IntKind.u8.wrap x5)]]) (.same (by first|exact⟨rfl,trivial⟩|rfl|(simp only[go_sem,qh,qd,qc,qe,qf,qg,reduceIte,reduceCtorEq,vbt,Ym,wJ,encS,encK,ym,qH,qE,qO,qD,qG,qj,qp,qB,qn,qA,qI,ux,vaH,and_self]<;>rfl)) (by first|exact⟨rfl,trivial⟩|rfl|(simp only[go_sem,qh,qd,qc,qe,qf,qg,reduceIte,reduceCtorEq,vbt,Ym,wJ,encS,encK,ym,qH,qE,qO,qD,qG,qj,qp,qB,qn,qA,qI,ux,vaH,and_self]<;>rfl))) ?_;apply yg;cases h;simp only[ZA,yQ,y5,xN,exists_eq_left',go_sem,qh,qd,qc,qe,qf,qg,reduceIte,reduceCtorEq];refine⟨0,v4+1,by simp,?_,?_⟩
 · first|rfl|(simp only[go_sem,qh,qd,qc,qe,qf,qg,reduceIte,reduceCtorEq,push_cast,if_true,qq,qn,qu,qr,qs,qt,qz,qo,qw,qv,qm,zw]<;>rfl)
 first|rfl|(simp only[go_sem,qh,qd,qc,qe,qf,qg,reduceIte,reduceCtorEq,push_cast,if_true,qq,qn,qu,qr,qs,qt,qz,qo,qw,qv,qm,zw]<;>rfl)
theorem wy.ok {a0 a1 r}(h:wy a0 a1=some r):ACalls qi 191 [.ds true (qb Ym a0) (qa a0) false,.int .u64 a1] [] (fun r' _=>r'=.ds true (qb Ym r) (qa r) false):=
 (wy.own h).ownData (yf E48.len r) (by simp only[push_cast])
def vaD (a0:Int):Int:=
 IntKind.u64.wrap ((uz (qM 64 (IntKind.u64.wrap ((IntKind.u64.wrap a0)*2^(min (qT 1) 64))) ^^^ qM 64 (IntKind.u64.wrap (Int.fdiv a0 (2^(min (qT 63) 64))))):Nat):Int)
theorem vaD.ok {a0 r}(h:vaD a0=r):ACalls qi 192 [.int .i64 a0] [] (fun r' _=>r'=.int .u64 r):=by
 refine zx (rs:=[.tmp 2]) U Tryz.func192 rfl Tryz.ntmps192 rfl Tryz.call192 (by simp) ?_;refine zK [(0,.int .i64 a0)] ⟨rfl,trivial⟩ ?_;unfold vaD at h;refine O [0] ?_;have f1:=Zz (T:=tab) (src:=3) (dst:=287) rfl rfl rfl;have f2:=Zz (T:=tab) (src:=3) (dst:=287) rfl rfl rfl
 refine rg U [2] fun K J=>?_
 simp only[go_sem,qh,qd,qc,qe,qf,qg,reduceIte,reduceCtorEq,Zp,f1,f2,vag,Int.reduceLT];apply J
 cases h;exact rtA
def vaC (a0:List UInt8)(a1:yC):Option (List UInt8×Bool):=
 bnd (xY a1) fun r2=>(if (!r2)=true then some (a0,false) else (wy a0 (IntKind.u64.wrap (IntKind.i64.wrap ((IntKind.i64.wrap (2*a1.fTag))+a1.fWire)))).bind fun r5=>(if a1.fWire=0 then bnd (vaD a1.fN) fun r9=>(wy r5 r9).bind fun r10=>some (r10,true) else (wy r5 (IntKind.u64.wrap (qa a1.fB:Int))).bind fun r13=>(vaV (qa r13+qa a1.fB) 1).bind fun _u14=>some (r13++a1.fB,true)))
theorem vaC.ok {a0 a1 r}(h:vaC a0 a1=some r):ACalls qi 148 [.ds true (qb Ym a0) (qa a0) false,.agg (zy a1)] [] (fun r' _=>r'=.tup [.ds true (qb Ym r.1) (qa r.1) false,.bool r.2]):=by
 refine zx (rs:=[.tmp 4,.tmp 5]) U Tryz.func148 rfl Tryz.ntmps148 rfl Tryz.call148 (by simp) ?_;refine zK [(0,.ds true (qb Ym a0) (qa a0) false),(1,.agg (zy a1))] ⟨rfl,rfl,trivial⟩ ?_;unfold vaC at h;refine rgW [0,3] @zy.eq_1 ?_
 refine zd fun Z1 hZ1=>?_
 refine rc [0,3,9] fun K J=>?_
 obtain⟨r2,hr2,h⟩:=yq h;refine rnW 1 @zy.eq_1 ?_;refine clN rfl rfl rfl ((xY.ok hr2).c _) ?_;refine rnW 1 @zy.eq_1 ?_;refine nkN J ?_;refine zY (b:=(!r2)) rfl (fun hc3=>?_) (fun hc3=>?_)
 · rw[if_pos hc3] at h;refine O [4,5] ?_;cases h;exact rtA
 rw[Zc hc3] at h;apply zm;apply hZ1
 refine rc [3,6] fun K J=>?_
 have f4:=Zz (T:=tab) (src:=3) (dst:=287) rfl rfl rfl;obtain⟨r5,hr5,h⟩:=bind_some h;refine rnW 8 f4 ?_;refine clN rfl rfl rfl ((wy.ok hr5).c _) ?_;refine rnN 1 ?_;refine nkN J ?_
 refine zd fun Z6 hZ6=>?_
 refine rgW [3,6,22] qF ?_;refine yv rfl (fun hc7=>?_) (fun hc7=>?_)
 · rw[if_pos hc7] at h;have t8:=eq_true hc7
   refine rc [4,5] fun K J=>?_
   obtain⟨r9,hr9,h⟩:=yq h;refine rnW 3 t8 ?_;refine clN rfl rfl rfl ((vaD.ok hr9).c _) ?_;obtain⟨r10,hr10,h⟩:=bind_some h;refine clN rfl rfl rfl ((wy.ok hr10).c _) ?_;refine rnW 2 t8 ?_;refine nkN J ?_;cases h;exact rtA
 rw[if_neg hc7] at h;have t11:=eq_false hc7;apply zm;apply hZ6;have f12:=Zz (T:=tab) (src:=3) (dst:=287) rfl rfl rfl;obtain⟨r13,hr13,h⟩:=bind_some h;obtain⟨_u14,hu14,h⟩:=bind_some h;have gu14:=xF hu14;have f15:=(yf E48.len r13)
 refine rd [4,5] fun K J=>?_
 refine DW.start (T:=tab) [.any,.any,.at [],.at [],.at [],.eff,.any,.own 1 [],.eff,.any,.any] [(1,[])] ?_;refine DW.runN U 5 ?_;simp only[go_sem,qh,qd,qc,qe,qf,qg,reduceIte,reduceCtorEq,Ym,t11,f12,gu14,f15,srcCells_s,vaR,bys_length,XJ,ua,qZ,AV.one,qN,qo,gt_iff_lt,ym,qH,qE,qO,qD,qG,qj,qp,qB,qn,qA,qI];refine DW.callS rfl rfl rfl (@id (ACalls qi 191 [.ds true (qb Ym r5) (qa r5) false,.int .u64 (IntKind.u64.wrap (qa a1.fB:Int))] [.cells 0 [.int .i64 a1.fTag,.int .i64 a1.fWire,.int .i64 a1.fN,.str a1.fB]] (fun r' σ'=>r'=.os true 1 1 0 0 (qa r13) false∧σ'=[.cells 0 [.int .i64 a1.fTag,.int .i64 a1.fWire,.int .i64 a1.fN,.str a1.fB],.cells 0 (qb Ym r13)])) ((wy.own hr13).ownAt0 (by simp only[push_cast]) (by simp only[push_cast]) _)) (X0 (by simp only[go_sem,qh,qd,qc,qe,qf,qg,reduceIte,reduceCtorEq])) ?_;refine DW.runN U 5 ?_;simp only[go_sem,qh,qd,qc,qe,qf,qg,reduceIte,reduceCtorEq,xj,yG,xg,true_and,Ym,t11,f12,gu14,f15,srcCells_s,vaR,bys_length,XJ,ua,qZ,AV.one,qN,qo,gt_iff_lt,ym,qH,qE,qO,qD,qG,qj,qp,qB,qn,qA,qI];refine DW.fin U (by decide +kernel) rfl ?_;simp only[zH,ye,yx,Zn,upd,qc,reduceIte,xh,xO];apply J
 refine xB (L:=[(4,.os true 1 1 (0+1) 0 (qa (r13++a1.fB)) false),(5,.bool true)]) (τ:=[.cells 0 [.int .i64 a1.fTag,.int .i64 a1.fWire,.int .i64 a1.fN,.str a1.fB],.cells (0+1) (qb Ym (r13++a1.fB))]) .s ?_;cases h;exact rtA
def xm.l11 : List yC→Int→List UInt8→Option (List UInt8×Int)
 |[],x8,x7=>some (x7,0)
 |y11::q11,x8,x7=>(vaC x7 y11).bind fun r17=>(if 4096<(qa r17.1:Int) then some (([]:List UInt8),4) else ((xm.l11 q11) (x8+1) r17.1))
def xm.l4 (a0:List yC):List yC→Int→Option (List UInt8×Int)
 |[],x2=>(xm.l11 a0 0 ([]:List UInt8))
 |y4::q4,x2=>bnd (xY y4) fun r25=>(if (!r25)=true then some (([]:List UInt8),1) else ((xm.l4 a0 q4) (x2+1)))
def xm (a0:List yC):Option (List UInt8×Int):=
 (xm.l4 a0 a0 0)
theorem xm.ok {a0 r}(h:xm a0=some r):ACalls qi 96 [.ds true (qb zy a0) (qa a0) false] [] (fun r' _=>r'=.tup [.ds true (qb Ym r.1) (qa r.1) false,.int .i64 r.2]):=by
 refine zx (rs:=[.tmp 2,.tmp 3]) U Tryz.func96 rfl Tryz.ntmps96 rfl Tryz.call96 (by simp) ?_;refine zK [(0,.ds true (qb zy a0) (qa a0) false)] ⟨rfl,trivial⟩ ?_;unfold xm at h;refine O [0] ?_
 refine zd fun Z1 hZ1=>?_
 refine O [0,9,10,11] ?_;apply zq
 refine xr 0 fun hb4=>?_
 replace hb4:qa a0≤9223372036854775807:=hb4.1;refine yp (fun m L τ=>∃ (p4 q4:List yC) (x2:Int),m=qa q4∧L=[(0,.ds true (qb zy a0) (qa a0) false),(9,.ds true (qb zy a0) (qa a0) false),(10,.int .i64 (qa a0:Int)),(11,.int .i64 x2)]∧τ=([]:ze)∧a0=p4++q4∧x2=(qa p4:Int)∧xm.l4 a0 q4 x2=some r) _ ⟨[],a0,0,rfl,rfl,rfl,rfl,rfl,h⟩ .s ?_;rintro m L τ ⟨p4,q4,x2,rfl,rfl,rfl,hE4,hi4,h⟩
 rcases q4 with _|⟨y4,q4⟩
 · have hz4:=xM hE4 hi4;simp only[xm.l4] at h;refine rgW [0,9,10,11,12] hz4 ?_
   refine zd fun Z5 hZ5=>?_
   refine zQ rfl ?_;apply yl;apply hZ1;refine rgW [0,6] hz4 ?_
   refine zd fun Z6 hZ6=>?_
   refine rgW [6,19,20,21] hz4 ?_;apply zq
   refine xr 19 fun hb11=>?_
   replace hb11:qa a0≤9223372036854775807:=hb11.1;refine yp (fun m L τ=>∃ (p11 q11:List yC) (x8:Int) (x7:List UInt8),m=qa q11∧L=[(6,.ds true (qb Ym x7) (qa x7) false),(19,.ds true (qb zy a0) (qa a0) false),(20,.int .i64 (qa a0:Int)),(21,.int .i64 x8)]∧τ=([]:ze)∧a0=p11++q11∧x8=(qa p11:Int)∧xm.l11 q11 x8 x7=some r) _ ⟨[],a0,0,([]:List UInt8),rfl,rfl,rfl,rfl,rfl,h⟩ (.t [] true) ?_;rintro m L τ ⟨p11,q11,x8,x7,rfl,rfl,rfl,hE11,hi11,h⟩
   rcases q11 with _|⟨y11,q11⟩
   · have hz11:=xM hE11 hi11;simp only[xm.l11] at h;refine rgW [6,19,20,21,22] (aI hz4 hz11) ?_
     refine zd fun Z12 hZ12=>?_
     refine zQ rfl ?_;apply yl;apply hZ6;refine rgW [2,3] (aI hz4 hz11) ?_;cases h;exact rtA
   obtain⟨hz11,hw11,hx11,hE'11,hi'11⟩:=xq hE11 hi11 hb11;simp only[xm.l11] at h;refine rgW [6,19,20,21,22] (aI hz4 (aI hz11 hw11)) ?_
   refine zd fun Z13 hZ13=>?_
   refine zS rfl ?_;apply zm;apply hZ13
   refine zd fun Z14 hZ14=>?_
   apply zq;have f15:=E35.idxS hx11;have f16:=E35.loadS rfl rfl hx11;refine rgW [6,8,19,20,21] (aI @zy.eq_1 (aI hz4 (aI hz11 (aI hw11 (aI f15 f16))))) ?_
   refine rc [6,19,20,21] fun K J=>?_
   obtain⟨r17,hr17,h⟩:=bind_some h;refine rnW 2 (aI @zy.eq_1 (aI hz4 (aI hz11 hw11))) ?_;refine clN rfl rfl rfl ((vaC.ok hr17).c _) ?_;refine rnW 4 (aI @zy.eq_1 (aI hz4 (aI hz11 hw11))) ?_;refine nkN J ?_;refine rgW [6,19,20,21,33] (aI hz4 (aI hz11 hw11)) ?_;refine yv rfl (fun hc18=>?_) (fun hc18=>?_)
   · rw[if_pos hc18] at h;have t19:=eq_true hc18;refine rgW [2,3] (aI hz4 (aI hz11 (aI hw11 t19))) ?_;cases h;exact rtA
   rw[if_neg hc18] at h;have t20:=eq_false hc18;apply zm;apply hZ14
   refine rgE U [6,19,20,21] fun K J=>?_
   simp only[go_sem,qh,qd,qc,qe,qf,qg,reduceIte,reduceCtorEq,Zp,hz4,hz11,hw11,t20];apply J
   exact⟨_,_,_,qK q11.length,⟨p11++[y11],q11,x8+1,r17.1,rfl,rfl,rfl,hE'11,hi'11,h⟩,(.t [] false)⟩
 obtain⟨hz4,hw4,hx4,hE'4,hi'4⟩:=xq hE4 hi4 hb4;simp only[xm.l4] at h;refine rgW [0,9,10,11,12] (aI hz4 hw4) ?_
 refine zd fun Z21 hZ21=>?_
 refine zS rfl ?_;apply zm;apply hZ21
 refine zd fun Z22 hZ22=>?_
 apply zq;have f23:=E35.idxS hx4;have f24:=E35.loadS rfl rfl hx4;refine rgW [0,5,9,10,11] (aI @zy.eq_1 (aI hz4 (aI hw4 (aI f23 f24)))) ?_
 refine rc [0,9,10,11,17] fun K J=>?_
 obtain⟨r25,hr25,h⟩:=yq h;refine rnW 1 (aI @zy.eq_1 (aI hz4 hw4)) ?_;refine clN rfl rfl rfl ((xY.ok hr25).c _) ?_;refine rnW 1 (aI @zy.eq_1 (aI hz4 hw4)) ?_;refine nkN J ?_;refine zY (b:=(!r25)) rfl (fun hc26=>?_) (fun hc26=>?_)
 · rw[if_pos hc26] at h;refine rgW [2,3] (aI hz4 hw4) ?_;cases h;exact rtA
 rw[Zc hc26] at h;apply zm;apply hZ22
 refine rgE U [0,9,10,11] fun K J=>?_
 simp only[go_sem,qh,qd,qc,qe,qf,qg,reduceIte,reduceCtorEq,Zp,hz4,hw4];apply J
 exact⟨_,_,_,qK q4.length,⟨p4++[y4],q4,x2+1,rfl,rfl,rfl,hE'4,hi'4,h⟩,(.t [] false)⟩
end
section
set_option maxRecDepth 4000
set_option maxHeartbeats 1000000
open AM
def wm.body (xR:zZ→Option (List UInt8×Int))(xa:Int→zo→Option (yC×Int))(wa:zZ→Option (List yC×Int))(a0:zZ):Option (List UInt8×Int):=
 (wa a0).bind fun r1=>(if r1.2=0 then (xm r1.1).bind fun r6=>some (r6.1,r6.2) else some (([]:List UInt8),r1.2))
theorem wm.step (xR:zZ→Option (List UInt8×Int))(xa:Int→zo→Option (yC×Int))(wa:zZ→Option (List yC×Int))(Yy:∀ (a0:zZ) (r:List UInt8×Int),xR a0=some r→ACalls qi 230 [.dp (zI a0) 0] [] (fun r' _=>r'=.tup [.ds true (qb Ym r.1) (qa r.1) false,.int .i64 r.2]))(Y1:∀ (a0:Int) (a1:zo) (r:yC×Int),xa a0 a1=some r→ACalls qi 189 [.int .i64 a0,.agg (zi a1)] [] (fun r' _=>r'=.tup [.agg (zy r.1),.int .i64 r.2]))(YK:∀ (a0:zZ) (r:List yC×Int),wa a0=some r→ACalls qi 145 [.dp (zI a0) 0] [] (fun r' _=>r'=.tup [.ds true (qb zy r.1) (qa r.1) false,.int .i64 r.2]))(a0:zZ)(r:List UInt8×Int)(h:wm.body xR xa wa a0=some r):ACalls qi 230 [.dp (zI a0) 0] [] (fun r' _=>r'=.tup [.ds true (qb Ym r.1) (qa r.1) false,.int .i64 r.2]):=by
 have ev_encode_bytes:=fun a0 r h σ=>(Yy a0 r h).c σ
 have ev_encode_raw:=fun a0 a1 r h σ=>(Y1 a0 a1 r h).c σ
 have ev_encode_raws:=fun a0 r h σ=>(YK a0 r h).c σ
 refine zx (rs:=[.tmp 2,.tmp 3]) U Tryz.func230 rfl Tryz.ntmps230 rfl Tryz.call230 (by simp) ?_;refine zK [(0,.dp (zI a0) 0)] ⟨rfl,trivial⟩ ?_;unfold wm.body at h;refine O [0] ?_
 refine rc [4,5] fun K J=>?_
 obtain⟨r1,hr1,h⟩:=bind_some h;refine rnN 1 ?_;refine clN rfl rfl rfl (ev_encode_raws a0 r1 hr1 _) ?_;refine rnN 5 ?_;refine nkN J ?_
 refine zd fun Z2 hZ2=>?_
 refine rgW [4,5,12] qF ?_;refine yv rfl (fun hc3=>?_) (fun hc3=>?_)
 · rw[if_neg hc3] at h;have t4:=eq_false hc3;refine rgW [2,3] t4 ?_;cases h;exact rtA
 rw[if_pos hc3] at h;have t5:=eq_true hc3;apply zm;apply hZ2
 refine rc [2,3] fun K J=>?_
 obtain⟨r6,hr6,h⟩:=bind_some h;refine rnW 1 t5 ?_;refine clN rfl rfl rfl ((xm.ok hr6).c _) ?_;refine rnW 4 t5 ?_;refine nkN J ?_;cases h;exact rtA
def xH.j3 (m1_2:yC):Option (yC×Int):=
 (if 4096<(qa m1_2.fB:Int) then some ((⟨0,0,0,[]⟩:yC),4) else some (m1_2,0))
def xH.body (xR:zZ→Option (List UInt8×Int))(xa:Int→zo→Option (yC×Int))(wa:zZ→Option (List yC×Int))(a0:Int)(a1:zo):Option (yC×Int):=
 (Yg a1).bind fun r8=>(match r8 with|.nil=>(xH.j3 (⟨a0,1,0,[]⟩:yC))|.num n9=>some ((⟨a0,0,n9,[]⟩:yC),0)|.str s9=>(xH.j3 (⟨a0,1,0,s9⟩:yC))|.node e9 r9=>(xR (⟨e9,r9⟩:zZ)).bind fun r10=>(if r10.2=0 then (xH.j3 (⟨a0,1,0,r10.1⟩:yC)) else some ((⟨0,0,0,[]⟩:yC),r10.2)))
theorem xH.step (xR:zZ→Option (List UInt8×Int))(xa:Int→zo→Option (yC×Int))(wa:zZ→Option (List yC×Int))(Yy:∀ (a0:zZ) (r:List UInt8×Int),xR a0=some r→ACalls qi 230 [.dp (zI a0) 0] [] (fun r' _=>r'=.tup [.ds true (qb Ym r.1) (qa r.1) false,.int .i64 r.2]))(Y1:∀ (a0:Int) (a1:zo) (r:yC×Int),xa a0 a1=some r→ACalls qi 189 [.int .i64 a0,.agg (zi a1)] [] (fun r' _=>r'=.tup [.agg (zy r.1),.int .i64 r.2]))(YK:∀ (a0:zZ) (r:List yC×Int),wa a0=some r→ACalls qi 145 [.dp (zI a0) 0] [] (fun r' _=>r'=.tup [.ds true (qb zy r.1) (qa r.1) false,.int .i64 r.2]))(a0:Int)(a1:zo)(r:yC×Int)(h:xH.body xR xa wa a0 a1=some r):ACalls qi 189 [.int .i64 a0,.agg (zi a1)] [] (fun r' _=>r'=.tup [.agg (zy r.1),.int .i64 r.2]):=by
 have ev_encode_bytes:=fun a0 r h σ=>(Yy a0 r h).c σ
 have ev_encode_raw:=fun a0 a1 r h σ=>(Y1 a0 a1 r h).c σ
 have ev_encode_raws:=fun a0 r h σ=>(YK a0 r h).c σ
 refine zx (rs:=[.cell 4 139,.tmp 5]) U Tryz.func189 rfl Tryz.ntmps189 rfl Tryz.call189 (by simp) ?_;refine zK [(0,.int .i64 a0),(1,.agg (zi a1))] ⟨rfl,rfl,trivial⟩ ?_;unfold xH.body at h;have f1:=Ye a1;unfold AV.one at f1;refine rgW [0,3,4] (aI @zi.eq_1 f1) ?_;refine rgW [0,3,4,6] @zy.eq_1 ?_;refine xV (fun L τ=>∃ (m1_2:yC),L=[(4,.op 0 0 0),(6,.op 1 0 0)]∧τ=([.cells 0 [.int .i64 0,.int .i64 0,.int .i64 0,.str []],.cells 0 [.int .i64 m1_2.fTag,.int .i64 m1_2.fWire,.int .i64 m1_2.fN,.str m1_2.fB]]:ze)∧xH.j3 m1_2=some r) ?_ ?_
 · refine rc [0,4,6,15] fun K J=>?_
   obtain⟨r8,hr8,h⟩:=bind_some h;refine rnW 1 @zi.eq_1 ?_;refine clN rfl rfl rfl ((Yg.ok hr8).c _) ?_;refine nkN J ?_;apply zq
   rcases r8 with _|n9|s9|⟨e9,r9⟩
   · dsimp only at h
     try simp only[Xp,XQ,zi]
     refine rg U [0,4,6,15,17,18] fun K J=>?_
     simp only[go_sem,qh,qd,qc,qe,qf,qg,reduceIte,reduceCtorEq,xA,xC,TypeDesc.isIface];apply J
     refine zQ rfl ?_
     refine rg U [4,6,15,23,24] fun K J=>?_
     simp only[go_sem,qh,qd,qc,qe,qf,qg,reduceIte,reduceCtorEq,xA,xC,TypeDesc.isIface];apply J
     refine zQ rfl ?_
     refine rg U [4,6,28,29] fun K J=>?_
     simp only[go_sem,qh,qd,qc,qe,qf,qg,reduceIte,reduceCtorEq,xA,xC,TypeDesc.isIface];apply J
     refine zQ rfl ?_;apply zm;exact⟨_,_,⟨(⟨a0,1,0,[]⟩:yC),rfl,rfl,h⟩,(.t [1,2] false)⟩
   · dsimp only at h
     try simp only[Xo,XP,zi]
     refine rg U [0,4,6,15,17,18] fun K J=>?_
     simp only[go_sem,qh,qd,qc,qe,qf,qg,reduceIte,reduceCtorEq,xA,xC,TypeDesc.isIface];apply J
     refine zS rfl ?_;refine O [0,4,7] ?_;refine rgW [4,5] @zy.eq_1 ?_;cases h;exact rtA
   · dsimp only at h
     try simp only[Xn,XO,zi]
     refine rg U [0,4,6,15,17,18] fun K J=>?_
     simp only[go_sem,qh,qd,qc,qe,qf,qg,reduceIte,reduceCtorEq,xA,xC,TypeDesc.isIface];apply J
     refine zQ rfl ?_
     refine rg U [4,6,15,23,24] fun K J=>?_
     simp only[go_sem,qh,qd,qc,qe,qf,qg,reduceIte,reduceCtorEq,xA,xC,TypeDesc.isIface];apply J
     refine zS rfl ?_;refine O [4,6,8] ?_
     refine rgE U [4,6] fun K J=>?_
     simp only[go_sem,qh,qd,qc,qe,qf,qg,reduceIte,reduceCtorEq,zy];apply J
     exact⟨_,_,⟨(⟨a0,1,0,s9⟩:yC),rfl,rfl,h⟩,(.t [1,2] false)⟩
   dsimp only at h
   try simp only[Yz,Y8,zi]
   refine rg U [0,4,6,15,17,18] fun K J=>?_
   simp only[go_sem,qh,qd,qc,qe,qf,qg,reduceIte,reduceCtorEq,xA,xC,TypeDesc.isIface];apply J
   refine zQ rfl ?_
   refine rg U [4,6,15,23,24] fun K J=>?_
   simp only[go_sem,qh,qd,qc,qe,qf,qg,reduceIte,reduceCtorEq,xA,xC,TypeDesc.isIface];apply J
   refine zQ rfl ?_
   refine rg U [4,6,28,29] fun K J=>?_
   simp only[go_sem,qh,qd,qc,qe,qf,qg,reduceIte,reduceCtorEq,xA,xC,TypeDesc.isIface];apply J
   refine zS rfl ?_;refine O [4,6,9] ?_
   refine rc [4,6,10,11] fun K J=>?_
   obtain⟨r10,hr10,h⟩:=bind_some h;refine rnN 1 ?_;refine clN rfl rfl rfl (ev_encode_bytes (⟨e9,r9⟩:zZ) r10 hr10 _) ?_;refine rnN 5 ?_;refine nkN J ?_
   refine zd fun Z11 hZ11=>?_
   refine rgW [4,6,10,11,36] qF ?_;refine yv rfl (fun hc12=>?_) (fun hc12=>?_)
   · rw[if_neg hc12] at h;have t13:=eq_false hc12;refine rgW [4,5] (aI @zy.eq_1 t13) ?_;cases h;exact rtA
   rw[if_pos hc12] at h;have t14:=eq_true hc12;apply zm;apply hZ11;have f15:=conv_b2s (T:=tab) (src:=48) (dst:=9) rfl rfl rfl rfl rfl rfl r10.1
   refine rgE U [4,6] fun K J=>?_
   simp only[go_sem,qh,qd,qc,qe,qf,qg,reduceIte,reduceCtorEq,zy,t14,f15];apply J
   exact⟨_,_,⟨(⟨a0,1,0,r10.1⟩:yC),rfl,rfl,h⟩,(.t [1,2] false)⟩
 rintro _ _ ⟨m1_2,rfl,rfl,h⟩;unfold xH.j3 at h
 refine zd fun Z4 hZ4=>?_
 refine rgW [4,6,45] qF ?_;refine yv rfl (fun hc5=>?_) (fun hc5=>?_)
 · rw[if_pos hc5] at h;have t6:=eq_true hc5;refine rgW [4,5] (aI @zy.eq_1 t6) ?_;cases h;exact rtA
 rw[if_neg hc5] at h;have t7:=eq_false hc5;apply zm;apply hZ4;refine rgW [4,5] (aI @zy.eq_1 t7) ?_;cases h;exact rtA
def yA.l24 (xa:Int→zo→Option (yC×Int))(x6:Int)(rec10:Int→List yC→Option (List yC×Int))(y10:Int):List zo→Int→List yC→Option (List yC×Int)
 |[],x20,l18=>(rec10 (x6+1) l18)
 |y24::q24,x20,l18=>(xa y10 y24).bind fun r31=>(if r31.2=0 then (vaV (qa l18+1) 40).bind fun _u36=>((yA.l24 xa x6 rec10 y10 q24) (x20+1) (l18++[r31.1])) else some (([]:List yC),r31.2))
def yA.l10 (xa:Int→zo→Option (yC×Int))(a0:zZ):List Int→Int→List yC→Option (List yC×Int)
 |[],x6,l4=>(yz l4).bind fun r12=>some (r12,0)
 |y10::q10,x6,l4=>(yP a0 y10).bind fun r17=>(yA.l24 xa x6 (yA.l10 xa a0 q10) y10 r17 0 l4)
def yA.body (xR:zZ→Option (List UInt8×Int))(xa:Int→zo→Option (yC×Int))(wa:zZ→Option (List yC×Int))(a0:zZ):Option (List yC×Int):=
 (wt a0).bind fun r1=>(xn a0).bind fun r3=>(yA.l10 xa a0 r3 0 r1)
theorem yA.step (xR:zZ→Option (List UInt8×Int))(xa:Int→zo→Option (yC×Int))(wa:zZ→Option (List yC×Int))(Yy:∀ (a0:zZ) (r:List UInt8×Int),xR a0=some r→ACalls qi 230 [.dp (zI a0) 0] [] (fun r' _=>r'=.tup [.ds true (qb Ym r.1) (qa r.1) false,.int .i64 r.2]))(Y1:∀ (a0:Int) (a1:zo) (r:yC×Int),xa a0 a1=some r→ACalls qi 189 [.int .i64 a0,.agg (zi a1)] [] (fun r' _=>r'=.tup [.agg (zy r.1),.int .i64 r.2]))(YK:∀ (a0:zZ) (r:List yC×Int),wa a0=some r→ACalls qi 145 [.dp (zI a0) 0] [] (fun r' _=>r'=.tup [.ds true (qb zy r.1) (qa r.1) false,.int .i64 r.2]))(a0:zZ)(r:List yC×Int)(h:yA.body xR xa wa a0=some r):ACalls qi 145 [.dp (zI a0) 0] [] (fun r' _=>r'=.tup [.ds true (qb zy r.1) (qa r.1) false,.int .i64 r.2]):=by
 have ev_encode_bytes:=fun a0 r h σ=>(Yy a0 r h).c σ
 have ev_encode_raw:=fun a0 a1 r h σ=>(Y1 a0 a1 r h).c σ
 have ev_encode_raws:=fun a0 r h σ=>(YK a0 r h).c σ
 refine zx (rs:=[.tmp 2,.tmp 3]) U Tryz.func145 rfl Tryz.ntmps145 rfl Tryz.call145 (by simp) ?_;refine zK [(0,.dp (zI a0) 0)] ⟨rfl,trivial⟩ ?_;unfold yA.body at h;refine O [0] ?_
 refine rc [0,4] fun K J=>?_
 obtain⟨r1,hr1,h⟩:=bind_some h;refine rnN 1 ?_;refine clN rfl rfl rfl (@id (ACalls qi 186 [.dp (zI a0) 0] [] (fun r' σ'=>r'=.os true 4 0 0 0 (qa r1) false∧σ'=[.cells 0 (qb zy r1)])) ((wt.own hr1).ownAt0 (by simp only[push_cast]) (by simp only[push_cast]) _)) ?_;refine rnN 1 ?_;refine nkN J ?_
 refine zd fun Z2 hZ2=>?_
 refine rc [0,4,14,15,16] fun K J=>?_
 obtain⟨r3,hr3,h⟩:=bind_some h;refine rnN 1 ?_;refine clN rfl rfl rfl ((xn.ok hr3).c _) ?_;refine rnN 2 ?_;refine nkN J ?_;apply zq
 refine xr 14 fun hb10=>?_
 replace hb10:qa r3≤9223372036854775807:=hb10.1;refine yp (fun m L τ=>∃ (p10 q10:List Int) (x6:Int) (l4:List yC) (v5:Nat),m=qa q10∧L=[(0,.dp (zI a0) 0),(4,.os true 4 0 v5 0 (qa l4) false),(14,.ds true (qb wJ r3) (qa r3) false),(15,.int .i64 (qa r3:Int)),(16,.int .i64 x6)]∧τ=([.cells v5 (qb zy l4)]:ze)∧r3=p10++q10∧x6=(qa p10:Int)∧yA.l10 xa a0 q10 x6 l4=some r) _ ⟨[],r3,0,r1,0,rfl,rfl,rfl,rfl,rfl,h⟩ .s ?_;rintro m L τ ⟨p10,q10,x6,l4,v5,rfl,rfl,rfl,hE10,hi10,h⟩
 rcases q10 with _|⟨y10,q10⟩
 · have hz10:=xM hE10 hi10;simp only[yA.l10] at h;refine rgW [0,4,14,15,16,17] hz10 ?_
   refine zd fun Z11 hZ11=>?_
   refine zQ rfl ?_;apply yl;apply hZ2
   refine rc [2,3] fun K J=>?_
   obtain⟨r12,hr12,h⟩:=bind_some h;refine rnW 1 hz10 ?_;refine vbc (L:=[(43,.ds true (qb zy l4) (qa l4) false)]) (τ:=[]) (.t [] false) ?_;refine clN rfl rfl rfl ((yz.ok hr12).c _) ?_;refine rnW 2 hz10 ?_;refine nkN J ?_;cases h;exact rtA
 obtain⟨hz10,hw10,hx10,hE'10,hi'10⟩:=xq hE10 hi10 hb10;simp only[yA.l10] at h;refine rgW [0,4,14,15,16,17] (aI hz10 hw10) ?_
 refine zd fun Z13 hZ13=>?_
 refine zS rfl ?_;apply zm;apply hZ13
 refine zd fun Z14 hZ14=>?_
 apply zq;have f15:=E26.idxS hx10;have f16:=E26.fldS0 (f:=3) rfl rfl hx10
 refine rg U [0,4,6,14,15,16] fun K J=>?_
 simp only[go_sem,qh,qd,qc,qe,qf,qg,reduceIte,reduceCtorEq,wJ,hz10,hw10,f15,f16];apply J
 refine rc [0,4,6,14,15,16,22,23,24] fun K J=>?_
 obtain⟨r17,hr17,h⟩:=bind_some h;refine rnW 2 (aI hz10 hw10) ?_;refine clN rfl rfl rfl ((yP.ok hr17).c _) ?_;refine rnW 2 (aI hz10 hw10) ?_;refine nkN J ?_;apply zq
 refine xr 22 fun hb24=>?_
 replace hb24:qa r17≤9223372036854775807:=hb24.1;refine yp (fun m L τ=>∃ (p24 q24:List zo) (x20:Int) (l18:List yC) (v19:Nat),m=qa q24∧L=[(0,.dp (zI a0) 0),(4,.os true 4 0 v19 0 (qa l18) false),(6,.int .i64 y10),(14,.ds true (qb wJ r3) (qa r3) false),(15,.int .i64 (qa r3:Int)),(16,.int .i64 x6),(22,.ds true (qb zi r17) (qa r17) false),(23,.int .i64 (qa r17:Int)),(24,.int .i64 x20)]∧τ=([.cells v19 (qb zy l18)]:ze)∧r17=p24++q24∧x20=(qa p24:Int)∧yA.l24 xa x6 (yA.l10 xa a0 q10) y10 q24 x20 l18=some r) _ ⟨[],r17,0,l4,v5,rfl,rfl,rfl,rfl,rfl,h⟩ .s ?_;rintro m L τ ⟨p24,q24,x20,l18,v19,rfl,rfl,rfl,hE24,hi24,h⟩
 rcases q24 with _|⟨y24,q24⟩
 · have hz24:=xM hE24 hi24;simp only[yA.l24] at h;refine rgW [0,4,6,14,15,16,22,23,24,25] (aI hz10 (aI hw10 hz24)) ?_
   refine zd fun Z25 hZ25=>?_
   refine zQ rfl ?_;apply yl;apply hZ14
   refine rgE U [0,4,14,15,16] fun K J=>?_
   simp only[go_sem,qh,qd,qc,qe,qf,qg,reduceIte,reduceCtorEq,Zp,hz10,hw10,hz24];apply J
   exact⟨_,_,_,qK q10.length,⟨p10++[y10],q10,x6+1,l18,v19,rfl,rfl,rfl,hE'10,hi'10,h⟩,.s⟩
 obtain⟨hz24,hw24,hx24,hE'24,hi'24⟩:=xq hE24 hi24 hb24;simp only[yA.l24] at h;refine rgW [0,4,6,14,15,16,22,23,24,25] (aI hz10 (aI hw10 (aI hz24 hw24))) ?_
 refine zd fun Z26 hZ26=>?_
 refine zS rfl ?_;apply zm;apply hZ26
 refine zd fun Z27 hZ27=>?_
 apply zq;have f28:=E282.idxS hx24;have f29:=E282.loadS rfl rfl hx24;have f30:=Ye y24;unfold AV.one at f30;refine rgW [0,4,6,8,14,15,16,22,23,24] (aI @zi.eq_1 (aI hz10 (aI hw10 (aI hz24 (aI hw24 (aI f28 (aI f29 f30))))))) ?_
 refine rc [0,4,6,9,10,14,15,16,22,23,24] fun K J=>?_
 obtain⟨r31,hr31,h⟩:=bind_some h;refine rnW 2 (aI @zi.eq_1 (aI hz10 (aI hw10 (aI hz24 hw24)))) ?_;refine clN rfl rfl rfl (ev_encode_raw y10 y24 r31 hr31 _) ?_;refine rnW 6 (aI @zy.eq_1 (aI @zi.eq_1 (aI hz10 (aI hw10 (aI hz24 hw24))))) ?_;refine nkN J ?_
 refine zd fun Z32 hZ32=>?_
 refine rgW [0,4,6,9,10,14,15,16,22,23,24,35] (aI hz10 (aI hw10 (aI hz24 hw24))) ?_;refine yv rfl (fun hc33=>?_) (fun hc33=>?_)
 · rw[if_neg hc33] at h;have t34:=eq_false hc33;refine rgW [2,3] (aI hz10 (aI hw10 (aI hz24 (aI hw24 t34)))) ?_;cases h;exact rtA
 rw[if_pos hc33] at h;have t35:=eq_true hc33;apply zm;apply hZ32;obtain⟨_u36,hu36,h⟩:=bind_some h;have gu36:=xF hu36;have f37:=(yf E35.len l18)
 refine rgE U [0,4,6,14,15,16,22,23,24] fun K J=>?_
 simp only[go_sem,qh,qd,qc,qe,qf,qg,reduceIte,reduceCtorEq,zV,yI,ug,qW,qU,true_and,uj,xj,yG,xg,zy,hz10,hw10,hz24,hw24,t35,gu36,f37,yW,ua,qZ,AV.one,qN,qo,gt_iff_lt,ym,qH,qE,qO,qD,qG,qj,qp,qB,qn,qA,qI];apply J
 apply hZ27
 refine rgE U [0,4,6,14,15,16,22,23,24] fun K J=>?_
 simp only[go_sem,qh,qd,qc,qe,qf,qg,reduceIte,reduceCtorEq,Zp,hz10,hw10,hz24,hw24,t35];apply J
 exact⟨_,_,_,qK q24.length,⟨p24++[y24],q24,x20+1,l18++[r31.1],v19+1,rfl,rfl,rfl,hE'24,hi'24,h⟩,(.t [0] false)⟩
mutual
def wm : Nat→zZ→Option (List UInt8×Int)
 |0,_=>none
 |k+1,a0=>wm.body (wm k) (xH k) (yA k) a0
def xH : Nat→Int→zo→Option (yC×Int)
 |0,_,_=>none
 |k+1,a0,a1=>xH.body (wm k) (xH k) (yA k) a0 a1
def yA : Nat→zZ→Option (List yC×Int)
 |0,_=>none
 |k+1,a0=>yA.body (wm k) (xH k) (yA k) a0
end
theorem wm.all (k:Nat):(∀ (a0:zZ) (r:List UInt8×Int),wm k a0=some r→ACalls qi 230 [.dp (zI a0) 0] [] (fun r' _=>r'=.tup [.ds true (qb Ym r.1) (qa r.1) false,.int .i64 r.2]))∧(∀ (a0:Int) (a1:zo) (r:yC×Int),xH k a0 a1=some r→ACalls qi 189 [.int .i64 a0,.agg (zi a1)] [] (fun r' _=>r'=.tup [.agg (zy r.1),.int .i64 r.2]))∧(∀ (a0:zZ) (r:List yC×Int),yA k a0=some r→ACalls qi 145 [.dp (zI a0) 0] [] (fun r' _=>r'=.tup [.ds true (qb zy r.1) (qa r.1) false,.int .i64 r.2])):=by
 induction k with
 |zero=>exact⟨(fun a0 r h=>by simp only[wm] at h; cases h),(fun a0 a1 r h=>by simp only[xH] at h; cases h),(fun a0 r h=>by simp only[yA] at h; cases h)⟩
 |succ k ih=>exact⟨(fun a0 r h=>wm.step _ _ _ ih.1 ih.2.1 ih.2.2 a0 r (by simpa only [wm] using h)),(fun a0 a1 r h=>xH.step _ _ _ ih.1 ih.2.1 ih.2.2 a0 a1 r (by simpa only [xH] using h)),(fun a0 r h=>yA.step _ _ _ ih.1 ih.2.1 ih.2.2 a0 r (by simpa only [yA] using h))⟩
theorem yA.ev (k:Nat)(a0:zZ)(r:List yC×Int)(h:yA k a0=some r)(σ:ze):ACalls qi 145 [.dp (zI a0) 0] σ (fun r' σ'=>r'=.tup [.ds true (qb zy r.1) (qa r.1) false,.int .i64 r.2]∧σ'=σ):=
 ((wm.all k).2.2 a0 r h).c σ
def YP (a0:zp):Option (List yC×Int):=
 (Xm a0).bind fun r1=>(if ((!r1.2)||(!(decide (a0.fKind=3))))=true then some (([]:List yC),1) else (xL r1.1).bind fun r5=>(yA xz r5).bind fun r6=>some (r6.1,r6.2))
theorem YP.ok {a0 r}(h:YP a0=some r):ACalls qi 95 [.agg (zb a0)] [] (fun r' _=>r'=.tup [.ds true (qb zy r.1) (qa r.1) false,.int .i64 r.2]):=by
 refine zx (rs:=[.tmp 2,.tmp 3]) U Tryz.func95 rfl Tryz.ntmps95 rfl Tryz.call95 (by simp) ?_;refine zK [(0,.agg (zb a0))] ⟨rfl,trivial⟩ ?_;unfold YP at h;refine rgW [1] (aI @zb.eq_1 @zf) ?_
 refine rc [1,4,5] fun K J=>?_
 obtain⟨r1,hr1,h⟩:=bind_some h;refine rnW 1 (aI @zb.eq_1 @zf) ?_;refine clN rfl rfl rfl ((Xm.ok hr1).c _) ?_;have f2:=Ye r1.1;unfold AV.one at f2;refine rnW 6 (aI @zb.eq_1 (aI @zf (aI @zi.eq_1 f2))) ?_;refine nkN J ?_
 refine zd fun Z3 hZ3=>?_
 refine rc [4,17] fun K J=>?_
 refine rnN 3 ?_;refine cut (b:=(!r1.2)) (hb:=boolP_eq _) 4 13 17 [4] ((!r1.2)||(!(decide (a0.fKind=3)))) qF rfl ?_;refine nkN J ?_;refine zY (b:=((!r1.2)||(!(decide (a0.fKind=3))))) rfl (fun hc4=>?_) (fun hc4=>?_)
 · rw[if_pos hc4] at h;refine O [2,3] ?_;cases h;exact rtA
 rw[Zc hc4] at h;apply zm;apply hZ3
 refine rc [2,3] fun K J=>?_
 obtain⟨r5,hr5,h⟩:=bind_some h;refine rnW 1 @zi.eq_1 ?_;refine clN rfl rfl rfl ((xL.ok hr5).c _) ?_;obtain⟨r6,hr6,h⟩:=bind_some h;refine clN rfl rfl rfl (yA.ev xz r5 r6 hr6 _) ?_;refine rnW 4 @zi.eq_1 ?_;refine nkN J ?_;cases h;exact rtA
def ZH (a0:zp):Option (List UInt8×Int):=
 (YP a0).bind fun r1=>(if r1.2=0 then (xm r1.1).bind fun r6=>some (r6.1,r6.2) else some (([]:List UInt8),r1.2))
theorem ZH.ok {a0 r}(h:ZH a0=some r):ACalls qi 62 [.agg (zb a0)] [] (fun r' _=>r'=.tup [.ds true (qb Ym r.1) (qa r.1) false,.int .i64 r.2]):=by
 refine zx (rs:=[.tmp 2,.tmp 3]) U Tryz.func62 rfl Tryz.ntmps62 rfl Tryz.call62 (by simp) ?_;refine zK [(0,.agg (zb a0))] ⟨rfl,trivial⟩ ?_;unfold ZH at h;refine rgW [1] (aI @zb.eq_1 @zf) ?_
 refine rc [4,5] fun K J=>?_
 obtain⟨r1,hr1,h⟩:=bind_some h;refine rnW 1 (aI @zb.eq_1 @zf) ?_;refine clN rfl rfl rfl ((YP.ok hr1).c _) ?_;refine rnW 5 (aI @zb.eq_1 @zf) ?_;refine nkN J ?_
 refine zd fun Z2 hZ2=>?_
 refine rgW [4,5,12] qF ?_;refine yv rfl (fun hc3=>?_) (fun hc3=>?_)
 · rw[if_neg hc3] at h;have t4:=eq_false hc3;refine rgW [2,3] t4 ?_;cases h;exact rtA
 rw[if_pos hc3] at h;have t5:=eq_true hc3;apply zm;apply hZ2
 refine rc [2,3] fun K J=>?_
 obtain⟨r6,hr6,h⟩:=bind_some h;refine rnW 1 t5 ?_;refine clN rfl rfl rfl ((xm.ok hr6).c _) ?_;refine rnW 4 t5 ?_;refine nkN J ?_;cases h;exact rtA
def wd.j6 (a0:Zy)(l2:List yO)(v3:Nat)(l4:List (yO×Int))(x5:Int):Option (Int×Zy):=
 some (x5,(⟨a0.ffrom,a0.fto,l2,v3,l4⟩:Zy))
def wd (a0:Zy)(a1:yO):Option (Int×Zy):=
 (if (!((XE a0.fplace a1).isSome))=true then (vaV (qa a0.fl+1) 32).bind fun _u9=>(wd.j6 a0 (a0.fl++[a1]) (a0.vl+1) (vcn a0.fplace a1 (qa a0.fl:Int)) (qa a0.fl:Int)) else (wd.j6 a0 a0.fl a0.vl a0.fplace ((XE a0.fplace a1).getD 0)))
theorem wd.ok {a0 a1 r}(h:wd a0 a1=some r):ACalls qi 150 [.op 0 0 0,.agg (zJ a1)] [.cells 0 [.str a0.ffrom.fName,.ds true (qb zh a0.ffrom.fMessages) (qa a0.ffrom.fMessages) false,.ds true (qb zk a0.ffrom.fEnums) (qa a0.ffrom.fEnums) false,.ds true (qb zr a0.ffrom.fMethods) (qa a0.ffrom.fMethods) false,.str a0.fto.fName,.ds true (qb zh a0.fto.fMessages) (qa a0.fto.fMessages) false,.ds true (qb zk a0.fto.fEnums) (qa a0.fto.fEnums) false,.ds true (qb zr a0.fto.fMethods) (qa a0.fto.fMethods) false,.os true 2 1 (a0.vl) 0 (qa a0.fl) false,.mp 2],.cells (a0.vl) (qb zJ a0.fl),.map (y0 yL (AV.int .i64) a0.fplace)] (fun r' σ'=>r'=.int .i64 r.1∧σ'=[.cells 0 [.str r.2.ffrom.fName,.ds true (qb zh r.2.ffrom.fMessages) (qa r.2.ffrom.fMessages) false,.ds true (qb zk r.2.ffrom.fEnums) (qa r.2.ffrom.fEnums) false,.ds true (qb zr r.2.ffrom.fMethods) (qa r.2.ffrom.fMethods) false,.str r.2.fto.fName,.ds true (qb zh r.2.fto.fMessages) (qa r.2.fto.fMessages) false,.ds true (qb zk r.2.fto.fEnums) (qa r.2.fto.fEnums) false,.ds true (qb zr r.2.fto.fMethods) (qa r.2.fto.fMethods) false,.os true 2 1 (r.2.vl) 0 (qa r.2.fl) false,.mp 2],.cells (r.2.vl) (qb zJ r.2.fl),.map (y0 yL (AV.int .i64) r.2.fplace)]):=by
 refine Zx [0,1,2] (rs:=[.tmp 4]) U Tryz.func150 rfl Tryz.ntmps150 rfl Tryz.call150 (by simp) rfl ?_;refine zK [(0,.op 0 0 0),(1,.agg (zJ a1))] ⟨rfl,rfl,trivial⟩ ?_;unfold wd at h;refine rgW [0,3] @zJ.eq_1 ?_
 have f1:=fun (o0:Yq) (o1:Yq) (x:ze)=>vaL (T:=tab) (t:=239) (ek:=yL) (ev:=(AV.int .i64)) (z:=0) KA245 rfl rfl rfl rfl a0.fplace a1 true (o0::o1::.map (y0 yL (AV.int .i64) a0.fplace)::x) 2 rfl
 simp only[yL,zJ] at f1
 refine rd [0,3,5,6] fun K J=>?_
 refine DW.start (T:=tab) [.any,.any,.any,.at [],.at [],.at [],.any,.any,.any,.any,.any] [] ?_;refine DW.runN U 8 ?_;simp only[go_sem,qh,qd,qc,qe,qf,qg,reduceIte,reduceCtorEq,Xv,uf,if_false,if_true,zJ,yL,f1];refine DW.runN U 3 ?_;simp only[go_sem,qh,qd,qc,qe,qf,qg,reduceIte,reduceCtorEq,zJ,yL,f1];refine DW.fin U (by decide +kernel) rfl ?_;simp only[zH,ye,yx,Zn,upd,qc,reduceIte,xh,xO];apply J
 refine xV (fun L τ=>∃ (l2:List yO) (v3:Nat) (l4:List (yO×Int)) (x5:Int),L=[(5,.int .i64 x5)]∧τ=([.cells 0 [.str a0.ffrom.fName,.ds true (qb zh a0.ffrom.fMessages) (qa a0.ffrom.fMessages) false,.ds true (qb zk a0.ffrom.fEnums) (qa a0.ffrom.fEnums) false,.ds true (qb zr a0.ffrom.fMethods) (qa a0.ffrom.fMethods) false,.str a0.fto.fName,.ds true (qb zh a0.fto.fMessages) (qa a0.fto.fMessages) false,.ds true (qb zk a0.fto.fEnums) (qa a0.fto.fEnums) false,.ds true (qb zr a0.fto.fMethods) (qa a0.fto.fMethods) false,.os true 2 1 v3 0 (qa l2) false,.mp 2],.cells v3 (qb zJ l2),.map (y0 yL (AV.int .i64) l4)]:ze)∧wd.j6 a0 l2 v3 l4 x5=some r) ?_ ?_
 · refine O [0,3,5,17] ?_;refine zY (b:=(!((XE a0.fplace a1).isSome))) rfl (fun hc7=>?_) (fun hc7=>?_)
   · rw[if_pos hc7] at h;refine O [0,3,5] ?_
     have f8:=fun (o0:Yq) (o1:Yq) (x:ze)=>vbY (T:=tab) (t:=239) (ek:=yL) (ev:=(AV.int .i64)) KA245 rfl rfl a0.fplace a1 (qa a0.fl:Int) (o0::o1::.map (y0 yL (AV.int .i64) a0.fplace)::x) 2 rfl
     simp only[yL,zJ] at f8
     refine rd [0,3,5] fun K J=>?_
     refine DW.start (T:=tab) [.any,.any,.any,.at [],.at [],.any,.eff] [] ?_;refine DW.runN U 7 ?_;simp only[go_sem,qh,qd,qc,qe,qf,qg,reduceIte,reduceCtorEq,zJ,yL,f8];refine DW.fin U (by decide +kernel) rfl ?_;simp only[zH,ye,yx,Zn,upd,qc,reduceIte,xh,xO];apply J
     obtain⟨_u9,hu9,h⟩:=bind_some h;have gu9:=xF hu9;have f10:=(yf E240.len a0.fl)
     refine rdE [5] fun K J=>?_
     refine DW.start (T:=tab) [.any,.any,.any,.any,.own 1 [],.at [],.eff,.eff,.any,.any,.eff] [(1,[])] ?_;refine DW.runN U 8 ?_;simp only[go_sem,qh,qd,qc,qe,qf,qg,reduceIte,reduceCtorEq,zV,yI,ug,qW,qU,true_and,uj,xj,yG,xg,zJ,za,gu9,f10,yW,ua,qZ,AV.one,qN,qo,gt_iff_lt,ym,qH,qE,qO,qD,qG,qj,qp,qB,qn,qA,qI];refine DW.runN U 3 ?_;simp only[go_sem,qh,qd,qc,qe,qf,qg,reduceIte,reduceCtorEq,zJ,za,gu9,f10,yW,ua,qZ,AV.one,qN,qo,gt_iff_lt,ym,qH,qE,qO,qD,qG,qj,qp,qB,qn,qA,qI];refine DW.fin U (by decide +kernel) rfl ?_;simp only[zH,ye,yx,Zn,upd,qc,reduceIte,xh,xO];apply J
     exact⟨_,_,⟨a0.fl++[a1],a0.vl+1,vcn a0.fplace a1 (qa a0.fl:Int),(qa a0.fl:Int),rfl,rfl,h⟩,(.t [0,1,2] false)⟩
   rw[Zc hc7] at h;apply zm;exact⟨_,_,⟨a0.fl,a0.vl,a0.fplace,(XE a0.fplace a1).getD 0,rfl,rfl,h⟩,(.t [0,1,2] false)⟩
 rintro _ _ ⟨l2,v3,l4,x5,rfl,rfl,h⟩;unfold wd.j6 at h;refine O [4] ?_;apply yg;cases h;simp only[ZA,yQ,y5,xN,exists_eq_left',go_sem,qh,qd,qc,qe,qf,qg,reduceIte,reduceCtorEq,zJ,za];refine⟨by decide,by simp,?_,?_⟩
 · first|rfl|(simp only[go_sem,qh,qd,qc,qe,qf,qg,reduceIte,reduceCtorEq,push_cast,if_true,qq,qn,qu,qr,qs,qt,qz,qo,qw,qv,qm,zw,zJ,za]<;>rfl)
 first|rfl|(simp only[go_sem,qh,qd,qc,qe,qf,qg,reduceIte,reduceCtorEq,push_cast,if_true,qq,qn,qu,qr,qs,qt,qz,qo,qw,qv,qm,zw,zJ,za]<;>rfl)
def wb.j9 (m0__03:zB)(m0__14:zB)(l5:List yO)(v6:Nat)(l7:List (yO×Int))(m4_8:wO):Option (wO×Bool×Zy):=
 some (m4_8,true,(⟨m0__03,m0__14,l5,v6,l7⟩:Zy))
def wb (a0:Zy)(a1:z8)(a2:z8)(a3:Int):Option (wO×Bool×Zy):=
 bnd (zW a1 a3) fun r1=>bnd (zW a2 a3) fun r2=>(if (((!r1.2)||(!r2.2))||(!(decide (r1.1.fLabel=r2.1.fLabel))))=true then some ((⟨0,0,0⟩:wO),false,a0) else (if ((decide (r1.1.fType.fKind=7))&&(decide (r2.1.fType.fKind=7)))=true then (wd a0 (⟨r1.1.fType.fName,r2.1.fType.fName⟩:yO)).bind fun r14=>(if r1.1.fLabel=1 then (wb.j9 r14.2.ffrom r14.2.fto r14.2.fl r14.2.vl r14.2.fplace (⟨4,a3,r14.1⟩:wO)) else (wb.j9 r14.2.ffrom r14.2.fto r14.2.fl r14.2.vl r14.2.fplace (⟨3,a3,r14.1⟩:wO))) else (if ((decide (r1.1.fType.fKind=2))&&(decide (r2.1.fType.fKind=1)))=true then (wb.j9 a0.ffrom a0.fto a0.fl a0.vl a0.fplace (⟨2,a3,0⟩:wO)) else (if ((!(decide (r1.1.fType.fKind=r2.1.fType.fKind)))&&((!(decide (r1.1.fType.fKind=1)))||(!(decide (r2.1.fType.fKind=2)))))=true then some ((⟨0,0,0⟩:wO),false,a0) else (wb.j9 a0.ffrom a0.fto a0.fl a0.vl a0.fplace (⟨1,a3,0⟩:wO))))))
theorem wb.ok {a0 a1 a2 a3 r}(h:wb a0 a1 a2 a3=some r):ACalls qi 151 [.op 0 0 0,.agg (zh a1),.agg (zh a2),.int .i64 a3] [.cells 0 [.str a0.ffrom.fName,.ds true (qb zh a0.ffrom.fMessages) (qa a0.ffrom.fMessages) false,.ds true (qb zk a0.ffrom.fEnums) (qa a0.ffrom.fEnums) false,.ds true (qb zr a0.ffrom.fMethods) (qa a0.ffrom.fMethods) false,.str a0.fto.fName,.ds true (qb zh a0.fto.fMessages) (qa a0.fto.fMessages) false,.ds true (qb zk a0.fto.fEnums) (qa a0.fto.fEnums) false,.ds true (qb zr a0.fto.fMethods) (qa a0.fto.fMethods) false,.os true 2 1 (a0.vl) 0 (qa a0.fl) false,.mp 2],.cells (a0.vl) (qb zJ a0.fl),.map (y0 yL (AV.int .i64) a0.fplace)] (fun r' σ'=>r'=.tup [.agg (yu r.1),.bool r.2.1]∧σ'=[.cells 0 [.str r.2.2.ffrom.fName,.ds true (qb zh r.2.2.ffrom.fMessages) (qa r.2.2.ffrom.fMessages) false,.ds true (qb zk r.2.2.ffrom.fEnums) (qa r.2.2.ffrom.fEnums) false,.ds true (qb zr r.2.2.ffrom.fMethods) (qa r.2.2.ffrom.fMethods) false,.str r.2.2.fto.fName,.ds true (qb zh r.2.2.fto.fMessages) (qa r.2.2.fto.fMessages) false,.ds true (qb zk r.2.2.fto.fEnums) (qa r.2.2.fto.fEnums) false,.ds true (qb zr r.2.2.fto.fMethods) (qa r.2.2.fto.fMethods) false,.os true 2 1 (r.2.2.vl) 0 (qa r.2.2.fl) false,.mp 2],.cells (r.2.2.vl) (qb zJ r.2.2.fl),.map (y0 yL (AV.int .i64) r.2.2.fplace)]):=by
 refine Zx [0,1,2] (rs:=[.cell 8 248,.tmp 9]) U Tryz.func151 rfl Tryz.ntmps151 rfl Tryz.call151 (by simp) rfl ?_;refine zK [(0,.op 0 0 0),(1,.agg (zh a1)),(2,.agg (zh a2)),(3,.int .i64 a3)] ⟨rfl,rfl,rfl,rfl,trivial⟩ ?_;unfold wb at h;refine rgW [0,3,5,6,8] @zh.eq_1 ?_
 refine rc [0,3,6,8,10,11] fun K J=>?_
 obtain⟨r1,hr1,h⟩:=yq h;refine rnW 2 @zh.eq_1 ?_;refine clN rfl rfl rfl ((zW.ok hr1).c _) ?_;refine rnW 6 (aI @yB.eq_1 (aI @zh.eq_1 @xp.eq_1)) ?_;refine nkN J ?_
 refine rc [0,3,8,10,11,12,13] fun K J=>?_
 obtain⟨r2,hr2,h⟩:=yq h;refine rnW 2 @zh.eq_1 ?_;refine clN rfl rfl rfl ((zW.ok hr2).c _) ?_;refine rnW 6 (aI @yB.eq_1 (aI @zh.eq_1 @xp.eq_1)) ?_;refine nkN J ?_;refine rgW [0,8,10,11,12,13,14] @yu.eq_1 ?_;refine xV (fun L τ=>∃ (m0__03:zB) (m0__14:zB) (l5:List yO) (v6:Nat) (l7:List (yO×Int)) (m4_8:wO),L=[(8,.op 3 0 0),(14,.op 4 0 0)]∧τ=([.cells 0 [.str m0__03.fName,.ds true (qb zh m0__03.fMessages) (qa m0__03.fMessages) false,.ds true (qb zk m0__03.fEnums) (qa m0__03.fEnums) false,.ds true (qb zr m0__03.fMethods) (qa m0__03.fMethods) false,.str m0__14.fName,.ds true (qb zh m0__14.fMessages) (qa m0__14.fMessages) false,.ds true (qb zk m0__14.fEnums) (qa m0__14.fEnums) false,.ds true (qb zr m0__14.fMethods) (qa m0__14.fMethods) false,.os true 2 1 v6 0 (qa l5) false,.mp 2],.cells v6 (qb zJ l5),.map (y0 yL (AV.int .i64) l7),.cells 0 [.int .i64 0,.int .i64 0,.int .i64 0],.cells 0 [.int .i64 m4_8.fOp,.int .i64 m4_8.fTag,.int .i64 m4_8.fSub]]:ze)∧wb.j9 m0__03 m0__14 l5 v6 l7 m4_8=some r) ?_ ?_
 · refine rd [0,8,10,11,12,13,14,15,16] fun K J=>?_
   refine DW.start (T:=tab) [.any,.any,.at [],.any,.any,.at [],.any,.any] [] ?_;refine DW.runN U 8 ?_;simp only[go_sem,qh,qd,qc,qe,qf,qg,reduceIte,reduceCtorEq];refine DW.fin U (by decide +kernel) rfl ?_;simp only[zH,ye,yx,Zn,upd,qc,reduceIte,xh,xO];apply J
   apply zq
   refine rc [0,8,10,12,14,15,16,37] fun K J=>?_
   refine rnN 3 ?_;refine cut (b:=(!r1.2)) (hb:=boolP_eq _) 3 40 43 [0,8,10,12,14,15,16] ((!r1.2)||(!r2.2)) qF rfl ?_;refine rnN 1 ?_;refine cut (b:=((!r1.2)||(!r2.2))) (hb:=boolP_eq _) 6 44 50 [0,8,10,12,14,15,16] (((!r1.2)||(!r2.2))||(!(decide (r1.1.fLabel=r2.1.fLabel)))) qF rfl ?_;refine rnN 1 ?_;refine nkN J ?_;refine zY (b:=(((!r1.2)||(!r2.2))||(!(decide (r1.1.fLabel=r2.1.fLabel))))) rfl (fun hc10=>?_) (fun hc10=>?_)
   · rw[if_pos hc10] at h;refine rgW [8,9] @yu.eq_1 ?_;apply yg;cases h;simp only[ZA,yQ,y5,xN,exists_eq_left',go_sem,qh,qd,qc,qe,qf,qg,reduceIte,reduceCtorEq,zJ,za,yu];refine⟨by decide,by simp,?_,?_⟩
     · first|rfl|(simp only[go_sem,qh,qd,qc,qe,qf,qg,reduceIte,reduceCtorEq,push_cast,if_true,qq,qn,qu,qr,qs,qt,qz,qo,qw,qv,qm,zw,zJ,za,yu]<;>rfl)
     first|rfl|(simp only[go_sem,qh,qd,qc,qe,qf,qg,reduceIte,reduceCtorEq,push_cast,if_true,qq,qn,qu,qr,qs,qt,qz,qo,qw,qv,qm,zw,zJ,za,yu]<;>rfl)
   rw[Zc hc10] at h
   refine rc [0,8,10,12,14,15,16,52] fun K J=>?_
   refine rnW 3 qF ?_;refine cut 3 55 58 [0,8,10,12,14,15,16] ((decide (r1.1.fType.fKind=7))&&(decide (r2.1.fType.fKind=7))) qF rfl ?_;refine rnN 1 ?_;refine nkN J ?_;refine zY (b:=((decide (r1.1.fType.fKind=7))&&(decide (r2.1.fType.fKind=7)))) rfl (fun hc13=>?_) (fun hc13=>?_)
   · rw[if_pos hc13] at h
     refine rc [8,10,14] fun K J=>?_
     obtain⟨r14,hr14,h⟩:=bind_some h;refine rnN 8 ?_;refine clN rfl rfl rfl (@id (ACalls qi 150 [.op 0 0 0,.agg [.str r1.1.fType.fName,.str r2.1.fType.fName]] [.cells 0 [.str a0.ffrom.fName,.ds true (qb zh a0.ffrom.fMessages) (qa a0.ffrom.fMessages) false,.ds true (qb zk a0.ffrom.fEnums) (qa a0.ffrom.fEnums) false,.ds true (qb zr a0.ffrom.fMethods) (qa a0.ffrom.fMethods) false,.str a0.fto.fName,.ds true (qb zh a0.fto.fMessages) (qa a0.fto.fMessages) false,.ds true (qb zk a0.fto.fEnums) (qa a0.fto.fEnums) false,.ds true (qb zr a0.fto.fMethods) (qa a0.fto.fMethods) false,.os true 2 1 (a0.vl) 0 (qa a0.fl) false,.mp 2],.cells (a0.vl) (qb zJ a0.fl),.map (y0 yL (AV.int .i64) a0.fplace),.cells 0 (zh a1),.cells 0 (zh a2),.cells 0 [.int .i64 0,.int .i64 0,.int .i64 0],.cells 0 (yB r1.1),.cells 0 (yB r2.1),.cells 0 [.int .i64 1,.int .i64 a3,.int .i64 0]] (fun r' σ'=>r'=.int .i64 r14.1∧σ'=[.cells 0 [.str r14.2.ffrom.fName,.ds true (qb zh r14.2.ffrom.fMessages) (qa r14.2.ffrom.fMessages) false,.ds true (qb zk r14.2.ffrom.fEnums) (qa r14.2.ffrom.fEnums) false,.ds true (qb zr r14.2.ffrom.fMethods) (qa r14.2.ffrom.fMethods) false,.str r14.2.fto.fName,.ds true (qb zh r14.2.fto.fMessages) (qa r14.2.fto.fMessages) false,.ds true (qb zk r14.2.fto.fEnums) (qa r14.2.fto.fEnums) false,.ds true (qb zr r14.2.fto.fMethods) (qa r14.2.fto.fMethods) false,.os true 2 1 (r14.2.vl) 0 (qa r14.2.fl) false,.mp 2],.cells (r14.2.vl) (qb zJ r14.2.fl),.map (y0 yL (AV.int .i64) r14.2.fplace),.cells 0 (zh a1),.cells 0 (zh a2),.cells 0 [.int .i64 0,.int .i64 0,.int .i64 0],.cells 0 (yB r1.1),.cells 0 (yB r2.1),.cells 0 [.int .i64 1,.int .i64 a3,.int .i64 0]])) ((wd.ok hr14).ix [0,1,2])) ?_;refine rnW 4 @yu.eq_1 ?_;refine nkN J ?_;refine rgW [8,14,72] qF ?_;refine yv rfl (fun hc15=>?_) (fun hc15=>?_)
     · rw[if_pos hc15] at h;have t16:=eq_true hc15
       refine rgE U [8,14] fun K J=>?_
       simp only[go_sem,qh,qd,qc,qe,qf,qg,reduceIte,reduceCtorEq,yu,t16];apply J
       exact⟨_,_,⟨r14.2.ffrom,r14.2.fto,r14.2.fl,r14.2.vl,r14.2.fplace,(⟨4,a3,r14.1⟩:wO),rfl,rfl,h⟩,(.t [0,1,2,5,8] false)⟩
     rw[if_neg hc15] at h;have t17:=eq_false hc15;apply zm;exact⟨_,_,⟨r14.2.ffrom,r14.2.fto,r14.2.fl,r14.2.vl,r14.2.fplace,(⟨3,a3,r14.1⟩:wO),rfl,rfl,h⟩,(.t [0,1,2,5,8] false)⟩
   rw[Zc hc13] at h
   refine rc [8,14,15,16,74] fun K J=>?_
   refine rnW 3 qF ?_;refine cut 3 77 80 [16,8,14,15] ((decide (r1.1.fType.fKind=2))&&(decide (r2.1.fType.fKind=1))) qF rfl ?_;refine rnN 1 ?_;refine nkN J ?_;refine zY (b:=((decide (r1.1.fType.fKind=2))&&(decide (r2.1.fType.fKind=1)))) rfl (fun hc20=>?_) (fun hc20=>?_)
   · rw[if_pos hc20] at h
     refine rgE U [8,14] fun K J=>?_
     simp only[go_sem,qh,qd,qc,qe,qf,qg,reduceIte,reduceCtorEq,yu];apply J
     exact⟨_,_,⟨a0.ffrom,a0.fto,a0.fl,a0.vl,a0.fplace,(⟨2,a3,0⟩:wO),rfl,rfl,h⟩,(.t [0,1,2,5,8] false)⟩
   rw[Zc hc20] at h
   refine rc [8,14,82] fun K J=>?_
   refine rnW 4 qF ?_;refine xi 7 (fun L τ=>L=[(8,.op 5 0 0),(14,.op 8 0 0),(93,.bool ((!(decide (r1.1.fType.fKind=r2.1.fType.fKind)))&&((!(decide (r1.1.fType.fKind=1)))||(!(decide (r2.1.fType.fKind=2))))))]∧τ=([.cells 0 [.str a0.ffrom.fName,.ds true (qb zh a0.ffrom.fMessages) (qa a0.ffrom.fMessages) false,.ds true (qb zk a0.ffrom.fEnums) (qa a0.ffrom.fEnums) false,.ds true (qb zr a0.ffrom.fMethods) (qa a0.ffrom.fMethods) false,.str a0.fto.fName,.ds true (qb zh a0.fto.fMessages) (qa a0.fto.fMessages) false,.ds true (qb zk a0.fto.fEnums) (qa a0.fto.fEnums) false,.ds true (qb zr a0.fto.fMethods) (qa a0.fto.fMethods) false,.os true 2 1 (a0.vl) 0 (qa a0.fl) false,.mp 2],.cells (a0.vl) (qb zJ a0.fl),.map (y0 yL (AV.int .i64) a0.fplace),.cells 0 (zh a1),.cells 0 (zh a2),.cells 0 [.int .i64 0,.int .i64 0,.int .i64 0],.cells 0 (yB r1.1),.cells 0 (yB r2.1),.cells 0 [.int .i64 1,.int .i64 a3,.int .i64 0]]:ze)) ?_ ?_
   · refine Yw 86 rfl (fun hg86=>?_) (fun hg86=>?_)
     · have t21:=eq_false hg86;refine rnW 3 qF ?_;refine cut 3 89 92 [86,8,14] ((!(decide (r1.1.fType.fKind=1)))||(!(decide (r2.1.fType.fKind=2)))) qF rfl ?_;refine rnN 1 ?_;refine zz ⟨rfl,_,_,⟨rfl,rfl⟩,.p t21⟩
     have t24:=eq_true hg86;refine rnW 7 qF ?_;refine zz ⟨rfl,_,_,⟨rfl,rfl⟩,.p t24⟩
   rintro _ _ ⟨rfl,rfl⟩;refine rnN 1 ?_;refine nkN J ?_;refine zY (b:=((!(decide (r1.1.fType.fKind=r2.1.fType.fKind)))&&((!(decide (r1.1.fType.fKind=1)))||(!(decide (r2.1.fType.fKind=2)))))) rfl (fun hc25=>?_) (fun hc25=>?_)
   · rw[if_pos hc25] at h;refine rgW [8,9] @yu.eq_1 ?_;apply yg;cases h;simp only[ZA,yQ,y5,xN,exists_eq_left',go_sem,qh,qd,qc,qe,qf,qg,reduceIte,reduceCtorEq,zJ,za,yu];refine⟨by decide,by simp,?_,?_⟩
     · first|rfl|(simp only[go_sem,qh,qd,qc,qe,qf,qg,reduceIte,reduceCtorEq,push_cast,if_true,qq,qn,qu,qr,qs,qt,qz,qo,qw,qv,qm,zw,zJ,za,yu]<;>rfl)
     first|rfl|(simp only[go_sem,qh,qd,qc,qe,qf,qg,reduceIte,reduceCtorEq,push_cast,if_true,qq,qn,qu,qr,qs,qt,qz,qo,qw,qv,qm,zw,zJ,za,yu]<;>rfl)
   rw[Zc hc25] at h;apply zm;exact⟨_,_,⟨a0.ffrom,a0.fto,a0.fl,a0.vl,a0.fplace,(⟨1,a3,0⟩:wO),rfl,rfl,h⟩,(.t [0,1,2,5,8] false)⟩
 rintro _ _ ⟨m0__03,m0__14,l5,v6,l7,m4_8,rfl,rfl,h⟩;unfold wb.j9 at h;refine rgW [8,9] @yu.eq_1 ?_;apply yg;cases h;simp only[ZA,yQ,y5,xN,exists_eq_left',go_sem,qh,qd,qc,qe,qf,qg,reduceIte,reduceCtorEq,zJ,za,yu];refine⟨by decide,by simp,?_,?_⟩
 · first|rfl|(simp only[go_sem,qh,qd,qc,qe,qf,qg,reduceIte,reduceCtorEq,push_cast,if_true,qq,qn,qu,qr,qs,qt,qz,qo,qw,qv,qm,zw,zJ,za,yu]<;>rfl)
 first|rfl|(simp only[go_sem,qh,qd,qc,qe,qf,qg,reduceIte,reduceCtorEq,push_cast,if_true,qq,qn,qu,qr,qs,qt,qz,qo,qw,qv,qm,zw,zJ,za,yu]<;>rfl)
end
section
set_option maxRecDepth 4000
set_option maxHeartbeats 1000000
open AM
def xD.j70 (x50:Int)(rec59:List (yO×Int)→zB→zB→List yO→Nat→List wO→Int→Option (xW×Int))(l63:List (yO×Int))(m4__064:zB)(m4__165:zB)(l66:List yO)(v67:Nat)(l68:List wO):Option (xW×Int):=
 (rec59 l63 m4__064 m4__165 l66 v67 l68 (IntKind.i64.wrap (x50+1)))
def xD.l59 (l19:List (List wO))(x21:Int)(rec30:List (yO×Int)→zB→zB→List yO→Nat→List (List wO)→Int→Option (xW×Int))(r38:z8×Bool)(r41:z8×Bool):Nat→List (yO×Int)→zB→zB→List yO→Nat→List wO→Int→Option (xW×Int)
 |0,_,_,_,_,_,_,_=>none
 |k59+1,l43,m4__044,m4__145,l46,v47,l48,x50=>(if x50≤500 then (wb (⟨m4__044,m4__145,l46,v47,l43⟩:Zy) r38.1 r41.1 x50).bind fun r71=>(if r71.2.1=true then (vaV (qa l48+1) 24).bind fun _u73=>(xD.j70 x50 (xD.l59 l19 x21 rec30 r38 r41 k59) r71.2.2.fplace r71.2.2.ffrom r71.2.2.fto r71.2.2.fl r71.2.2.vl (l48++[r71.1])) else (xD.j70 x50 (xD.l59 l19 x21 rec30 r38 r41 k59) r71.2.2.fplace r71.2.2.ffrom r71.2.2.fto r71.2.2.fl r71.2.2.vl l48)) else (vaV (qa l19+1) 24).bind fun _u76=>(rec30 l43 m4__044 m4__145 l46 v47 (l19++[l48]) (IntKind.i64.wrap (x21+1))))
def xD.l30 (a0:zB)(a1:zB):Nat→List (yO×Int)→zB→zB→List yO→Nat→List (List wO)→Int→Option (xW×Int)
 |0,_,_,_,_,_,_,_=>none
 |k30+1,l14,m4__015,m4__116,l17,v18,l19,x21=>(if x21<(qa l17:Int) then (YI l17 x21).bind fun y35=>bnd (yw a0 y35.ffrom) fun r38=>bnd (yw a1 y35.fto) fun r41=>(xD.l59 l19 x21 (xD.l30 a0 a1 k30) r38 r41 xz l14 m4__015 m4__116 l17 v18 ([]:List wO) 1) else some ((⟨l19⟩:xW),0))
def xD (a0:zB)(a1:zB)(a2:List UInt8)(a3:List UInt8):Option (xW×Int):=
 (yN a0).bind fun r2=>(if r2=0 then (yN a1).bind fun r3=>some (!(decide (r3=0))) else some true).bind fun c3=>(if c3=true then some ((⟨([]:List (List wO))⟩:xW),1) else bnd (yw a0 a2) fun r8=>bnd (yw a1 a3) fun r9=>(if ((!r8.2)||(!r9.2))=true then some ((⟨([]:List (List wO))⟩:xW),14) else (wd (⟨a0,a1,([]:List yO),0,([]:List (yO×Int))⟩:Zy) (⟨a2,a3⟩:yO)).bind fun r12=>(xD.l30 a0 a1 xz r12.2.fplace r12.2.ffrom r12.2.fto r12.2.fl r12.2.vl ([]:List (List wO)) 0)))
theorem xD.ok {a0 a1 a2 a3 r}(h:xD a0 a1 a2 a3=some r):ACalls qi 99 [.agg (za a0),.agg (za a1),.str a2,.str a3] [] (fun r' _=>r'=.tup [.agg (zt r.1),.int .i64 r.2]):=by
 refine zx (rs:=[.cell 8 178,.tmp 9]) U Tryz.func99 rfl Tryz.ntmps99 rfl Tryz.call99 (by simp) ?_;refine zK [(0,.agg (za a0)),(1,.agg (za a1)),(2,.str a2),(3,.str a3)] ⟨rfl,rfl,rfl,rfl,trivial⟩ ?_;unfold xD at h;refine rgW [2,3,4,5,8] @za.eq_1 ?_
 refine zd fun Z1 hZ1=>?_
 refine rc [2,3,4,5,8,32] fun K J=>?_
 obtain⟨r2,hr2,h⟩:=bind_some h;refine rnW 1 @za.eq_1 ?_;refine clN rfl rfl rfl ((yN.ok hr2).c _) ?_;refine rnW 2 @za.eq_1 ?_;obtain⟨c3,hc3,h⟩:=bind_some h;refine xi 4 (fun L τ=>L=[(2,.str a2),(3,.str a3),(4,.op 0 0 0),(5,.op 1 0 0),(8,.op 2 0 0),(32,.bool c3)]∧τ=([.cells 0 (za a0),.cells 0 (za a1),.cells 0 [.ds true [] 0 true]]:ze)) ?_ ?_
 · refine Yw 28 rfl (fun hg28=>?_) (fun hg28=>?_)
   · have t4:=eq_false hg28;rw[if_neg hg28] at hc3;refine rnW 4 @za.eq_1 ?_;cases hc3;refine zz ⟨rfl,_,_,⟨rfl,rfl⟩,.p t4⟩
   have t5:=eq_true hg28;rw[if_pos hg28] at hc3;obtain⟨r6,hr6,hc3⟩:=bind_some hc3;refine rnW 1 @za.eq_1 ?_;refine clN rfl rfl rfl ((yN.ok hr6).c _) ?_;refine rnW 2 @za.eq_1 ?_;cases hc3;refine zz ⟨rfl,_,_,⟨rfl,rfl⟩,.p t5⟩
 rintro _ _ ⟨rfl,rfl⟩;refine nkN J ?_;refine zY (b:=c3) rfl (fun hc7=>?_) (fun hc7=>?_)
 · rw[if_pos hc7] at h;refine rgW [8,9] @zt.eq_1 ?_;cases h;exact rtA
 rw[Zc hc7] at h;apply zm;apply hZ1
 refine rc [2,3,4,5,8,11] fun K J=>?_
 obtain⟨r8,hr8,h⟩:=yq h;refine rnW 2 @za.eq_1 ?_;refine clN rfl rfl rfl ((yw.ok hr8).c _) ?_;refine rnW 6 (aI @zh.eq_1 @za.eq_1) ?_;refine nkN J ?_
 refine rc [2,3,4,5,8,11,13] fun K J=>?_
 obtain⟨r9,hr9,h⟩:=yq h;refine rnW 2 @za.eq_1 ?_;refine clN rfl rfl rfl ((yw.ok hr9).c _) ?_;refine rnW 6 (aI @zh.eq_1 @za.eq_1) ?_;refine nkN J ?_
 refine zd fun Z10 hZ10=>?_
 refine rc [2,3,4,5,8,51] fun K J=>?_
 refine rnN 3 ?_;refine cut (b:=(!r8.2)) (hb:=boolP_eq _) 3 48 51 [2,3,4,5,8] ((!r8.2)||(!r9.2)) qF rfl ?_;refine nkN J ?_;refine zY (b:=((!r8.2)||(!r9.2))) rfl (fun hc11=>?_) (fun hc11=>?_)
 · rw[if_pos hc11] at h;refine rgW [8,9] @zt.eq_1 ?_;cases h;exact rtA
 rw[Zc hc11] at h;apply zm;apply hZ10;refine rgW [2,3,4,5,8,14] @za.eq_1 ?_;refine Xl 5 rfl (τ:=[.cells 0 (za a0),.cells 0 (za a1),.cells 0 [.ds true [] 0 true],.cells 0 (zh r8.1),.cells 0 (zh r9.1),.map (y0 yL (AV.int .i64) []),.cells 0 [.str a0.fName,.ds true (qb zh a0.fMessages) (qa a0.fMessages) false,.ds true (qb zk a0.fEnums) (qa a0.fEnums) false,.ds true (qb zr a0.fMethods) (qa a0.fMethods) false,.str a1.fName,.ds true (qb zh a1.fMessages) (qa a1.fMessages) false,.ds true (qb zk a1.fEnums) (qa a1.fEnums) false,.ds true (qb zr a1.fMethods) (qa a1.fMethods) false,.ds true [] 0 true,.mp 5]]) rfl ?_;refine Zw 6 8 2 rfl (by simp) rfl (L:=[(2,.str a2),(3,.str a3),(4,.op 0 0 0),(5,.op 1 0 0),(8,.op 2 0 0),(14,.op 6 0 0)]) (τ:=[.cells 0 (za a0),.cells 0 (za a1),.cells 0 [.ds true [] 0 true],.cells 0 (zh r8.1),.cells 0 (zh r9.1),.map (y0 yL (AV.int .i64) []),.cells 0 [.str a0.fName,.ds true (qb zh a0.fMessages) (qa a0.fMessages) false,.ds true (qb zk a0.fEnums) (qa a0.fEnums) false,.ds true (qb zr a0.fMethods) (qa a0.fMethods) false,.str a1.fName,.ds true (qb zh a1.fMessages) (qa a1.fMessages) false,.ds true (qb zk a1.fEnums) (qa a1.fEnums) false,.ds true (qb zr a1.fMethods) (qa a1.fMethods) false,.os true 2 7 0 0 (qa ([]:List yO)) false,.mp 5],.cells 0 (qb zJ ([]:List yO))]) .s ?_;refine xB (L:=[(2,.str a2),(3,.str a3),(4,.op 0 0 0),(5,.op 1 0 0),(8,.op 2 0 0),(14,.op 6 0 0)]) (τ:=[.cells 0 (za a0),.cells 0 (za a1),.cells 0 [.ds true [] 0 true],.cells 0 (zh r8.1),.cells 0 (zh r9.1),.map (y0 yL (AV.int .i64) []),.cells 0 [.str a0.fName,.ds true (qb zh a0.fMessages) (qa a0.fMessages) false,.ds true (qb zk a0.fEnums) (qa a0.fEnums) false,.ds true (qb zr a0.fMethods) (qa a0.fMethods) false,.str a1.fName,.ds true (qb zh a1.fMessages) (qa a1.fMessages) false,.ds true (qb zk a1.fEnums) (qa a1.fEnums) false,.ds true (qb zr a1.fMethods) (qa a1.fMethods) false,.os true 2 7 0 0 (qa ([]:List yO)) false,.mp 5],.cells 0 (qb zJ ([]:List yO))]) .s ?_
 refine rc [4,5,8,14] fun K J=>?_
 obtain⟨r12,hr12,h⟩:=bind_some h;refine rnN 4 ?_;refine clN rfl rfl rfl (@id (ACalls qi 150 [.op 6 0 0,.agg [.str a2,.str a3]] [.cells 0 (za a0),.cells 0 (za a1),.cells 0 [.ds true [] 0 true],.cells 0 (zh r8.1),.cells 0 (zh r9.1),.map (y0 yL (AV.int .i64) []),.cells 0 [.str a0.fName,.ds true (qb zh a0.fMessages) (qa a0.fMessages) false,.ds true (qb zk a0.fEnums) (qa a0.fEnums) false,.ds true (qb zr a0.fMethods) (qa a0.fMethods) false,.str a1.fName,.ds true (qb zh a1.fMessages) (qa a1.fMessages) false,.ds true (qb zk a1.fEnums) (qa a1.fEnums) false,.ds true (qb zr a1.fMethods) (qa a1.fMethods) false,.os true 2 7 0 0 (qa ([]:List yO)) false,.mp 5],.cells 0 (qb zJ ([]:List yO))] (fun r' σ'=>r'=.int .i64 r12.1∧σ'=[.cells 0 (za a0),.cells 0 (za a1),.cells 0 [.ds true [] 0 true],.cells 0 (zh r8.1),.cells 0 (zh r9.1),.map (y0 yL (AV.int .i64) r12.2.fplace),.cells 0 [.str r12.2.ffrom.fName,.ds true (qb zh r12.2.ffrom.fMessages) (qa r12.2.ffrom.fMessages) false,.ds true (qb zk r12.2.ffrom.fEnums) (qa r12.2.ffrom.fEnums) false,.ds true (qb zr r12.2.ffrom.fMethods) (qa r12.2.ffrom.fMethods) false,.str r12.2.fto.fName,.ds true (qb zh r12.2.fto.fMessages) (qa r12.2.fto.fMessages) false,.ds true (qb zk r12.2.fto.fEnums) (qa r12.2.fto.fEnums) false,.ds true (qb zr r12.2.fto.fMethods) (qa r12.2.fto.fMethods) false,.os true 2 7 (r12.2.vl) 0 (qa r12.2.fl) false,.mp 5],.cells (r12.2.vl) (qb zJ r12.2.fl)])) ((wd.ok hr12).ix [6,7,5])) ?_;refine nkN J ?_;refine O [4,5,8,14,15] ?_;refine Zw 8 0 1 rfl (by simp) rfl (L:=[(4,.op 0 0 0),(5,.op 1 0 0),(8,.op 2 0 0),(14,.op 6 0 0),(15,.op 8 0 0)]) (τ:=[.cells 0 (za a0),.cells 0 (za a1),.cells 0 [.ds true [] 0 true],.cells 0 (zh r8.1),.cells 0 (zh r9.1),.map (y0 yL (AV.int .i64) r12.2.fplace),.cells 0 [.str r12.2.ffrom.fName,.ds true (qb zh r12.2.ffrom.fMessages) (qa r12.2.ffrom.fMessages) false,.ds true (qb zk r12.2.ffrom.fEnums) (qa r12.2.ffrom.fEnums) false,.ds true (qb zr r12.2.ffrom.fMethods) (qa r12.2.ffrom.fMethods) false,.str r12.2.fto.fName,.ds true (qb zh r12.2.fto.fMessages) (qa r12.2.fto.fMessages) false,.ds true (qb zk r12.2.fto.fEnums) (qa r12.2.fto.fEnums) false,.ds true (qb zr r12.2.fto.fMethods) (qa r12.2.fto.fMethods) false,.os true 2 7 (r12.2.vl) 0 (qa r12.2.fl) false,.mp 5],.cells (r12.2.vl) (qb zJ r12.2.fl),.cells 0 [.os true 1 9 0 0 (qa ([]:List (List wO))) false],.cells 0 (qb (XW yu) ([]:List (List wO)))]) .s ?_
 refine zd fun Z13 hZ13=>?_
 refine O [4,5,8,14,15,16] ?_;apply zq;refine yp (fun m L τ=>∃ (k30:Nat) (l14:List (yO×Int)) (m4__015:zB) (m4__116:zB) (l17:List yO) (v18:Nat) (l19:List (List wO)) (x21:Int) (v20:Nat),m=0+k30∧L=[(4,.op 0 0 0),(5,.op 1 0 0),(8,.op 2 0 0),(14,.op 4 0 0),(15,.op 6 0 0),(16,.int .i64 x21)]∧τ=([.cells 0 (za a0),.cells 0 (za a1),.cells 0 [.ds true [] 0 true],.map (y0 yL (AV.int .i64) l14),.cells 0 [.str m4__015.fName,.ds true (qb zh m4__015.fMessages) (qa m4__015.fMessages) false,.ds true (qb zk m4__015.fEnums) (qa m4__015.fEnums) false,.ds true (qb zr m4__015.fMethods) (qa m4__015.fMethods) false,.str m4__116.fName,.ds true (qb zh m4__116.fMessages) (qa m4__116.fMessages) false,.ds true (qb zk m4__116.fEnums) (qa m4__116.fEnums) false,.ds true (qb zr m4__116.fMethods) (qa m4__116.fMethods) false,.os true 2 5 v18 0 (qa l17) false,.mp 3],.cells v18 (qb zJ l17),.cells 0 [.os true 1 7 v20 0 (qa l19) false],.cells v20 (qb (XW yu) l19)]:ze)∧xD.l30 a0 a1 k30 l14 m4__015 m4__116 l17 v18 l19 x21=some r) _ ⟨xz,r12.2.fplace,r12.2.ffrom,r12.2.fto,r12.2.fl,r12.2.vl,([]:List (List wO)),0,0,rfl,rfl,rfl,h⟩ (.t [0,1,2,5,6,7,8,9] false) ?_;rintro m L τ ⟨k30,l14,m4__015,m4__116,l17,v18,l19,x21,v20,rfl,rfl,rfl,h⟩
 rcases k30 with _|k30
 · cases h
 simp only[xD.l30] at h
 refine zd fun Z31 hZ31=>?_
 refine rgW [4,5,8,14,15,16,69] qF ?_;refine yv rfl (fun hc32=>?_) (fun hc32=>?_)
 · rw[if_pos hc32] at h;have t33:=eq_true hc32;apply zm;apply hZ31
   refine zd fun Z34 hZ34=>?_
   apply zq;obtain⟨y35,hy35,h⟩:=bind_some h;have f36:=E240.idxO hy35;have f37:=E240.rdfO0 hy35;obtain⟨r38,hr38,h⟩:=yq h
   refine rd [4,5,8,14,15,16,17] fun K J=>?_
   refine DW.start (T:=tab) [.at [],.any,.any,.any,.at [],.any,.any,.any,.at [],.eff,.any,.any,.any,.flt,.eff,.any] [] ?_;refine DW.runN U 8 ?_;simp only[go_sem,qh,qd,qc,qe,qf,qg,reduceIte,reduceCtorEq,zJ,zh,za,t33,f36,f37];refine DW.runN U 1 ?_;simp only[go_sem,qh,qd,qc,qe,qf,qg,reduceIte,reduceCtorEq,zJ,zh,za,t33,f36,f37];refine DW.call rfl rfl rfl ((yw.ok hr38).c _) ?_;refine DW.runN U 6 ?_;simp only[go_sem,qh,qd,qc,qe,qf,qg,reduceIte,reduceCtorEq,zJ,zh,za,t33,f36,f37];refine DW.fin U (by decide +kernel) rfl ?_;simp only[zH,ye,yx,Zn,upd,qc,reduceIte,xh,xO];apply J
   have f39:=E240.idxO hy35;have f40:=E240.rdfO hy35 (o:=1) (by decide);obtain⟨r41,hr41,h⟩:=yq h
   refine rd [4,5,8,14,15,16,17,19] fun K J=>?_
   refine DW.start (T:=tab) [.at [],.any,.any,.any,.at [],.any,.any,.any,.at [],.eff,.any,.any,.any,.flt,.eff,.any] [] ?_;refine DW.runN U 8 ?_;simp only[go_sem,qh,qd,qc,qe,qf,qg,reduceIte,reduceCtorEq,zJ,zh,za,t33,f39,f40];refine DW.runN U 1 ?_;simp only[go_sem,qh,qd,qc,qe,qf,qg,reduceIte,reduceCtorEq,zJ,zh,za,t33,f39,f40];refine DW.call rfl rfl rfl ((yw.ok hr41).c _) ?_;refine DW.runN U 6 ?_;simp only[go_sem,qh,qd,qc,qe,qf,qg,reduceIte,reduceCtorEq,zJ,zh,za,t33,f39,f40];refine DW.fin U (by decide +kernel) rfl ?_;simp only[zH,ye,yx,Zn,upd,qc,reduceIte,xh,xO];apply J
   refine rgW [4,5,8,14,15,16,17,19,21] t33 ?_;refine vaA 21 3 rfl ?_;refine xB (L:=[(4,.op 0 0 0),(5,.op 1 0 0),(8,.op 2 0 0),(14,.op 4 0 0),(15,.op 6 0 0),(16,.int .i64 x21),(17,.op 8 0 0),(19,.op 9 0 0),(21,.os true 3 10 0 0 (qa ([]:List wO)) false)]) (τ:=[.cells 0 (za a0),.cells 0 (za a1),.cells 0 [.ds true [] 0 true],.map (y0 yL (AV.int .i64) l14),.cells 0 [.str m4__015.fName,.ds true (qb zh m4__015.fMessages) (qa m4__015.fMessages) false,.ds true (qb zk m4__015.fEnums) (qa m4__015.fEnums) false,.ds true (qb zr m4__015.fMethods) (qa m4__015.fMethods) false,.str m4__116.fName,.ds true (qb zh m4__116.fMessages) (qa m4__116.fMessages) false,.ds true (qb zk m4__116.fEnums) (qa m4__116.fEnums) false,.ds true (qb zr m4__116.fMethods) (qa m4__116.fMethods) false,.os true 2 5 v18 0 (qa l17) false,.mp 3],.cells v18 (qb zJ l17),.cells 0 [.os true 1 7 v20 0 (qa l19) false],.cells v20 (qb (XW yu) l19),.cells 0 (zh r38.1),.cells 0 (zh r41.1),.cells 0 (qb yu ([]:List wO))]) .s ?_
   refine zd fun Z42 hZ42=>?_
   refine rgW [4,5,8,14,15,16,17,19,21,22] t33 ?_;apply zq;refine yp (fun m L τ=>∃ (k59:Nat) (l43:List (yO×Int)) (m4__044:zB) (m4__145:zB) (l46:List yO) (v47:Nat) (l48:List wO) (x50:Int) (v49:Nat),m=0+k59∧L=[(4,.op 0 0 0),(5,.op 1 0 0),(8,.op 2 0 0),(14,.op 4 0 0),(15,.op 6 0 0),(16,.int .i64 x21),(17,.op 8 0 0),(19,.op 9 0 0),(21,.os true 3 10 v49 0 (qa l48) false),(22,.int .i64 x50)]∧τ=([.cells 0 (za a0),.cells 0 (za a1),.cells 0 [.ds true [] 0 true],.map (y0 yL (AV.int .i64) l43),.cells 0 [.str m4__044.fName,.ds true (qb zh m4__044.fMessages) (qa m4__044.fMessages) false,.ds true (qb zk m4__044.fEnums) (qa m4__044.fEnums) false,.ds true (qb zr m4__044.fMethods) (qa m4__044.fMethods) false,.str m4__145.fName,.ds true (qb zh m4__145.fMessages) (qa m4__145.fMessages) false,.ds true (qb zk m4__145.fEnums) (qa m4__145.fEnums) false,.ds true (qb zr m4__145.fMethods) (qa m4__145.fMethods) false,.os true 2 5 v47 0 (qa l46) false,.mp 3],.cells v47 (qb zJ l46),.cells 0 [.os true 1 7 v20 0 (qa l19) false],.cells v20 (qb (XW yu) l19),.cells 0 (zh r38.1),.cells 0 (zh r41.1),.cells v49 (qb yu l48)]:ze)∧xD.l59 l19 x21 (xD.l30 a0 a1 k30) r38 r41 k59 l43 m4__044 m4__145 l46 v47 l48 x50=some r) _ ⟨xz,l14,m4__015,m4__116,l17,v18,([]:List wO),1,0,rfl,rfl,rfl,h⟩ .s ?_;rintro m L τ ⟨k59,l43,m4__044,m4__145,l46,v47,l48,x50,v49,rfl,rfl,rfl,h⟩
   rcases k59 with _|k59
   · cases h
   simp only[xD.l59] at h
   refine zd fun Z60 hZ60=>?_
   refine rgW [4,5,8,14,15,16,17,19,21,22,99] t33 ?_;refine yv rfl (fun hc61=>?_) (fun hc61=>?_)
   · rw[if_pos hc61] at h;have t62:=eq_true hc61;apply zm;apply hZ60;refine xV (fun L τ=>∃ (l63:List (yO×Int)) (m4__064:zB) (m4__165:zB) (l66:List yO) (v67:Nat) (l68:List wO) (v69:Nat),L=[(4,.op 0 0 0),(5,.op 1 0 0),(8,.op 2 0 0),(14,.op 4 0 0),(15,.op 6 0 0),(16,.int .i64 x21),(17,.op 8 0 0),(19,.op 9 0 0),(21,.os true 3 10 v69 0 (qa l68) false),(22,.int .i64 x50)]∧τ=([.cells 0 (za a0),.cells 0 (za a1),.cells 0 [.ds true [] 0 true],.map (y0 yL (AV.int .i64) l63),.cells 0 [.str m4__064.fName,.ds true (qb zh m4__064.fMessages) (qa m4__064.fMessages) false,.ds true (qb zk m4__064.fEnums) (qa m4__064.fEnums) false,.ds true (qb zr m4__064.fMethods) (qa m4__064.fMethods) false,.str m4__165.fName,.ds true (qb zh m4__165.fMessages) (qa m4__165.fMessages) false,.ds true (qb zk m4__165.fEnums) (qa m4__165.fEnums) false,.ds true (qb zr m4__165.fMethods) (qa m4__165.fMethods) false,.os true 2 5 v67 0 (qa l66) false,.mp 3],.cells v67 (qb zJ l66),.cells 0 [.os true 1 7 v20 0 (qa l19) false],.cells v20 (qb (XW yu) l19),.cells 0 (zh r38.1),.cells 0 (zh r41.1),.cells v69 (qb yu l68)]:ze)∧xD.j70 x50 (xD.l59 l19 x21 (xD.l30 a0 a1 k30) r38 r41 k59) l63 m4__064 m4__165 l66 v67 l68=some r) ?_ ?_
     · apply zq
       refine rc [4,5,8,14,15,16,17,19,21,22,23,24] fun K J=>?_
       obtain⟨r71,hr71,h⟩:=bind_some h;refine rnW 4 (aI @zh.eq_1 (aI t33 t62)) ?_;refine clN rfl rfl rfl (@id (ACalls qi 151 [.op 4 0 0,.agg (zh r38.1),.agg (zh r41.1),.int .i64 x50] [.cells 0 (za a0),.cells 0 (za a1),.cells 0 [.ds true [] 0 true],.map (y0 yL (AV.int .i64) l43),.cells 0 [.str m4__044.fName,.ds true (qb zh m4__044.fMessages) (qa m4__044.fMessages) false,.ds true (qb zk m4__044.fEnums) (qa m4__044.fEnums) false,.ds true (qb zr m4__044.fMethods) (qa m4__044.fMethods) false,.str m4__145.fName,.ds true (qb zh m4__145.fMessages) (qa m4__145.fMessages) false,.ds true (qb zk m4__145.fEnums) (qa m4__145.fEnums) false,.ds true (qb zr m4__145.fMethods) (qa m4__145.fMethods) false,.os true 2 5 v47 0 (qa l46) false,.mp 3],.cells v47 (qb zJ l46),.cells 0 [.os true 1 7 v20 0 (qa l19) false],.cells v20 (qb (XW yu) l19),.cells 0 (zh r38.1),.cells 0 (zh r41.1),.cells v49 (qb yu l48)] (fun r' σ'=>r'=.tup [.agg (yu r71.1),.bool r71.2.1]∧σ'=[.cells 0 (za a0),.cells 0 (za a1),.cells 0 [.ds true [] 0 true],.map (y0 yL (AV.int .i64) r71.2.2.fplace),.cells 0 [.str r71.2.2.ffrom.fName,.ds true (qb zh r71.2.2.ffrom.fMessages) (qa r71.2.2.ffrom.fMessages) false,.ds true (qb zk r71.2.2.ffrom.fEnums) (qa r71.2.2.ffrom.fEnums) false,.ds true (qb zr r71.2.2.ffrom.fMethods) (qa r71.2.2.ffrom.fMethods) false,.str r71.2.2.fto.fName,.ds true (qb zh r71.2.2.fto.fMessages) (qa r71.2.2.fto.fMessages) false,.ds true (qb zk r71.2.2.fto.fEnums) (qa r71.2.2.fto.fEnums) false,.ds true (qb zr r71.2.2.fto.fMethods) (qa r71.2.2.fto.fMethods) false,.os true 2 5 (r71.2.2.vl) 0 (qa r71.2.2.fl) false,.mp 3],.cells (r71.2.2.vl) (qb zJ r71.2.2.fl),.cells 0 [.os true 1 7 v20 0 (qa l19) false],.cells v20 (qb (XW yu) l19),.cells 0 (zh r38.1),.cells 0 (zh r41.1),.cells v49 (qb yu l48)])) ((wb.ok hr71).ix [4,5,3])) ?_;refine rnW 6 (aI @zh.eq_1 (aI @yu.eq_1 (aI t33 t62))) ?_;refine nkN J ?_;refine rgW [4,5,8,14,15,16,17,19,21,22,23,110] (aI t33 t62) ?_;refine zY (b:=r71.2.1) rfl (fun hc72=>?_) (fun hc72=>?_)
       · rw[if_pos hc72] at h;obtain⟨_u73,hu73,h⟩:=bind_some h;have gu73:=xF hu73;have f74:=(yf E246.len l48)
         refine rgE U [4,5,8,14,15,16,17,19,21,22] fun K J=>?_
         simp only[go_sem,qh,qd,qc,qe,qf,qg,reduceIte,reduceCtorEq,zV,yI,ug,qW,qU,true_and,uj,xj,yG,xg,yu,t33,t62,gu73,f74,yW,ua,qZ,AV.one,qN,qo,gt_iff_lt,ym,qH,qE,qO,qD,qG,qj,qp,qB,qn,qA,qI];apply J
         exact⟨_,_,⟨r71.2.2.fplace,r71.2.2.ffrom,r71.2.2.fto,r71.2.2.fl,r71.2.2.vl,l48++[r71.1],v49+1,rfl,rfl,h⟩,(.t [0,1,2,3,4,5,6,7,8,9,10] false)⟩
       rw[Zc hc72] at h;apply zm;exact⟨_,_,⟨r71.2.2.fplace,r71.2.2.ffrom,r71.2.2.fto,r71.2.2.fl,r71.2.2.vl,l48,v49,rfl,rfl,h⟩,(.t [0,1,2,3,4,5,6,7,8,9,10] false)⟩
     rintro _ _ ⟨l63,m4__064,m4__165,l66,v67,l68,v69,rfl,rfl,h⟩;unfold xD.j70 at h
     refine rgE U [4,5,8,14,15,16,17,19,21,22] fun K J=>?_
     simp only[go_sem,qh,qd,qc,qe,qf,qg,reduceIte,reduceCtorEq,Zp,t33,t62];apply J
     exact⟨_,_,_,qK (0+k59),⟨k59,l63,m4__064,m4__165,l66,v67,l68,IntKind.i64.wrap (x50+1),v69,rfl,rfl,rfl,h⟩,.s⟩
   rw[if_neg hc61] at h;have t75:=eq_false hc61;apply yl;apply hZ42;obtain⟨_u76,hu76,h⟩:=bind_some h;have gu76:=xF hu76;have f77:=(yf E176.len l19)
   refine rgE U [4,5,8,14,15,16] fun K J=>?_
   simp only[go_sem,qh,qd,qc,qe,qf,qg,reduceIte,reduceCtorEq,zV,yI,ug,qW,qU,true_and,uj,xj,yG,xg,zt,XW,t33,t75,gu76,f77,yW,ua,qZ,AV.one,qN,qo,gt_iff_lt,ym,qH,qE,qO,qD,qG,qj,qp,qB,qn,qA,qI];apply J
   apply hZ34
   refine rgE U [4,5,8,14,15,16] fun K J=>?_
   simp only[go_sem,qh,qd,qc,qe,qf,qg,reduceIte,reduceCtorEq,Zp,t33,t75];apply J
   exact⟨_,_,_,qK (0+k30),⟨k30,l43,m4__044,m4__145,l46,v47,l19++[l48],IntKind.i64.wrap (x21+1),v20+1,rfl,rfl,rfl,h⟩,(.t [0,1,2,3,4,5,6,7] false)⟩
 rw[if_neg hc32] at h;have t78:=eq_false hc32;apply yl;apply hZ13;refine rgW [8,9] (aI @zt.eq_1 t78) ?_;cases h;exact rtA
def wX.j6 (a0:wO)(a1:Int)(x5:Bool):Bool:=
 (if x5=true then ((decide (0≤a0.fSub))&&(decide (a0.fSub<a1))) else false)
def wX.j3 (a0:wO)(a1:Int)(x2:Bool):Bool:=
 (if x2=true then decide (a0.fSub=0) else (if a0.fOp=3 then (wX.j6 a0 a1 (decide (a0.fOp=3))) else (wX.j6 a0 a1 (decide (a0.fOp=4)))))
def wX (a0:wO)(a1:Int):Bool:=
 (if a0.fOp=1 then (wX.j3 a0 a1 (decide (a0.fOp=1))) else (wX.j3 a0 a1 (decide (a0.fOp=2))))
theorem wX.ok {a0 a1 r}(h:wX a0 a1=r):ACalls qi 236 [.agg (yu a0),.int .i64 a1] [] (fun r' _=>r'=.bool r):=by
 refine zx (rs:=[.tmp 4]) U Tryz.func236 rfl Tryz.ntmps236 rfl Tryz.call236 (by simp) ?_;refine zK [(0,.agg (yu a0)),(1,.int .i64 a1)] ⟨rfl,rfl,trivial⟩ ?_;unfold wX at h;refine rgW [1,2] @yu.eq_1 ?_
 refine zd fun Z1 hZ1=>?_
 refine O [1,2,6] ?_;apply zq;refine xV (fun L τ=>∃ (x2:Bool),L=[(1,.int .i64 a1),(2,.op 0 0 0),(6,.int .i64 a0.fOp),(7,.bool x2)]∧τ=([.cells 0 [.int .i64 a0.fOp,.int .i64 a0.fTag,.int .i64 a0.fSub]]:ze)∧wX.j3 a0 a1 x2=r) ?_ ?_
 · refine rgW [1,2,6,7] qF ?_;refine yv rfl (fun hc13=>?_) (fun hc13=>?_)
   · rw[if_pos hc13] at h;have t14:=eq_true hc13;apply zm;exact⟨_,_,⟨decide (a0.fOp=1),rfl,rfl,h⟩,.s⟩
   rw[if_neg hc13] at h;have t15:=eq_false hc13
   refine rgE U [1,2,6,7] fun K J=>?_
   simp only[go_sem,qh,qd,qc,qe,qf,qg,reduceIte,reduceCtorEq,Zp,t15];apply J
   exact⟨_,_,⟨decide (a0.fOp=2),rfl,rfl,h⟩,.s⟩
 rintro _ _ ⟨x2,rfl,rfl,h⟩;unfold wX.j3 at h;refine zY (b:=x2) rfl (fun hc4=>?_) (fun hc4=>?_)
 · rw[if_pos hc4] at h;refine rgW [4] qF ?_;cases h;exact rtA
 rw[Zc hc4] at h;refine xV (fun L τ=>∃ (x5:Bool),L=[(1,.int .i64 a1),(2,.op 0 0 0),(13,.bool x5)]∧τ=([.cells 0 [.int .i64 a0.fOp,.int .i64 a0.fTag,.int .i64 a0.fSub]]:ze)∧wX.j6 a0 a1 x5=r) ?_ ?_
 · refine rgW [1,2,6,13] qF ?_;refine yv rfl (fun hc10=>?_) (fun hc10=>?_)
   · rw[if_pos hc10] at h;have t11:=eq_true hc10;apply zm;exact⟨_,_,⟨decide (a0.fOp=3),rfl,rfl,h⟩,.s⟩
   rw[if_neg hc10] at h;have t12:=eq_false hc10
   refine rgE U [1,2,13] fun K J=>?_
   simp only[go_sem,qh,qd,qc,qe,qf,qg,reduceIte,reduceCtorEq,Zp,t12];apply J
   exact⟨_,_,⟨decide (a0.fOp=4),rfl,rfl,h⟩,.s⟩
 rintro _ _ ⟨x5,rfl,rfl,h⟩;unfold wX.j6 at h;refine zY (b:=x5) rfl (fun hc7=>?_) (fun hc7=>?_)
 · rw[if_pos hc7] at h
   refine rc [4] fun K J=>?_
   refine rnW 4 qF ?_;refine cut 5 19 24 [] ((decide (0≤a0.fSub))&&(decide (a0.fSub<a1))) qF rfl ?_;refine rnN 1 ?_;refine nkN J ?_;cases h;exact rtA
 rw[Zc hc7] at h;apply zm;apply hZ1;refine O [4] ?_;cases h;exact rtA
def wi.l18 (a0:xW)(x6:Int)(rec8:Int→Bool):List wO→Int→Int→Bool
 |[],x15,x14=>(rec8 (x6+1))
 |y18::q18,x15,x14=>bnd (if ((decide (y18.fTag≤x14))||(decide (500<y18.fTag)))=true then true else bnd (wX y18 (qa a0.fParts:Int)) fun r27 => !r27) fun c27=>(if c27=true then false else ((wi.l18 a0 x6 rec8 q18) (x15+1) y18.fTag))
def wi.l8 (a0:xW):List (List wO)→Int→Bool
 |[],x6=>true
 |y8::q8,x6=>(wi.l18 a0 x6 (wi.l8 a0 q8) y8 0 0)
def wi (a0:xW):Bool:=
 (if ((decide ((qa a0.fParts:Int)<1))||(decide (100<(qa a0.fParts:Int))))=true then false else (wi.l8 a0 a0.fParts 0))
theorem wi.ok {a0 r}(h:wi a0=r):ACalls qi 198 [.agg (zt a0)] [] (fun r' _=>r'=.bool r):=by
 refine zx (rs:=[.tmp 2]) U Tryz.func198 rfl Tryz.ntmps198 rfl Tryz.call198 (by simp) ?_;refine zK [(0,.agg (zt a0))] ⟨rfl,trivial⟩ ?_;unfold wi at h;refine rgW [1] @zt.eq_1 ?_
 refine zd fun Z1 hZ1=>?_
 refine rc [1,17] fun K J=>?_
 refine rnW 5 qF ?_;refine cut 5 12 17 [1] ((decide ((qa a0.fParts:Int)<1))||(decide (100<(qa a0.fParts:Int)))) qF rfl ?_;refine nkN J ?_;refine zY (b:=((decide ((qa a0.fParts:Int)<1))||(decide (100<(qa a0.fParts:Int))))) rfl (fun hc4=>?_) (fun hc4=>?_)
 · rw[if_pos hc4] at h;refine O [2] ?_;cases h;exact rtA
 rw[Zc hc4] at h;apply zm;apply hZ1
 refine zd fun Z5 hZ5=>?_
 refine O [1,19,20,21] ?_;apply zq
 refine xr 19 fun hb8=>?_
 replace hb8:qa a0.fParts≤9223372036854775807:=hb8.1;refine yp (fun m L τ=>∃ (p8 q8:List (List wO)) (x6:Int),m=qa q8∧L=[(1,.op 0 0 0),(19,.ds true (qb (XW yu) a0.fParts) (qa a0.fParts) false),(20,.int .i64 (qa a0.fParts:Int)),(21,.int .i64 x6)]∧τ=([.cells 0 (zt a0)]:ze)∧a0.fParts=p8++q8∧x6=(qa p8:Int)∧wi.l8 a0 q8 x6=r) _ ⟨[],a0.fParts,0,rfl,rfl,rfl,rfl,rfl,h⟩ .s ?_;rintro m L τ ⟨p8,q8,x6,rfl,rfl,rfl,hE8,hi8,h⟩
 rcases q8 with _|⟨y8,q8⟩
 · have hz8:=xM hE8 hi8;simp only[wi.l8] at h;refine rgW [1,19,20,21,22] hz8 ?_
   refine zd fun Z9 hZ9=>?_
   refine zQ rfl ?_;apply yl;apply hZ5;refine rgW [2] hz8 ?_;cases h;exact rtA
 obtain⟨hz8,hw8,hx8,hE'8,hi'8⟩:=xq hE8 hi8 hb8;simp only[wi.l8] at h;refine rgW [1,19,20,21,22] (aI hz8 hw8) ?_
 refine zd fun Z10 hZ10=>?_
 refine zS rfl ?_;apply zm;apply hZ10
 refine zd fun Z11 hZ11=>?_
 apply zq;have f12:=E176.idxS hx8;have f13:=E176.fldS0 (f:=246) rfl rfl hx8
 refine rg U [1,4,19,20,21] fun K J=>?_
 simp only[go_sem,qh,qd,qc,qe,qf,qg,reduceIte,reduceCtorEq,XW,hz8,hw8,f12,f13];apply J
 refine rgW [1,4,5,19,20,21] (aI hz8 hw8) ?_;refine rgW [1,5,19,20,21,25,26,27] (aI hz8 hw8) ?_;apply zq
 refine xr 25 fun hb18=>?_
 replace hb18:qa y8≤9223372036854775807:=hb18.1;refine yp (fun m L τ=>∃ (p18 q18:List wO) (x15:Int) (x14:Int),m=qa q18∧L=[(1,.op 0 0 0),(5,.int .i64 x14),(19,.ds true (qb (XW yu) a0.fParts) (qa a0.fParts) false),(20,.int .i64 (qa a0.fParts:Int)),(21,.int .i64 x6),(25,.ds true (qb yu y8) (qa y8) false),(26,.int .i64 (qa y8:Int)),(27,.int .i64 x15)]∧τ=([.cells 0 (zt a0)]:ze)∧y8=p18++q18∧x15=(qa p18:Int)∧wi.l18 a0 x6 (wi.l8 a0 q8) q18 x15 x14=r) _ ⟨[],y8,0,0,rfl,rfl,rfl,rfl,rfl,h⟩ .s ?_;rintro m L τ ⟨p18,q18,x15,x14,rfl,rfl,rfl,hE18,hi18,h⟩
 rcases q18 with _|⟨y18,q18⟩
 · have hz18:=xM hE18 hi18;simp only[wi.l18] at h;refine rgW [1,5,19,20,21,25,26,27,28] (aI hz8 (aI hw8 hz18)) ?_
   refine zd fun Z19 hZ19=>?_
   refine zQ rfl ?_;apply yl;apply hZ11
   refine rgE U [1,19,20,21] fun K J=>?_
   simp only[go_sem,qh,qd,qc,qe,qf,qg,reduceIte,reduceCtorEq,Zp,hz8,hw8,hz18];apply J
   exact⟨_,_,_,qK q8.length,⟨p8++[y8],q8,x6+1,rfl,rfl,rfl,hE'8,hi'8,h⟩,.s⟩
 obtain⟨hz18,hw18,hx18,hE'18,hi'18⟩:=xq hE18 hi18 hb18;simp only[wi.l18] at h;refine rgW [1,5,19,20,21,25,26,27,28] (aI hz8 (aI hw8 (aI hz18 hw18))) ?_
 refine zd fun Z20 hZ20=>?_
 refine zS rfl ?_;apply zm;apply hZ20
 refine zd fun Z21 hZ21=>?_
 apply zq;have f22:=E246.idxS hx18;have f23:=E246.loadS rfl rfl hx18;refine rgW [1,5,7,19,20,21,25,26,27] (aI @yu.eq_1 (aI hz8 (aI hw8 (aI hz18 (aI hw18 (aI f22 f23)))))) ?_
 refine zd fun Z24 hZ24=>?_
 refine rc [1,7,19,20,21,25,26,27,47] fun K J=>?_
 refine rnW 5 (aI hz8 (aI hw8 (aI hz18 hw18))) ?_;refine cut 4 35 39 [1,7,19,20,21,25,26,27] ((decide (y18.fTag≤x14))||(decide (500<y18.fTag))) (aI hz8 (aI hw8 (aI hz18 hw18))) rfl ?_;refine rnW 1 (aI hz8 (aI hw8 (aI hz18 hw18))) ?_;obtain⟨c27,hc27,h⟩:=yq h;refine xi 7 (fun L τ=>L=[(1,.op 0 0 0),(7,.op 1 0 0),(19,.ds true (qb (XW yu) a0.fParts) (qa a0.fParts) false),(20,.int .i64 (qa a0.fParts:Int)),(21,.int .i64 x6),(25,.ds true (qb yu y8) (qa y8) false),(26,.int .i64 (qa y8:Int)),(27,.int .i64 x15),(47,.bool c27)]∧τ=([.cells 0 (zt a0),.cells 0 [.int .i64 y18.fOp,.int .i64 y18.fTag,.int .i64 y18.fSub]]:ze)) ?_ ?_
 · refine wA (b:=((decide (y18.fTag≤x14))||(decide (500<y18.fTag)))) 40 rfl (fun hg40=>?_) (fun hg40=>?_)
   · rw[if_pos hg40] at hc27;refine rnW 7 (aI @yu.eq_1 (aI hz8 (aI hw8 (aI hz18 hw18)))) ?_;subst hc27;refine zz ⟨rfl,_,_,⟨rfl,rfl⟩,.b hg40⟩
   rw[Zc hg40] at hc27;obtain⟨r28,hr28,hc27⟩:=yq hc27;refine rnW 4 (aI @yu.eq_1 (aI hz8 (aI hw8 (aI hz18 hw18)))) ?_;refine clN rfl rfl rfl ((wX.ok hr28).c _) ?_;refine rnW 2 (aI @yu.eq_1 (aI hz8 (aI hw8 (aI hz18 hw18)))) ?_;subst hc27;refine zz ⟨rfl,_,_,⟨rfl,rfl⟩,.b hg40⟩
 rintro _ _ ⟨rfl,rfl⟩;refine nkN J ?_;refine zY (b:=c27) rfl (fun hc29=>?_) (fun hc29=>?_)
 · rw[if_pos hc29] at h;refine rgW [2] (aI hz8 (aI hw8 (aI hz18 hw18))) ?_;cases h;exact rtA
 rw[Zc hc29] at h;apply zm;apply hZ24
 refine rgE U [1,5,19,20,21,25,26,27] fun K J=>?_
 simp only[go_sem,qh,qd,qc,qe,qf,qg,reduceIte,reduceCtorEq,hz8,hw8,hz18,hw18];apply J
 apply hZ21
 refine rgE U [1,5,19,20,21,25,26,27] fun K J=>?_
 simp only[go_sem,qh,qd,qc,qe,qf,qg,reduceIte,reduceCtorEq,Zp,hz8,hw8,hz18,hw18];apply J
 exact⟨_,_,_,qK q18.length,⟨p18++[y18],q18,x15+1,y18.fTag,rfl,rfl,rfl,hE'18,hi'18,h⟩,(.t [0] false)⟩
def zR.j8 (r2:Int)(m1__13:Int)(m1__24:List UInt8)(m1__45:List yC)(l6:List zv):Option zp:=
 some (⟨r2,m1__13,m1__24,l6,m1__45⟩:zp)
def zR.l30 (xe:zo→Option zp)(x13:Int)(l11:List zv)(rec17:Int→List zv→Option zp)(y17:yF):List zo→Int→List zp→Option zp
 |[],x26,l24=>(vaV (qa l11+1) 32).bind fun _u32=>(rec17 (x13+1) (l11++[(⟨y17.ftag,l24⟩:zv)]))
 |y30::q30,x26,l24=>(xe y30).bind fun r39=>(vaV (qa l24+1) 80).bind fun _u40=>((zR.l30 xe x13 l11 rec17 y17 q30) (x26+1) (l24++[r39]))
def zR.l17 (xe:zo→Option zp)(r2:Int)(r10:List yC):List yF→Int→List zv→Option zp
 |[],x13,l11=>(zR.j8 r2 0 [] r10 l11)
 |y17::q17,x13,l11=>(zR.l30 xe x13 l11 (zR.l17 xe r2 r10 q17) y17 y17.fl 0 ([]:List zp))
def zR.body (xe:zo→Option zp)(a0:zo):Option zp:=
 bnd (wQ a0) fun r2=>(match a0 with|.nil=>(zR.j8 r2 0 [] ([]:List yC) ([]:List zv))|.num n9=>(zR.j8 r2 n9 [] ([]:List yC) ([]:List zv))|.str s9=>(zR.j8 r2 0 s9 ([]:List yC) ([]:List zv))|.node e9 r9=>(wt (⟨e9,r9⟩:zZ)).bind fun r10=>(zR.l17 xe r2 r10 e9 0 ([]:List zv)))
theorem zR.step (xe:zo→Option zp)(vbN:∀ (a0:zo) (r:zp),xe a0=some r→ACalls qi 249 [.agg (zi a0)] [] (fun r' _=>r'=.agg (zb r)))(a0:zo)(r:zp)(h:zR.body xe a0=some r):ACalls qi 249 [.agg (zi a0)] [] (fun r' _=>r'=.agg (zb r)):=by
 have ev_value_Value_Tree:=fun a0 r h σ=>(vbN a0 r h).c σ
 refine zx (rs:=[.cell 2 37]) U Tryz.func249 rfl Tryz.ntmps249 rfl Tryz.call249 (by simp) ?_;refine zK [(0,.agg (zi a0))] ⟨rfl,trivial⟩ ?_;unfold zR.body at h;have f1:=Ye a0;unfold AV.one at f1;refine rgW [1,2] (aI @zi.eq_1 f1) ?_
 refine rc [1,2,3] fun K J=>?_
 obtain⟨r2,hr2,h⟩:=yq h;refine rnW 1 @zi.eq_1 ?_;refine clN rfl rfl rfl (wQ.ev a0 r2 hr2 _) ?_;refine rnW 3 (aI @zb.eq_1 (aI @zf @zi.eq_1)) ?_;refine nkN J ?_;refine Zw 2 3 2 rfl (by simp) rfl (L:=[(1,.op 0 0 0),(2,.op 1 0 0),(3,.op 2 0 0)]) (τ:=[.cells 0 [vc3 a0],.cells 0 [.int .i64 0,.int .i64 0,.str [],.ds true [] 0 true,.ds true [] 0 true],.cells 0 [.int .i64 r2,.int .i64 0,.str [],.os true 2 3 0 0 (qa ([]:List zv)) false,.ds true [] 0 true],.cells 0 (qb zD ([]:List zv))]) .s ?_;refine xV (fun L τ=>∃ (m1__13:Int) (m1__24:List UInt8) (m1__45:List yC) (l6:List zv) (v7:Nat),L=[(2,.op 0 0 0),(3,.op 1 0 0)]∧τ=([.cells 0 [.int .i64 0,.int .i64 0,.str [],.ds true (qb zD ([]:List zv)) (qa ([]:List zv)) false,.ds true (qb zy ([]:List yC)) (qa ([]:List yC)) false],.cells 0 [.int .i64 r2,.int .i64 m1__13,.str m1__24,.os true 2 2 v7 0 (qa l6) false,.ds true (qb zy m1__45) (qa m1__45) false],.cells v7 (qb zD l6)]:ze)∧zR.j8 r2 m1__13 m1__24 m1__45 l6=some r) ?_ ?_
 · refine O [2,3,16] ?_;apply zq
   rcases a0 with _|n9|s9|⟨e9,r9⟩
   · dsimp only at h
     try simp only[Xp,XQ,zi]
     refine rg U [2,3,16,18,19] fun K J=>?_
     simp only[go_sem,qh,qd,qc,qe,qf,qg,reduceIte,reduceCtorEq,xA,xC,TypeDesc.isIface];apply J
     refine zQ rfl ?_
     refine rg U [2,3,16,23,24] fun K J=>?_
     simp only[go_sem,qh,qd,qc,qe,qf,qg,reduceIte,reduceCtorEq,xA,xC,TypeDesc.isIface];apply J
     refine zQ rfl ?_
     refine rg U [2,3,28,29] fun K J=>?_
     simp only[go_sem,qh,qd,qc,qe,qf,qg,reduceIte,reduceCtorEq,xA,xC,TypeDesc.isIface];apply J
     refine zQ rfl ?_;apply zm;exact⟨_,_,⟨0,[],([]:List yC),([]:List zv),0,rfl,rfl,h⟩,(.t [1,2,3] true)⟩
   · dsimp only at h
     try simp only[Xo,XP,zi]
     refine rg U [2,3,16,18,19] fun K J=>?_
     simp only[go_sem,qh,qd,qc,qe,qf,qg,reduceIte,reduceCtorEq,xA,xC,TypeDesc.isIface];apply J
     refine zS rfl ?_;refine O [2,3,4] ?_
     refine rgE U [2,3] fun K J=>?_
     simp only[go_sem,qh,qd,qc,qe,qf,qg,reduceIte,reduceCtorEq,zb,zf];apply J
     exact⟨_,_,⟨n9,[],([]:List yC),([]:List zv),0,rfl,rfl,h⟩,(.t [1,2,3] true)⟩
   · dsimp only at h
     try simp only[Xn,XO,zi]
     refine rg U [2,3,16,18,19] fun K J=>?_
     simp only[go_sem,qh,qd,qc,qe,qf,qg,reduceIte,reduceCtorEq,xA,xC,TypeDesc.isIface];apply J
     refine zQ rfl ?_
     refine rg U [2,3,16,23,24] fun K J=>?_
     simp only[go_sem,qh,qd,qc,qe,qf,qg,reduceIte,reduceCtorEq,xA,xC,TypeDesc.isIface];apply J
     refine zS rfl ?_;refine O [2,3,5] ?_
     refine rgE U [2,3] fun K J=>?_
     simp only[go_sem,qh,qd,qc,qe,qf,qg,reduceIte,reduceCtorEq,zb,zf];apply J
     exact⟨_,_,⟨0,s9,([]:List yC),([]:List zv),0,rfl,rfl,h⟩,(.t [1,2,3] true)⟩
   dsimp only at h
   try simp only[Yz,Y8,zi]
   refine rg U [2,3,16,18,19] fun K J=>?_
   simp only[go_sem,qh,qd,qc,qe,qf,qg,reduceIte,reduceCtorEq,xA,xC,TypeDesc.isIface];apply J
   refine zQ rfl ?_
   refine rg U [2,3,16,23,24] fun K J=>?_
   simp only[go_sem,qh,qd,qc,qe,qf,qg,reduceIte,reduceCtorEq,xA,xC,TypeDesc.isIface];apply J
   refine zQ rfl ?_
   refine rg U [2,3,28,29] fun K J=>?_
   simp only[go_sem,qh,qd,qc,qe,qf,qg,reduceIte,reduceCtorEq,xA,xC,TypeDesc.isIface];apply J
   refine zS rfl ?_;refine O [2,3,6] ?_
   refine rc [2,3,6] fun K J=>?_
   obtain⟨r10,hr10,h⟩:=bind_some h;refine rnN 1 ?_;refine clN rfl rfl rfl ((wt.ok hr10).c _) ?_;refine rnW 2 (aI @zb.eq_1 @zf) ?_;refine nkN J ?_
   refine rg U [2,3,36,37,38] fun K J=>?_
   simp only[go_sem,qh,qd,qc,qe,qf,qg,reduceIte,reduceCtorEq,zI,vbg];apply J
   apply zq
   refine xr 36 fun hb17=>?_
   replace hb17:qa e9≤9223372036854775807:=hb17.1;refine yp (fun m L τ=>∃ (p17 q17:List yF) (x13:Int) (l11:List zv) (v12:Nat),m=qa q17∧L=[(2,.op 0 0 0),(3,.op 1 0 0),(36,.ds true (qb yV e9) (qa e9) false),(37,.int .i64 (qa e9:Int)),(38,.int .i64 x13)]∧τ=([.cells 0 [.int .i64 0,.int .i64 0,.str [],.ds true [] 0 true,.ds true [] 0 true],.cells 0 [.int .i64 r2,.int .i64 0,.str [],.os true 2 2 v12 0 (qa l11) false,.ds true (qb zy r10) (qa r10) false],.cells v12 (qb zD l11)]:ze)∧e9=p17++q17∧x13=(qa p17:Int)∧zR.l17 xe r2 r10 q17 x13 l11=some r) _ ⟨[],e9,0,([]:List zv),0,rfl,rfl,rfl,rfl,rfl,h⟩ (.t [1,2,3] false) ?_;rintro m L τ ⟨p17,q17,x13,l11,v12,rfl,rfl,rfl,hE17,hi17,h⟩
   rcases q17 with _|⟨y17,q17⟩
   · have hz17:=xM hE17 hi17;simp only[zR.l17] at h;refine rgW [2,3,36,37,38,39] hz17 ?_
     refine zd fun Z18 hZ18=>?_
     refine zQ rfl ?_;apply yl;exact⟨_,_,⟨0,[],r10,l11,v12,rfl,rfl,h⟩,(.t [0,1,2] true)⟩
   obtain⟨hz17,hw17,hx17,hE'17,hi'17⟩:=xq hE17 hi17 hb17;simp only[zR.l17] at h;refine rgW [2,3,36,37,38,39] (aI hz17 hw17) ?_
   refine zd fun Z19 hZ19=>?_
   refine zS rfl ?_;apply zm;apply hZ19
   refine zd fun Z20 hZ20=>?_
   apply zq;have f21:=E324.idxS hx17;have f22:=E324.loadS rfl rfl hx17;refine rgW [2,3,8,36,37,38] (aI @yJ.eq_1 (aI @yH (aI hz17 (aI hw17 (aI f21 f22))))) ?_;refine rgW [2,3,8,9,36,37,38] (aI @zU.eq_1 (aI @yD (aI hz17 hw17))) ?_;refine Zw 4 1 5 rfl (by simp) rfl (L:=[(2,.op 0 0 0),(3,.op 1 0 0),(8,.op 3 0 0),(9,.op 4 0 0),(36,.ds true (qb yV e9) (qa e9) false),(37,.int .i64 (qa e9:Int)),(38,.int .i64 x13)]) (τ:=[.cells 0 [.int .i64 0,.int .i64 0,.str [],.ds true [] 0 true,.ds true [] 0 true],.cells 0 [.int .i64 r2,.int .i64 0,.str [],.os true 2 2 v12 0 (qa l11) false,.ds true (qb zy r10) (qa r10) false],.cells v12 (qb zD l11),.cells 0 (yJ y17),.cells 0 [.int .i64 y17.ftag,.os true 5 5 0 0 (qa ([]:List zp)) false],.cells 0 (qb yj ([]:List zp))]) .s ?_
   refine zd fun Z23 hZ23=>?_
   refine rgW [2,3,9,36,37,38,46,47,48] (aI hz17 hw17) ?_;apply zq
   refine xr 46 fun hb30=>?_
   replace hb30:qa y17.fl≤9223372036854775807:=hb30.1;refine yp (fun m L τ=>∃ (p30 q30:List zo) (x26:Int) (l24:List zp) (v25:Nat),m=qa q30∧L=[(2,.op 0 0 0),(3,.op 1 0 0),(9,.op 3 0 0),(36,.ds true (qb yV e9) (qa e9) false),(37,.int .i64 (qa e9:Int)),(38,.int .i64 x13),(46,.ds true (qb zi y17.fl) (qa y17.fl) false),(47,.int .i64 (qa y17.fl:Int)),(48,.int .i64 x26)]∧τ=([.cells 0 [.int .i64 0,.int .i64 0,.str [],.ds true [] 0 true,.ds true [] 0 true],.cells 0 [.int .i64 r2,.int .i64 0,.str [],.os true 2 2 v12 0 (qa l11) false,.ds true (qb zy r10) (qa r10) false],.cells v12 (qb zD l11),.cells 0 [.int .i64 y17.ftag,.os true 5 4 v25 0 (qa l24) false],.cells v25 (qb yj l24)]:ze)∧y17.fl=p30++q30∧x26=(qa p30:Int)∧zR.l30 xe x13 l11 (zR.l17 xe r2 r10 q17) y17 q30 x26 l24=some r) _ ⟨[],y17.fl,0,([]:List zp),0,rfl,rfl,rfl,rfl,rfl,h⟩ (.t [0,1,2,4,5] false) ?_;rintro m L τ ⟨p30,q30,x26,l24,v25,rfl,rfl,rfl,hE30,hi30,h⟩
   rcases q30 with _|⟨y30,q30⟩
   · have hz30:=xM hE30 hi30;simp only[zR.l30] at h;refine rgW [2,3,9,36,37,38,46,47,48,49] (aI hz17 (aI hw17 hz30)) ?_
     refine zd fun Z31 hZ31=>?_
     refine zQ rfl ?_;apply yl;apply hZ23;obtain⟨_u32,hu32,h⟩:=bind_some h;have gu32:=xF hu32;have f33:=(yf E34.len l11)
     refine rgE U [2,3,36,37,38] fun K J=>?_
     simp only[go_sem,qh,qd,qc,qe,qf,qg,reduceIte,reduceCtorEq,zV,yI,ug,qW,qU,true_and,uj,xj,yG,xg,zU,zb,yD,zf,hz17,hw17,hz30,gu32,f33,yW,ua,qZ,AV.one,qN,qo,gt_iff_lt,ym,qH,qE,qO,qD,qG,qj,qp,qB,qn,qA,qI];apply J
     apply hZ20
     refine rgE U [2,3,36,37,38] fun K J=>?_
     simp only[go_sem,qh,qd,qc,qe,qf,qg,reduceIte,reduceCtorEq,Zp,hz17,hw17,hz30];apply J
     exact⟨_,_,_,qK q17.length,⟨p17++[y17],q17,x13+1,l11++[(⟨y17.ftag,l24⟩:zv)],v12+1,rfl,rfl,rfl,hE'17,hi'17,h⟩,(.t [0,1,2] false)⟩
   obtain⟨hz30,hw30,hx30,hE'30,hi'30⟩:=xq hE30 hi30 hb30;simp only[zR.l30] at h;refine rgW [2,3,9,36,37,38,46,47,48,49] (aI hz17 (aI hw17 (aI hz30 hw30))) ?_
   refine zd fun Z34 hZ34=>?_
   refine zS rfl ?_;apply zm;apply hZ34
   refine zd fun Z35 hZ35=>?_
   apply zq;have f36:=E282.idxS hx30;have f37:=E282.loadS rfl rfl hx30;have f38:=Ye y30;unfold AV.one at f38;refine rgW [2,3,9,11,36,37,38,46,47,48] (aI @zi.eq_1 (aI hz17 (aI hw17 (aI hz30 (aI hw30 (aI f36 (aI f37 f38))))))) ?_;obtain⟨r39,hr39,h⟩:=bind_some h;obtain⟨_u40,hu40,h⟩:=bind_some h;have gu40:=xF hu40;have f41:=(yf E38.len l24)
   refine rdE [2,3,9,36,37,38,46,47,48] fun K J=>?_
   refine DW.start (T:=tab) [.any,.own 2 [],.at [],.eff,.eff,.eff,.any,.eff] [(2,[])] ?_;refine DW.runN U 3 ?_;simp only[go_sem,qh,qd,qc,qe,qf,qg,reduceIte,reduceCtorEq,zU,zb,yD,zf,zi,hz17,hw17,hz30,hw30,gu40,f41,yW,ua,qZ,AV.one,qN,qo,gt_iff_lt,ym,qH,qE,qO,qD,qG,qj,qp,qB,qn,qA,qI];refine DW.call rfl rfl rfl (ev_value_Value_Tree y30 r39 hr39 _) ?_;refine DW.runN U 4 ?_;simp only[go_sem,qh,qd,qc,qe,qf,qg,reduceIte,reduceCtorEq,zV,yI,ug,qW,qU,true_and,uj,xj,yG,xg,zU,zb,yD,zf,zi,hz17,hw17,hz30,hw30,gu40,f41,yW,ua,qZ,AV.one,qN,qo,gt_iff_lt,ym,qH,qE,qO,qD,qG,qj,qp,qB,qn,qA,qI];refine DW.fin U (by decide +kernel) rfl ?_;simp only[zH,ye,yx,Zn,upd,qc,reduceIte,xh,xO];apply J
   apply hZ35
   refine rgE U [2,3,9,36,37,38,46,47,48] fun K J=>?_
   simp only[go_sem,qh,qd,qc,qe,qf,qg,reduceIte,reduceCtorEq,Zp,hz17,hw17,hz30,hw30];apply J
   exact⟨_,_,_,qK q30.length,⟨p30++[y30],q30,x26+1,l24++[r39],v25+1,rfl,rfl,rfl,hE'30,hi'30,h⟩,(.t [0,1,2,3,4] false)⟩
 rintro _ _ ⟨m1__13,m1__24,m1__45,l6,v7,rfl,rfl,h⟩;unfold zR.j8 at h;refine rgW [2] (aI @zb.eq_1 @zf) ?_;cases h;exact rtA
end
end Go.Proofs.YtaahlckibpiphaaGreatDoor
