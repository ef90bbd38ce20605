/- Parts of the proof, cut down to what it needs. -/
import Derived.Test.YtaahlckibpiphaaGreatDoorQFB
import Derived.KernelRfl
import Derived.Test.YtaahlckibpiphaaGreatDoorQU
import Derived.Test.YtaahlckibpiphaaGreatDoorRows
import Derived.Test.YtaahlckibpiphaaGreatDoorChecked
import Derived.Test.YtaahlckibpiphaaGreatDoorTie
import Derived.ProofKit
import Derived.OpenShut
import Derived.ShutString
import Derived.ChangeOld
import Derived.ChangeSame
import Derived.ChangeVars
import Derived.JoinedOf
import Derived.RowKit
import Derived.LaidLaws
import Derived.LaidHandle
import Derived.Lib.LaidIn
import Derived.Lib.LaidU8T
import Derived.SevenTiedAt
import Derived.Test.YtaahlckibpiphaaGreatDoorQFBa
set_option linter.constructorNameAsVariable false
set_option linter.unusedSimpArgs false
set_option linter.unusedVariables false
namespace Go.Proofs.YtaahlckibpiphaaGreatDoor
open _root_.List renaming length → qa, flatMap → qc, map_nil → qk, map_cons → qn, length_cons → qq, length_nil → qu, drop_zero → qw, getD_eq_getElem?_getD → qy, map_append → qz, length_append → qD, replicate → qF, getElem?_eq_some_iff → qG, range_zero → qJ, nil_append → qK, cons_append → qL, range_succ → qP, flatMap_cons → qR, append_nil → qT, all_nil → qV, all_cons → qX, eq_nil_of_length_eq_zero → qY, take_length → qZ, flatMap_append → ub, mem_cons_of_mem → uc, length_map → uf, flatMap_nil → ug, append_assoc → ui, mem_map → ut, mem_cons → uv, range → uE, mem_cons_self → uJ, getElem?_map → u6
open _root_.Option renaming bind_some → qQ
open _root_.Nat renaming reduceEqDiff → qb, reduceLT → qd, reduceAdd → qe, reduceLeDiff → qf, reduceMul → qi, zero_add → qj, reduceSub → ql, le_refl → qv, lt_succ_self → qx, reduceMod → qW, zero_mul → um, zero_le → uC, le_trans → uF, add_zero → uO
open _root_.Bool renaming or_true → qo, not_false → qp, not_true → qr, and_false → qs, and_true → qC, and_self → qE, or_false → qH, false_eq_true → ue, true_or → uG, false_or → u7
open _root_.Int renaming toNat → qA, fdiv → ur, toNat_natCast → uz
open _root_.BitVec renaming ofInt → qt, toNat → qO
open _root_.Array renaming getD_eq_getD_getElem? → uu
open _root_.UInt8 renaming ofNat → ua


open _root_.Go.Proofs.Tryz renaming prog → qg
section
set_option maxRecDepth 4000
set_option maxHeartbeats 1000000
open AM
def xZ.j5 (a1:zp):Option Bool:=
 some (decide (a1.fKind=1))
def xZ.j18 (a0:Xr)(a1:zp)(x17:Bool):Option Bool:=
 (if x17=true then bnd (if a1.fKind=1 then bnd (ZK a0 a1.fN) fun r21=>r21 else false) fun c21=>some c21 else (if a0.fKind=4 then (if a1.fKind=2 then (ww a1.fS).bind fun r29=>some r29 else some false).bind fun c29=>some c29 else (if a0.fKind=5 then some (decide (a1.fKind=2)) else some (decide (a1.fKind=3)))))
def xZ (a0:Xr)(a1:zp):Option Bool:=
 (if a0.fKind=1 then (xZ.j5 a1) else (if a0.fKind=2 then (xZ.j5 a1) else (if a0.fKind=3 then (xZ.j18 a0 a1 (decide (a0.fKind=3))) else (xZ.j18 a0 a1 (decide (a0.fKind=6))))))
theorem xZ.ok {a0 a1 r}(h:xZ a0 a1=some r):ACalls qg 207 [.agg (wF a0),.agg (zg a1)] [] (fun r' _=>r'=.bool r):=by
 refine zr (rs:=[.tmp 4]) tok Tryz.func207 rfl Tryz.ntmps207 rfl Tryz.call207 (by simp) ?_;refine zA [(0,.agg (wF a0)),(1,.agg (zg a1))] ⟨rfl,rfl,trivial⟩ ?_;unfold xZ at h
 refine rg tok [2,3] fun K hK=>?_
 simp only[go_sem,qd,qb,qe,reduceCtorEq,zg,wF];apply hK
 refine zd fun Z1 hZ1=>?_
 refine rgN [2,3,6] ?_;apply zn
 refine zd fun Z2 hZ2=>?_
 apply zn
 refine zd fun Z3 hZ3=>?_
 apply zn
 refine zd fun Z4 hZ4=>?_
 apply zn;refine xC (fun L τ=>L=[(3,.op 0 0 0)]∧τ=([.cells 0 (zg a1)]:ze)∧xZ.j5 a1=some r) ?_ ?_
 · apply zn;apply zn
   refine zd fun Z7 hZ7=>?_
   refine zd fun Z8 hZ8=>?_
   refine rgN [2,3,6,7] ?_;refine yf rfl (fun hc9=>?_) (fun hc9=>?_)
   · rw[if_pos hc9] at h;have t10:=eq_true hc9;apply yc;exact⟨_,_,⟨rfl,rfl,h⟩,(.t [1] false)⟩
   rw[if_neg hc9] at h;have t11:=eq_false hc9;apply zj;apply hZ8
   refine zd fun Z12 hZ12=>?_
   refine rg tok [2,3,6,9] fun K hK=>?_
   simp only[go_sem,qd,qb,t11];apply hK
   refine yf rfl (fun hc13=>?_) (fun hc13=>?_)
   · rw[if_pos hc13] at h;have t14:=eq_true hc13;apply yc;exact⟨_,_,⟨rfl,rfl,h⟩,(.t [1] false)⟩
   rw[if_neg hc13] at h;have t15:=eq_false hc13;apply zj;apply hZ12
   refine zd fun Z16 hZ16=>?_
   refine xC (fun L τ=>∃ (x17:Bool),L=[(2,.op 0 0 0),(3,.op 1 0 0),(6,.int .i64 a0.fKind),(11,.bool x17)]∧τ=([.cells 0 [.int .i64 a0.fKind,.str a0.fName],.cells 0 (zg a1)]:ze)∧xZ.j18 a0 a1 x17=some r) ?_ ?_
   · refine rg tok [2,3,6,11] fun K hK=>?_
     simp only[go_sem,qd,qb,t15];apply hK
     refine yf rfl (fun hc38=>?_) (fun hc38=>?_)
     · rw[if_pos hc38] at h;have t39:=eq_true hc38;apply zj;exact⟨_,_,⟨decide (a0.fKind=3),rfl,rfl,h⟩,.s⟩
     rw[if_neg hc38] at h;have t40:=eq_false hc38
     refine rgE tok [2,3,6,11] fun K hK=>?_
     simp only[go_sem,qd,qb,t40];apply hK
     exact⟨_,_,⟨decide (a0.fKind=6),rfl,rfl,h⟩,.s⟩
   rintro _ _ ⟨x17,rfl,rfl,h⟩;unfold xZ.j18 at h;refine zT (b:=x17) rfl (fun hc19=>?_) (fun hc19=>?_)
   · rw[if_pos hc19] at h;apply yc;apply hZ4
     refine zd fun Z20 hZ20=>?_
     refine rc [4] fun K hK=>?_
     refine rnN 4 ?_;obtain⟨c21,hc21,h⟩:=yg h;refine zG 5 (fun L τ=>L=[(29,.bool c21)]∧τ=([.cells 0 [.int .i64 a0.fKind,.str a0.fName],.cells 0 (zg a1)]:ze)) ?_ ?_
     · refine xS 24 rfl (fun hg24=>?_) (fun hg24=>?_)
       · have t22:=eq_true hg24;rw[if_pos hg24] at hc21;obtain⟨r23,hr23,hc21⟩:=yg hc21;refine rnN 3 ?_;refine clN rfl rfl rfl ((ZK.ok hr23).c _) ?_;refine rnN 1 ?_;subst hc21;refine zh ⟨rfl,_,_,⟨rfl,rfl⟩,.p t22⟩
       have t24:=eq_false hg24;rw[if_neg hg24] at hc21;refine rnN 5 ?_;subst hc21;refine zh ⟨rfl,_,_,⟨rfl,rfl⟩,.p t24⟩
     rintro _ _ ⟨rfl,rfl⟩;refine rnN 1 ?_;refine nkN hK ?_;cases h;exact rtA
   rw[wO hc19] at h;apply zj;apply hZ16
   refine zd fun Z25 hZ25=>?_
   refine rgN [3,6,14] ?_;refine yf rfl (fun hc26=>?_) (fun hc26=>?_)
   · rw[if_pos hc26] at h;have t27:=eq_true hc26;apply yc;apply hZ3
     refine zd fun Z28 hZ28=>?_
     refine rc [4] fun K hK=>?_
     refine zw tok 4 ?_;simp only[go_sem,qd,qb,qe,t27];obtain⟨c29,hc29,h⟩:=bind_some h;refine zG 4 (fun L τ=>L=[(37,.bool c29)]∧τ=([.cells 0 [.int .i64 a0.fKind,.str a0.fName],.cells 0 (zg a1)]:ze)) ?_ ?_
     · refine xS 33 rfl (fun hg33=>?_) (fun hg33=>?_)
       · have t30:=eq_true hg33;rw[if_pos hg33] at hc29;obtain⟨r31,hr31,hc29⟩:=bind_some hc29;refine rnN 2 ?_;refine clN rfl rfl rfl ((ww.ok hr31).c _) ?_;refine rnN 1 ?_;cases hc29;refine zh ⟨rfl,_,_,⟨rfl,rfl⟩,.p t30⟩
       have t32:=eq_false hg33;rw[if_neg hg33] at hc29;refine rnN 4 ?_;cases hc29;refine zh ⟨rfl,_,_,⟨rfl,rfl⟩,.p t32⟩
     rintro _ _ ⟨rfl,rfl⟩;refine rnN 1 ?_;refine nkN hK ?_;cases h;exact rtA
   rw[if_neg hc26] at h;have t33:=eq_false hc26;apply zj;apply hZ25
   refine rg tok [3,16] fun K hK=>?_
   simp only[go_sem,qd,qb,t33];apply hK
   refine yf rfl (fun hc34=>?_) (fun hc34=>?_)
   · rw[if_pos hc34] at h;have t35:=eq_true hc34;apply yc;apply hZ2
     refine zd fun Z36 hZ36=>?_
     refine rg tok [4] fun K hK=>?_
     simp only[go_sem,qd,qb,qe,t35];apply hK
     cases h;exact rtA
   rw[if_neg hc34] at h;have t37:=eq_false hc34;apply zj;apply hZ7;apply yc;apply hZ1
   refine rg tok [4] fun K hK=>?_
   simp only[go_sem,qd,qb,qe,t37];apply hK
   cases h;exact rtA
 rintro _ _ ⟨rfl,rfl,h⟩;unfold xZ.j5 at h
 refine zd fun Z6 hZ6=>?_
 refine rgN [4] ?_;cases h;exact rtA
def z1.j29 (x11:Int)(l9:List zp)(rec15:Int→List zp→Option (List zp×Bool))(m3_28:zp):Option (List zp×Bool):=
 (vac (qa l9+1) 80).bind fun _u30=>(rec15 (x11+1) (l9++[m3_28]))
def z1.l15 (zX:zD→yp→zp→Option zp)(a0:zD)(a1:Zj):List zp→Int→List zp→Option (List zp×Bool)
 |[],x11,l9=>(if a1.fLabel=1 then (Xe l9 0).bind fun y17=>bnd (Yx y17) fun r20=>some (!r20) else some true).bind fun c17=>some (l9,c17)
 |y15::q15,x11,l9=>(if a1.fType.fKind=1 then bnd (Zv y15.fN) fun r34=>(z1.j29 x11 l9 (z1.l15 zX a0 a1 q15) (⟨y15.fKind,r34,y15.fS,y15.fEntries,y15.fRest⟩:zp)) else (if a1.fType.fKind=7 then bnd (yn a0 a1.fType.fName) fun r38=>(zX a0 r38.1 y15).bind fun r39=>(z1.j29 x11 l9 (z1.l15 zX a0 a1 q15) r39) else (z1.j29 x11 l9 (z1.l15 zX a0 a1 q15) y15)))
def z1.j7 (zX:zD→yp→zp→Option zp)(a0:zD)(a1:Zj)(x6:List zp):Option (List zp×Bool):=
 (z1.l15 zX a0 a1 x6 0 ([]:List zp))
def z1.l4 (zX:zD→yp→zp→Option zp)(a0:zD)(a1:Zj)(a2:List zp):List zp→Int→Option (List zp×Bool)
 |[],x2=>(if a1.fLabel=3 then (z1.j7 zX a0 a1 a2) else (grd ((0:Int)≤IntKind.i64.wrap ((qa a2:Int)-1)∧IntKind.i64.wrap ((qa a2:Int)-1)≤(qa a2:Int)∧(qa a2:Int)≤(qa a2:Int))).bind fun _u43=>(z1.j7 zX a0 a1 (vbC a2 (IntKind.i64.wrap ((qa a2:Int)-1)) (qa a2:Int))))
 |y4::q4,x2=>(xZ a1.fType y4).bind fun r50=>(if (!r50)=true then some (([]:List zp),false) else ((z1.l4 zX a0 a1 a2 q4) (x2+1)))
def z1.body (yR:zD→Zj→(List zp)→Option (List zp×Bool))(zX:zD→yp→zp→Option zp)(a0:zD)(a1:Zj)(a2:List zp):Option (List zp×Bool):=
 (z1.l4 zX a0 a1 a2 a2 0)
theorem z1.step (yR:zD→Zj→(List zp)→Option (List zp×Bool))(zX:zD→yp→zp→Option zp)(YZ:∀ (a0:zD) (a1:Zj) (a2:List zp) (r:List zp×Bool),yR a0 a1 a2=some r→ACalls qg 164 [.agg (za a0),.agg (z8 a1),.ds true (qc z2 a2) (qa a2) false] [] (fun r' _=>r'=.tup [.ds true (qc z2 r.1) (qa r.1) false,.bool r.2]))(Yn:∀ (a0:zD) (a1:yp) (a2:zp) (r:zp),zX a0 a1 a2=some r→ACalls qg 119 [.agg (za a0),.agg (zb a1),.agg (zg a2)] [] (fun r' _=>r'=.agg (zg r)))(a0:zD)(a1:Zj)(a2:List zp)(r:List zp×Bool)(h:z1.body yR zX a0 a1 a2=some r):ACalls qg 164 [.agg (za a0),.agg (z8 a1),.ds true (qc z2 a2) (qa a2) false] [] (fun r' _=>r'=.tup [.ds true (qc z2 r.1) (qa r.1) false,.bool r.2]):=by
 have ev_project_field:=fun a0 a1 a2 r h σ=>(YZ a0 a1 a2 r h).c σ
 have ev_project_message:=fun a0 a1 a2 r h σ=>(Yn a0 a1 a2 r h).c σ
 refine zr (rs:=[.tmp 6,.tmp 7]) tok Tryz.func164 rfl Tryz.ntmps164 rfl Tryz.call164 (by simp) ?_;refine zA [(0,.agg (za a0)),(1,.agg (z8 a1)),(2,.ds true (qc z2 a2) (qa a2) false)] ⟨rfl,rfl,rfl,trivial⟩ ?_;unfold z1.body at h
 refine rg tok [2,3,4] fun K hK=>?_
 simp only[go_sem,qd,qb,qe,reduceCtorEq,z8,za];apply hK
 refine zd fun Z1 hZ1=>?_
 refine rgN [2,3,4,15,16,17] ?_;apply zn
 refine y5 2 fun hb4=>?_
 replace hb4:qa a2≤9223372036854775807:=hb4.1;refine yh (fun m L τ=>∃ (p4 q4:List zp) (x2:Int),m=qa q4∧L=[(2,.ds true (qc z2 a2) (qa a2) false),(3,.op 0 0 0),(4,.op 1 0 0),(15,.ds true (qc z2 a2) (qa a2) false),(16,.int .i64 (qa a2:Int)),(17,.int .i64 x2)]∧τ=([.cells 0 (za a0),.cells 0 (z8 a1)]:ze)∧a2=p4++q4∧x2=(qa p4:Int)∧z1.l4 zX a0 a1 a2 q4 x2=some r) _ ⟨[],a2,0,rfl,rfl,rfl,rfl,rfl,h⟩ .s ?_;rintro m L τ ⟨p4,q4,x2,rfl,rfl,rfl,hE4,hi4,h⟩
 rcases q4 with _|⟨y4,q4⟩
 · have hz4:=xw hE4 hi4;simp only[z1.l4] at h
   refine rg tok [2,3,4,15,16,17,18] fun K hK=>?_
   simp only[go_sem,qd,qb,hz4];apply hK
   refine zd fun Z5 hZ5=>?_
   refine zF rfl ?_;apply yc;apply hZ1;refine xC (fun L τ=>∃ (x6:List zp),L=[(2,.ds true (qc z2 x6) (qa x6) false),(3,.op 0 0 0),(4,.op 1 0 0)]∧τ=([.cells 0 (za a0),.cells 0 (z8 a1)]:ze)∧z1.j7 zX a0 a1 x6=some r) ?_ ?_
   · refine rgN [2,3,4,29] ?_;refine yf rfl (fun hc41=>?_) (fun hc41=>?_)
     · rw[if_neg hc41] at h;have t42:=eq_false hc41;obtain⟨_u43,hu43,h⟩:=bind_some h;have gu43:=wA hu43;have f44:=E38.sl_lo gu43
       refine rgE tok [2,3,4] fun K hK=>?_
       simp only[go_sem,qd,qb,t42,f44];apply hK
       exact⟨_,_,⟨vbC a2 (IntKind.i64.wrap ((qa a2:Int)-1)) (qa a2:Int),rfl,rfl,h⟩,.s⟩
     rw[if_pos hc41] at h;have t45:=eq_true hc41;apply zj;exact⟨_,_,⟨a2,rfl,rfl,h⟩,.s⟩
   rintro _ _ ⟨x6,rfl,rfl,h⟩;unfold z1.j7 at h;refine rgN [2,3,4,10] ?_;refine YW 10 5 rfl ?_;refine y0 (L:=[(2,.ds true (qc z2 x6) (qa x6) false),(3,.op 0 0 0),(4,.op 1 0 0),(10,.os true 5 2 0 0 (qa ([]:List zp)) false)]) (τ:=[.cells 0 (za a0),.cells 0 (z8 a1),.cells 0 (qc z2 ([]:List zp))]) .s ?_
   refine zd fun Z8 hZ8=>?_
   refine rgN [3,4,10,35,36,37] ?_;apply zn
   refine y5 35 fun hb15=>?_
   replace hb15:qa x6≤9223372036854775807:=hb15.1;refine yh (fun m L τ=>∃ (p15 q15:List zp) (x11:Int) (l9:List zp) (v10:Nat),m=qa q15∧L=[(3,.op 0 0 0),(4,.op 1 0 0),(10,.os true 5 2 v10 0 (qa l9) false),(35,.ds true (qc z2 x6) (qa x6) false),(36,.int .i64 (qa x6:Int)),(37,.int .i64 x11)]∧τ=([.cells 0 (za a0),.cells 0 (z8 a1),.cells v10 (qc z2 l9)]:ze)∧x6=p15++q15∧x11=(qa p15:Int)∧z1.l15 zX a0 a1 q15 x11 l9=some r) _ ⟨[],x6,0,([]:List zp),0,rfl,rfl,rfl,rfl,rfl,h⟩ .s ?_;rintro m L τ ⟨p15,q15,x11,l9,v10,rfl,rfl,rfl,hE15,hi15,h⟩
   rcases q15 with _|⟨y15,q15⟩
   · have hz15:=xw hE15 hi15;simp only[z1.l15] at h
     refine rg tok [3,4,10,35,36,37,38] fun K hK=>?_
     simp only[go_sem,qd,qb,hz15];apply hK
     refine zd fun Z16 hZ16=>?_
     refine zF rfl ?_;apply yc;apply hZ8
     refine rc [6,7] fun K hK=>?_
     refine rnN 5 ?_;obtain⟨c17,hc17,h⟩:=bind_some h;refine zG 6 (fun L τ=>L=[(69,.os true 5 2 v10 0 (qa l9) false),(79,.bool c17)]∧τ=([.cells 0 (za a0),.cells 0 (z8 a1),.cells v10 (qc z2 l9)]:ze)) ?_ ?_
     · refine xS 73 rfl (fun hg73=>?_) (fun hg73=>?_)
       · have t18:=eq_false hg73;rw[if_neg hg73] at hc17;refine rnN 6 ?_;cases hc17;refine zh ⟨rfl,_,_,⟨rfl,rfl⟩,.p t18⟩
       have t19:=eq_true hg73;rw[if_pos hg73] at hc17;obtain⟨y20,hy20,hc17⟩:=bind_some hc17;have f21:=E38.idxO hy20;have f22:=E38.rdO hy20;obtain⟨r23,hr23,hc17⟩:=yg hc17;refine zw tok 3 ?_;simp only[go_sem,qd,qb,zg,yi,f21,f22];refine clN rfl rfl rfl ((Yx.ok hr23).c _) ?_;refine rnN 2 ?_;cases hc17;refine zh ⟨rfl,_,_,⟨rfl,rfl⟩,.p t19⟩
     rintro _ _ ⟨rfl,rfl⟩;refine rnN 2 ?_;refine nkN hK ?_;cases h;exact rtA
   obtain⟨hz15,hw15,hx15,hE'15,hi'15⟩:=y3 hE15 hi15 hb15;simp only[z1.l15] at h
   refine rg tok [3,4,10,35,36,37,38] fun K hK=>?_
   simp only[go_sem,qd,qb,hz15];apply hK
   refine zd fun Z24 hZ24=>?_
   refine zJ rfl ?_;apply zj;apply hZ24
   refine zd fun Z25 hZ25=>?_
   apply zn;have f26:=E38.idxS hx15;have f27:=E38.loadS rfl rfl hx15
   refine rg tok [3,4,10,12,35,36,37] fun K hK=>?_
   simp only[go_sem,qd,qf,qb,qe,zg,yi,f26,f27];apply hK
   refine xC (fun L τ=>∃ (m3_28:zp),L=[(3,.op 0 0 0),(4,.op 1 0 0),(10,.os true 5 2 v10 0 (qa l9) false),(12,.op 3 0 0),(35,.ds true (qc z2 x6) (qa x6) false),(36,.int .i64 (qa x6:Int)),(37,.int .i64 x11)]∧τ=([.cells 0 (za a0),.cells 0 (z8 a1),.cells v10 (qc z2 l9),.cells 0 (zg m3_28)]:ze)∧z1.j29 x11 l9 (z1.l15 zX a0 a1 q15) m3_28=some r) ?_ ?_
   · refine rgN [3,4,10,12,35,36,37,43] ?_;apply zn;refine rgN [3,4,10,12,35,36,37,43,44] ?_;refine yf rfl (fun hc32=>?_) (fun hc32=>?_)
     · rw[if_pos hc32] at h;have t33:=eq_true hc32
       refine rcE [3,4,10,12,35,36,37] fun K hK=>?_
       obtain⟨r34,hr34,h⟩:=yg h;refine zw tok 2 ?_;simp only[go_sem,qd,qb,qe,t33];refine clN rfl rfl rfl ((Zv.ok hr34).c _) ?_;refine rnN 2 ?_;refine nkN hK ?_;exact⟨_,_,⟨(⟨y15.fKind,r34,y15.fS,y15.fEntries,y15.fRest⟩:zp),rfl,rfl,h⟩,.s⟩
     rw[if_neg hc32] at h;have t35:=eq_false hc32
     refine rg tok [3,4,10,12,35,36,37,50] fun K hK=>?_
     simp only[go_sem,qd,qb,t35];apply hK
     refine yf rfl (fun hc36=>?_) (fun hc36=>?_)
     · rw[if_pos hc36] at h;have t37:=eq_true hc36
       refine rc [3,4,10,12,13,35,36,37] fun K hK=>?_
       obtain⟨r38,hr38,h⟩:=yg h;refine zw tok 4 ?_;simp only[go_sem,qd,qf,qb,qe,t37];refine clN rfl rfl rfl ((yn.ok hr38).c _) ?_;refine zw tok 6 ?_;simp only[go_sem,qd,qf,qb,qe,zb];refine nkN hK ?_
       refine rcE [3,4,10,12,35,36,37] fun K hK=>?_
       obtain⟨r39,hr39,h⟩:=bind_some h;refine rnN 3 ?_;refine clN rfl rfl rfl (ev_project_message a0 r38.1 y15 r39 hr39 _) ?_;refine zw tok 1 ?_;simp only[go_sem,qf,qb,qe,zg];refine nkN hK ?_;exact⟨_,_,⟨r39,rfl,rfl,h⟩,(.t [0,1,2,3] false)⟩
     rw[if_neg hc36] at h;have t40:=eq_false hc36;apply zj;exact⟨_,_,⟨y15,rfl,rfl,h⟩,.s⟩
   rintro _ _ ⟨m3_28,rfl,rfl,h⟩;unfold z1.j29 at h;obtain⟨_u30,hu30,h⟩:=bind_some h;have gu30:=xb hu30;have f31:=(zU E38.len l9)
   refine rgE tok [3,4,10,35,36,37] fun K hK=>?_
   simp only[go_sem,qd,qf,qb,qe,qi,zL,ym,qP,qJ,true_and,qW,yM,yl,yL,gu30,f31,xa,qV,qX,AV.one,qE,qK,qq,qu,qj,qL];apply hK
   apply hZ25
   refine rgE tok [3,4,10,35,36,37] fun K hK=>?_
   simp only[go_sem,qd,qb,hw15];apply hK
   exact⟨_,_,_,qx q15.length,⟨p15++[y15],q15,x11+1,l9++[m3_28],v10+1,rfl,rfl,rfl,hE'15,hi'15,h⟩,(.t [0,1,2] false)⟩
 obtain⟨hz4,hw4,hx4,hE'4,hi'4⟩:=y3 hE4 hi4 hb4;simp only[z1.l4] at h
 refine rg tok [2,3,4,15,16,17,18] fun K hK=>?_
 simp only[go_sem,qd,qb,hz4];apply hK
 refine zd fun Z46 hZ46=>?_
 refine zJ rfl ?_;apply zj;apply hZ46
 refine zd fun Z47 hZ47=>?_
 apply zn;have f48:=E38.idxS hx4;have f49:=E38.loadS rfl rfl hx4
 refine rg tok [2,3,4,9,15,16,17] fun K hK=>?_
 simp only[go_sem,qd,qf,qb,qe,zg,yi,f48,f49];apply hK
 refine rc [2,3,4,15,16,17,25] fun K hK=>?_
 obtain⟨r50,hr50,h⟩:=bind_some h;refine rnN 3 ?_;refine clN rfl rfl rfl ((xZ.ok hr50).c _) ?_;refine rnN 1 ?_;refine nkN hK ?_;refine zT (b:=(!r50)) rfl (fun hc51=>?_) (fun hc51=>?_)
 · rw[if_pos hc51] at h;refine rgN [6,7] ?_;cases h;exact rtA
 rw[wO hc51] at h;apply zj;apply hZ47
 refine rgE tok [2,3,4,15,16,17] fun K hK=>?_
 simp only[go_sem,qd,qb,hw4];apply hK
 exact⟨_,_,_,qx q4.length,⟨p4++[y4],q4,x2+1,rfl,rfl,rfl,hE'4,hi'4,h⟩,(.t [0,1] false)⟩
def ye.j13 (x4:Int)(rec8:Int→List zE→Option zp)(l11:List zE):Option zp:=
 (rec8 (x4+1) l11)
def ye.l8 (yR:zD→Zj→(List zp)→Option (List zp×Bool))(a0:zD)(a1:yp):List zE→Int→List zE→Option zp
 |[],x4,l2=>some (⟨3,0,[],l2,([]:List xh)⟩:zp)
 |y8::q8,x4,l2=>bnd (xO a1 y8.fTag) fun r16=>(if (!r16.2)=true then (ye.j13 x4 (ye.l8 yR a0 a1 q8) l2) else (yR a0 r16.1 y8.fTrees).bind fun r19=>(if r19.2=true then (vac (qa l2+1) 32).bind fun _u21=>(ye.j13 x4 (ye.l8 yR a0 a1 q8) (l2++[(⟨y8.fTag,r19.1⟩:zE)])) else (ye.j13 x4 (ye.l8 yR a0 a1 q8) l2)))
def ye.body (yR:zD→Zj→(List zp)→Option (List zp×Bool))(zX:zD→yp→zp→Option zp)(a0:zD)(a1:yp)(a2:zp):Option zp:=
 (ye.l8 yR a0 a1 a2.fEntries 0 ([]:List zE))
theorem ye.step (yR:zD→Zj→(List zp)→Option (List zp×Bool))(zX:zD→yp→zp→Option zp)(YZ:∀ (a0:zD) (a1:Zj) (a2:List zp) (r:List zp×Bool),yR a0 a1 a2=some r→ACalls qg 164 [.agg (za a0),.agg (z8 a1),.ds true (qc z2 a2) (qa a2) false] [] (fun r' _=>r'=.tup [.ds true (qc z2 r.1) (qa r.1) false,.bool r.2]))(Yn:∀ (a0:zD) (a1:yp) (a2:zp) (r:zp),zX a0 a1 a2=some r→ACalls qg 119 [.agg (za a0),.agg (zb a1),.agg (zg a2)] [] (fun r' _=>r'=.agg (zg r)))(a0:zD)(a1:yp)(a2:zp)(r:zp)(h:ye.body yR zX a0 a1 a2=some r):ACalls qg 119 [.agg (za a0),.agg (zb a1),.agg (zg a2)] [] (fun r' _=>r'=.agg (zg r)):=by
 have ev_project_field:=fun a0 a1 a2 r h σ=>(YZ a0 a1 a2 r h).c σ
 have ev_project_message:=fun a0 a1 a2 r h σ=>(Yn a0 a1 a2 r h).c σ
 refine zr (rs:=[.cell 6 37]) tok Tryz.func119 rfl Tryz.ntmps119 rfl Tryz.call119 (by simp) ?_;refine zA [(0,.agg (za a0)),(1,.agg (zb a1)),(2,.agg (zg a2))] ⟨rfl,rfl,rfl,trivial⟩ ?_;unfold ye.body at h
 refine rg tok [3,4,5,6] fun K hK=>?_
 simp only[go_sem,qd,qb,qe,reduceCtorEq,zg,zb,za];apply hK
 refine rgN [3,4,5,6,7] ?_;refine w4 4 3 2 rfl (by simp) rfl (L:=[(3,.op 0 0 0),(4,.op 1 0 0),(5,.op 2 0 0),(6,.op 3 0 0),(7,.op 4 0 0)]) (τ:=[.cells 0 (za a0),.cells 0 (zb a1),.cells 0 (zg a2),.cells 0 [.int .i64 0,.int .i64 0,.str [],.ds true [] 0 true,.ds true [] 0 true],.cells 0 [.int .i64 3,.int .i64 0,.str [],.os true 2 5 0 0 (qa ([]:List zE)) false,.ds true [] 0 true],.cells 0 (qc zu ([]:List zE))]) .s ?_
 refine zd fun Z1 hZ1=>?_
 refine rgN [3,4,6,7,16,17,18] ?_;apply zn
 refine y5 16 fun hb8=>?_
 replace hb8:qa a2.fEntries≤9223372036854775807:=hb8.1;refine yh (fun m L τ=>∃ (p8 q8:List zE) (x4:Int) (l2:List zE) (v3:Nat),m=qa q8∧L=[(3,.op 0 0 0),(4,.op 1 0 0),(6,.op 2 0 0),(7,.op 3 0 0),(16,.ds true (qc zu a2.fEntries) (qa a2.fEntries) false),(17,.int .i64 (qa a2.fEntries:Int)),(18,.int .i64 x4)]∧τ=([.cells 0 (za a0),.cells 0 (zb a1),.cells 0 [.int .i64 0,.int .i64 0,.str [],.ds true [] 0 true,.ds true [] 0 true],.cells 0 [.int .i64 3,.int .i64 0,.str [],.os true 2 4 v3 0 (qa l2) false,.ds true [] 0 true],.cells v3 (qc zu l2)]:ze)∧a2.fEntries=p8++q8∧x4=(qa p8:Int)∧ye.l8 yR a0 a1 q8 x4 l2=some r) _ ⟨[],a2.fEntries,0,([]:List zE),0,rfl,rfl,rfl,rfl,rfl,h⟩ (.t [0,1,3,4,5] false) ?_;rintro m L τ ⟨p8,q8,x4,l2,v3,rfl,rfl,rfl,hE8,hi8,h⟩
 rcases q8 with _|⟨y8,q8⟩
 · have hz8:=xw hE8 hi8;simp only[ye.l8] at h
   refine rg tok [3,4,6,7,16,17,18,19] fun K hK=>?_
   simp only[go_sem,qd,qb,hz8];apply hK
   refine zd fun Z9 hZ9=>?_
   refine zF rfl ?_;apply yc;apply hZ1;refine rgN [6] ?_;cases h;exact rtA
 obtain⟨hz8,hw8,hx8,hE'8,hi'8⟩:=y3 hE8 hi8 hb8;simp only[ye.l8] at h
 refine rg tok [3,4,6,7,16,17,18,19] fun K hK=>?_
 simp only[go_sem,qd,qb,hz8];apply hK
 refine zd fun Z10 hZ10=>?_
 refine zJ rfl ?_;apply zj;apply hZ10;refine xC (fun L τ=>∃ (l11:List zE) (v12:Nat),L=[(3,.op 0 0 0),(4,.op 1 0 0),(6,.op 2 0 0),(7,.op 3 0 0),(16,.ds true (qc zu a2.fEntries) (qa a2.fEntries) false),(17,.int .i64 (qa a2.fEntries:Int)),(18,.int .i64 x4)]∧τ=([.cells 0 (za a0),.cells 0 (zb a1),.cells 0 [.int .i64 0,.int .i64 0,.str [],.ds true [] 0 true,.ds true [] 0 true],.cells 0 [.int .i64 3,.int .i64 0,.str [],.os true 2 4 v12 0 (qa l11) false,.ds true [] 0 true],.cells v12 (qc zu l11)]:ze)∧ye.j13 x4 (ye.l8 yR a0 a1 q8) l11=some r) ?_ ?_
 · apply zn;have f14:=E34.idxS hx8;have f15:=E34.loadS rfl rfl hx8
   refine rg tok [3,4,6,7,9,16,17,18] fun K hK=>?_
   simp only[go_sem,qd,qf,qb,qe,zW,xd,f14,f15];apply hK
   refine rc [3,4,6,7,9,10,11,16,17,18] fun K hK=>?_
   obtain⟨r16,hr16,h⟩:=yg h;refine rnN 3 ?_;refine clN rfl rfl rfl ((xO.ok hr16).c _) ?_;refine zw tok 6 ?_;simp only[go_sem,qd,qf,qb,qe,z8];refine nkN hK ?_
   refine zd fun Z17 hZ17=>?_
   refine rgN [3,4,6,7,9,10,16,17,18,30] ?_;refine zT (b:=(!r16.2)) rfl (fun hc18=>?_) (fun hc18=>?_)
   · rw[if_pos hc18] at h;apply yc;exact⟨_,_,⟨l2,v3,rfl,rfl,h⟩,(.t [0,1,2,3,4] false)⟩
   rw[wO hc18] at h;apply zj;apply hZ17
   refine rc [3,4,6,7,9,12,13,16,17,18] fun K hK=>?_
   obtain⟨r19,hr19,h⟩:=bind_some h;refine rnN 4 ?_;refine clN rfl rfl rfl (ev_project_field a0 r16.1 y8.fTrees r19 hr19 _) ?_;refine rnN 5 ?_;refine nkN hK ?_;refine rgN [3,4,6,7,9,12,16,17,18,39] ?_;refine zT (b:=r19.2) rfl (fun hc20=>?_) (fun hc20=>?_)
   · rw[if_pos hc20] at h;obtain⟨_u21,hu21,h⟩:=bind_some h;have gu21:=xb hu21;have f22:=(zU E34.len l2)
     refine rgE tok [3,4,6,7,16,17,18] fun K hK=>?_
     simp only[go_sem,qd,qf,qb,qe,qi,zL,ym,qP,qJ,true_and,qW,yM,yl,yL,gu21,f22,xa,qV,qX,AV.one,qE,qK,qq,qu,qj,qL];apply hK
     exact⟨_,_,⟨l2++[(⟨y8.fTag,r19.1⟩:zE)],v3+1,rfl,rfl,h⟩,(.t [0,1,2,3,4] false)⟩
   rw[wO hc20] at h;apply zj;exact⟨_,_,⟨l2,v3,rfl,rfl,h⟩,(.t [0,1,2,3,4] false)⟩
 rintro _ _ ⟨l11,v12,rfl,rfl,h⟩;unfold ye.j13 at h
 refine rgE tok [3,4,6,7,16,17,18] fun K hK=>?_
 simp only[go_sem,qd,qb,hw8];apply hK
 exact⟨_,_,_,qx q8.length,⟨p8++[y8],q8,x4+1,l11,v12,rfl,rfl,rfl,hE'8,hi'8,h⟩,.s⟩
mutual
def z1 : Nat→zD→Zj→(List zp)→Option (List zp×Bool)
 |0,_,_,_=>none
 |k+1,a0,a1,a2=>z1.body (z1 k) (ye k) a0 a1 a2
def ye : Nat→zD→yp→zp→Option zp
 |0,_,_,_=>none
 |k+1,a0,a1,a2=>ye.body (z1 k) (ye k) a0 a1 a2
end
theorem z1.all (k:Nat):(∀ (a0:zD) (a1:Zj) (a2:List zp) (r:List zp×Bool),z1 k a0 a1 a2=some r→ACalls qg 164 [.agg (za a0),.agg (z8 a1),.ds true (qc z2 a2) (qa a2) false] [] (fun r' _=>r'=.tup [.ds true (qc z2 r.1) (qa r.1) false,.bool r.2]))∧(∀ (a0:zD) (a1:yp) (a2:zp) (r:zp),ye k a0 a1 a2=some r→ACalls qg 119 [.agg (za a0),.agg (zb a1),.agg (zg a2)] [] (fun r' _=>r'=.agg (zg r))):=by
 induction k with
 |zero=>exact⟨(fun a0 a1 a2 r h=>by simp only[z1] at h; cases h),(fun a0 a1 a2 r h=>by simp only[ye] at h; cases h)⟩
 |succ k ih=>exact⟨(fun a0 a1 a2 r h=>z1.step _ _ ih.1 ih.2 a0 a1 a2 r (by simpa only [z1] using h)),(fun a0 a1 a2 r h=>ye.step _ _ ih.1 ih.2 a0 a1 a2 r (by simpa only [ye] using h))⟩
theorem ye.ev (k:Nat)(a0:zD)(a1:yp)(a2:zp)(r:zp)(h:ye k a0 a1 a2=some r)(σ:ze):ACalls qg 119 [.agg (za a0),.agg (zb a1),.agg (zg a2)] σ (fun r' σ'=>r'=.agg (zg r)∧σ'=σ):=
 ((z1.all k).2 a0 a1 a2 r h).c σ
def wW (a0:zD)(a1:List UInt8)(a2:zp):Option (zp×Bool):=
 bnd (yn a0 a1) fun r1=>(if (!r1.2)=true then some true else (yB a0).bind fun r3=>some (!(decide (r3=0)))).bind fun c3=>(if (c3||(!(decide (a2.fKind=3))))=true then some true else (Yb a2).bind fun r5=>some (!r5)).bind fun c5=>(if c5=true then some ((⟨0,0,[],([]:List zE),([]:List xh)⟩:zp),false) else (ye xK a0 r1.1 a2).bind fun r8=>some (r8,true))
theorem wW.ok {a0 a1 a2 r}(h:wW a0 a1 a2=some r):ACalls qg 79 [.agg (za a0),.str a1,.agg (zg a2)] [] (fun r' _=>r'=.tup [.agg (zg r.1),.bool r.2]):=by
 refine zr (rs:=[.cell 6 37,.tmp 7]) tok Tryz.func79 rfl Tryz.ntmps79 rfl Tryz.call79 (by simp) ?_;refine zA [(0,.agg (za a0)),(1,.str a1),(2,.agg (zg a2))] ⟨rfl,rfl,rfl,trivial⟩ ?_;unfold wW at h
 refine rg tok [1,3,5,6] fun K hK=>?_
 simp only[go_sem,qd,qb,qe,reduceCtorEq,zg,za];apply hK
 refine rc [3,5,6,8,9] fun K hK=>?_
 obtain⟨r1,hr1,h⟩:=yg h;refine rnN 2 ?_;refine clN rfl rfl rfl ((yn.ok hr1).c _) ?_;refine zw tok 6 ?_;simp only[go_sem,qd,qf,qb,qe,zb];refine nkN hK ?_
 refine zd fun Z2 hZ2=>?_
 refine rc [3,5,6,8,32] fun K hK=>?_
 refine rnN 3 ?_;obtain⟨c3,hc3,h⟩:=bind_some h;refine zG 4 (fun L τ=>L=[(3,.op 0 0 0),(5,.op 1 0 0),(6,.op 2 0 0),(8,.op 3 0 0),(22,.bool c3)]∧τ=([.cells 0 (za a0),.cells 0 (zg a2),.cells 0 [.int .i64 0,.int .i64 0,.str [],.ds true [] 0 true,.ds true [] 0 true],.cells 0 (zb r1.1)]:ze)) ?_ ?_
 · refine yv (b:=(!r1.2)) 18 rfl (fun hg18=>?_) (fun hg18=>?_)
   · rw[if_pos hg18] at hc3;refine rnN 4 ?_;cases hc3;refine zh ⟨rfl,_,_,⟨rfl,rfl⟩,.b hg18⟩
   rw[wO hg18] at hc3;obtain⟨r4,hr4,hc3⟩:=bind_some hc3;refine rnN 1 ?_;refine clN rfl rfl rfl ((yB.ok hr4).c _) ?_;refine rnN 2 ?_;cases hc3;refine zh ⟨rfl,_,_,⟨rfl,rfl⟩,.b hg18⟩
 rintro _ _ ⟨rfl,rfl⟩;refine rnN 1 ?_;refine zG 4 (fun L τ=>L=[(3,.op 0 0 0),(5,.op 1 0 0),(6,.op 2 0 0),(8,.op 3 0 0),(27,.bool (c3||(!(decide (a2.fKind=3)))))]∧τ=([.cells 0 (za a0),.cells 0 (zg a2),.cells 0 [.int .i64 0,.int .i64 0,.str [],.ds true [] 0 true,.ds true [] 0 true],.cells 0 (zb r1.1)]:ze)) ?_ ?_
 · refine yv (b:=c3) 23 rfl (fun hg23=>?_) (fun hg23=>?_)
   · refine rnN 4 ?_;refine zh ⟨rfl,_,_,⟨rfl,rfl⟩,.b hg23⟩
   refine rnN 4 ?_;refine zh ⟨rfl,_,_,⟨rfl,rfl⟩,.b hg23⟩
 rintro _ _ ⟨rfl,rfl⟩;refine rnN 1 ?_;obtain⟨c5,hc5,h⟩:=bind_some h;refine zG 4 (fun L τ=>L=[(3,.op 0 0 0),(5,.op 1 0 0),(6,.op 2 0 0),(8,.op 3 0 0),(32,.bool c5)]∧τ=([.cells 0 (za a0),.cells 0 (zg a2),.cells 0 [.int .i64 0,.int .i64 0,.str [],.ds true [] 0 true,.ds true [] 0 true],.cells 0 (zb r1.1)]:ze)) ?_ ?_
 · refine yv (b:=(c3||(!(decide (a2.fKind=3))))) 28 rfl (fun hg28=>?_) (fun hg28=>?_)
   · rw[if_pos hg28] at hc5;refine rnN 4 ?_;cases hc5;refine zh ⟨rfl,_,_,⟨rfl,rfl⟩,.b hg28⟩
   rw[wO hg28] at hc5;obtain⟨r6,hr6,hc5⟩:=bind_some hc5;refine rnN 1 ?_;refine clN rfl rfl rfl ((Yb.ok hr6).c _) ?_;refine rnN 2 ?_;cases hc5;refine zh ⟨rfl,_,_,⟨rfl,rfl⟩,.b hg28⟩
 rintro _ _ ⟨rfl,rfl⟩;refine nkN hK ?_;refine zT (b:=c5) rfl (fun hc7=>?_) (fun hc7=>?_)
 · rw[if_pos hc7] at h;refine rgN [6,7] ?_;cases h;exact rtA
 rw[wO hc7] at h;apply zj;apply hZ2
 refine rc [6,7] fun K hK=>?_
 obtain⟨r8,hr8,h⟩:=bind_some h;refine zw tok 3 ?_;simp only[go_sem,qd,qf,qb,qe,zg];refine clN rfl rfl rfl (ye.ev xK a0 r1.1 a2 r8 hr8 _) ?_;refine zw tok 2 ?_;simp only[go_sem,qd,qf,qb,qe,zg];refine nkN hK ?_;cases h;exact rtA
def xQ.l8 (a1:List xh):List xh→Int→Option Bool
 |[],x6=>some true
 |y8::q8,x6=>(Xe a1 x6).bind fun y14=>(if (!(decide (y8.fTag=y14.fTag)&&(decide (y8.fWire=y14.fWire)&&(decide (y8.fN=y14.fN)&&decide (y8.fB=y14.fB)))))=true then some false else ((xQ.l8 a1 q8) (x6+1)))
def xQ (a0:List xh)(a1:List xh):Option Bool:=
 (if (qa a0:Int)=(qa a1:Int) then (xQ.l8 a1 a0 0) else some false)
theorem xQ.ok {a0 a1 r}(h:xQ a0 a1=some r):ACalls qg 120 [.ds true (qc zx a0) (qa a0) false,.ds true (qc zx a1) (qa a1) false] [] (fun r' _=>r'=.bool r):=by
 refine zr (rs:=[.tmp 4]) tok Tryz.func120 rfl Tryz.ntmps120 rfl Tryz.call120 (by simp) ?_;refine zA [(0,.ds true (qc zx a0) (qa a0) false),(1,.ds true (qc zx a1) (qa a1) false)] ⟨rfl,rfl,trivial⟩ ?_;unfold xQ at h;refine rgN [0,1] ?_
 refine zd fun Z1 hZ1=>?_
 refine rgN [0,1,10] ?_;refine yf rfl (fun hc2=>?_) (fun hc2=>?_)
 · rw[if_neg hc2] at h;have t3:=eq_false hc2
   refine rg tok [4] fun K hK=>?_
   simp only[go_sem,qd,qb,reduceCtorEq,t3];apply hK
   cases h;exact rtA
 rw[if_pos hc2] at h;have t4:=eq_true hc2;apply zj;apply hZ1
 refine zd fun Z5 hZ5=>?_
 refine rg tok [0,1,12,13] fun K hK=>?_
 simp only[go_sem,qd,qb,reduceCtorEq,t4];apply hK
 apply zn
 refine y5 0 fun hb8=>?_
 replace hb8:qa a0≤9223372036854775807:=hb8.1;refine yh (fun m L τ=>∃ (p8 q8:List xh) (x6:Int),m=qa q8∧L=[(0,.ds true (qc zx a0) (qa a0) false),(1,.ds true (qc zx a1) (qa a1) false),(12,.int .i64 (qa a0:Int)),(13,.int .i64 x6)]∧τ=([]:ze)∧a0=p8++q8∧x6=(qa p8:Int)∧xQ.l8 a1 q8 x6=some r) _ ⟨[],a0,0,rfl,rfl,rfl,rfl,rfl,h⟩ .s ?_;rintro m L τ ⟨p8,q8,x6,rfl,rfl,rfl,hE8,hi8,h⟩
 rcases q8 with _|⟨y8,q8⟩
 · have hz8:=xw hE8 hi8;simp only[xQ.l8] at h
   refine rg tok [0,1,12,13,14] fun K hK=>?_
   simp only[go_sem,qd,qb,reduceCtorEq,hz8];apply hK
   refine zd fun Z9 hZ9=>?_
   refine zF rfl ?_;apply yc;apply hZ5;refine rgN [4] ?_;cases h;exact rtA
 obtain⟨hz8,hw8,hx8,hE'8,hi'8⟩:=y3 hE8 hi8 hb8;simp only[xQ.l8] at h
 refine rg tok [0,1,12,13,14] fun K hK=>?_
 simp only[go_sem,qd,qb,reduceCtorEq,hz8];apply hK
 refine zd fun Z10 hZ10=>?_
 refine zJ rfl ?_;apply zj;apply hZ10
 refine zd fun Z11 hZ11=>?_
 apply zn;refine rgN [0,1,5,12,13] ?_;have f12:=E35.idxS hx8;have f13:=E35.loadS rfl rfl hx8;obtain⟨y14,hy14,h⟩:=bind_some h;have f15:=E35.idxS hy14;have f16:=E35.loadS rfl rfl hy14
 refine rd [0,1,12,13,24] fun K hK=>?_
 refine DW.start (T:=tab) [.any,.any,.any,.at [],.any,.any,.any,.at [],.any] [] ?_;refine DW.runN tok 8 ?_;simp only[go_sem,qd,qb,reduceCtorEq,zx,f12,f13,f15,f16];refine DW.runN tok 1 ?_;simp only[go_sem,qd,qb,reduceCtorEq,evEqA,Xz,ceq];refine DW.fin tok (by decide +kernel) rfl ?_;simp only[zz,upd,qb,reduceIte,yS,xD];apply hK
 refine zT (b:=(!(decide (y8.fTag=y14.fTag)&&(decide (y8.fWire=y14.fWire)&&(decide (y8.fN=y14.fN)&&decide (y8.fB=y14.fB)))))) rfl (fun hc17=>?_) (fun hc17=>?_)
 · rw[if_pos hc17] at h;refine rgN [4] ?_;cases h;exact rtA
 rw[wO hc17] at h;apply zj;apply hZ11
 refine rgE tok [0,1,12,13] fun K hK=>?_
 simp only[go_sem,qd,qb,reduceCtorEq,hw8];apply hK
 exact⟨_,_,_,qx q8.length,⟨p8++[y8],q8,x6+1,rfl,rfl,rfl,hE'8,hi'8,h⟩,.s⟩
def wg.body (yP:zp→zp→Option Bool)(yu:zE→zE→Option Bool)(zy:(List zE)→(List zE)→Option Bool)(zC:(List zp)→(List zp)→Option Bool)(a0:zp)(a1:zp):Option Bool:=
 (if (((decide (a0.fKind=a1.fKind))&&(decide (a0.fN=a1.fN)))&&(decide (a0.fS=a1.fS)))=true then (xQ a0.fRest a1.fRest).bind fun r3=>some r3 else some false).bind fun c3=>(if c3=true then (zy a0.fEntries a1.fEntries).bind fun r5=>some r5 else some false).bind fun c5=>some c5
theorem wg.step (yP:zp→zp→Option Bool)(yu:zE→zE→Option Bool)(zy:(List zE)→(List zE)→Option Bool)(zC:(List zp)→(List zp)→Option Bool)(Zx:∀ (a0:zp) (a1:zp) (r:Bool),yP a0 a1=some r→ACalls qg 80 [.agg (zg a0),.agg (zg a1)] [] (fun r' _=>r'=.bool r))(wY:∀ (a0:zE) (a1:zE) (r:Bool),yu a0 a1=some r→ACalls qg 122 [.agg (zW a0),.agg (zW a1)] [] (fun r' _=>r'=.bool r))(yA:∀ (a0:List zE) (a1:List zE) (r:Bool),zy a0 a1=some r→ACalls qg 121 [.ds true (qc zu a0) (qa a0) false,.ds true (qc zu a1) (qa a1) false,.fn (.func 122) [] []] [] (fun r' _=>r'=.bool r))(yN:∀ (a0:List zp) (a1:List zp) (r:Bool),zC a0 a1=some r→ACalls qg 123 [.ds true (qc z2 a0) (qa a0) false,.ds true (qc z2 a1) (qa a1) false,.fn (.func 80) [] []] [] (fun r' _=>r'=.bool r))(a0:zp)(a1:zp)(r:Bool)(h:wg.body yP yu zy zC a0 a1=some r):ACalls qg 80 [.agg (zg a0),.agg (zg a1)] [] (fun r' _=>r'=.bool r):=by
 have ev_value_Same:=fun a0 a1 r h σ=>(Zx a0 a1 r h).c σ
 have ev_value_Same_1:=fun a0 a1 r h σ=>(wY a0 a1 r h).c σ
 have ev_slices_EqualFunc_Entry_value_Same_1:=fun a0 a1 r h σ=>(yA a0 a1 r h).c σ
 have ev_slices_EqualFunc_Tree_value_Same:=fun a0 a1 r h σ=>(yN a0 a1 r h).c σ
 refine zr (rs:=[.tmp 4]) tok Tryz.func80 rfl Tryz.ntmps80 rfl Tryz.call80 (by simp) ?_;refine zA [(0,.agg (zg a0)),(1,.agg (zg a1))] ⟨rfl,rfl,trivial⟩ ?_;unfold wg.body at h
 refine rg tok [2,3] fun K hK=>?_
 simp only[go_sem,qd,qb,qe,reduceCtorEq,zg];apply hK
 refine rc [4] fun K hK=>?_
 refine rnN 6 ?_;refine zG 6 (fun L τ=>L=[(2,.op 0 0 0),(3,.op 1 0 0),(16,.bool ((decide (a0.fKind=a1.fKind))&&(decide (a0.fN=a1.fN))))]∧τ=([.cells 0 (zg a0),.cells 0 (zg a1)]:ze)) ?_ ?_
 · refine xS 10 rfl (fun hg10=>?_) (fun hg10=>?_)
   · have t1:=eq_true hg10;refine rnN 6 ?_;refine zh ⟨rfl,_,_,⟨rfl,rfl⟩,.p t1⟩
   have t2:=eq_false hg10;refine rnN 6 ?_;refine zh ⟨rfl,_,_,⟨rfl,rfl⟩,.p t2⟩
 rintro _ _ ⟨rfl,rfl⟩;refine rnN 1 ?_;refine zG 6 (fun L τ=>L=[(2,.op 0 0 0),(3,.op 1 0 0),(23,.bool (((decide (a0.fKind=a1.fKind))&&(decide (a0.fN=a1.fN)))&&(decide (a0.fS=a1.fS))))]∧τ=([.cells 0 (zg a0),.cells 0 (zg a1)]:ze)) ?_ ?_
 · refine yv (b:=((decide (a0.fKind=a1.fKind))&&(decide (a0.fN=a1.fN)))) 17 rfl (fun hg17=>?_) (fun hg17=>?_)
   · refine rnN 6 ?_;refine zh ⟨rfl,_,_,⟨rfl,rfl⟩,.b hg17⟩
   refine rnN 6 ?_;refine zh ⟨rfl,_,_,⟨rfl,rfl⟩,.b hg17⟩
 rintro _ _ ⟨rfl,rfl⟩;refine rnN 1 ?_;obtain⟨c3,hc3,h⟩:=bind_some h;refine zG 6 (fun L τ=>L=[(2,.op 0 0 0),(3,.op 1 0 0),(30,.bool c3)]∧τ=([.cells 0 (zg a0),.cells 0 (zg a1)]:ze)) ?_ ?_
 · refine yv (b:=(((decide (a0.fKind=a1.fKind))&&(decide (a0.fN=a1.fN)))&&(decide (a0.fS=a1.fS)))) 24 rfl (fun hg24=>?_) (fun hg24=>?_)
   · rw[if_pos hg24] at hc3;obtain⟨r4,hr4,hc3⟩:=bind_some hc3;refine rnN 4 ?_;refine clN rfl rfl rfl ((xQ.ok hr4).c _) ?_;refine rnN 1 ?_;cases hc3;refine zh ⟨rfl,_,_,⟨rfl,rfl⟩,.b hg24⟩
   rw[wO hg24] at hc3;refine rnN 6 ?_;cases hc3;refine zh ⟨rfl,_,_,⟨rfl,rfl⟩,.b hg24⟩
 rintro _ _ ⟨rfl,rfl⟩;refine rnN 1 ?_;obtain⟨c5,hc5,h⟩:=bind_some h;refine zG 6 (fun L τ=>L=[(37,.bool c5)]∧τ=([.cells 0 (zg a0),.cells 0 (zg a1)]:ze)) ?_ ?_
 · refine yv (b:=c3) 31 rfl (fun hg31=>?_) (fun hg31=>?_)
   · rw[if_pos hg31] at hc5;obtain⟨r6,hr6,hc5⟩:=bind_some hc5;refine rnN 4 ?_;refine clN rfl rfl rfl (ev_slices_EqualFunc_Entry_value_Same_1 a0.fEntries a1.fEntries r6 hr6 _) ?_;refine rnN 1 ?_;cases hc5;refine zh ⟨rfl,_,_,⟨rfl,rfl⟩,.b hg31⟩
   rw[wO hg31] at hc5;refine rnN 6 ?_;cases hc5;refine zh ⟨rfl,_,_,⟨rfl,rfl⟩,.b hg31⟩
 rintro _ _ ⟨rfl,rfl⟩;refine rnN 1 ?_;refine nkN hK ?_;cases h;exact rtA
end
section
set_option maxRecDepth 4000
set_option maxHeartbeats 1000000
open AM
def wx.body (yP:zp→zp→Option Bool)(yu:zE→zE→Option Bool)(zy:(List zE)→(List zE)→Option Bool)(zC:(List zp)→(List zp)→Option Bool)(a0:zE)(a1:zE):Option Bool:=
 (if a0.fTag=a1.fTag then (zC a0.fTrees a1.fTrees).bind fun r1=>some r1 else some false).bind fun c1=>some c1
theorem wx.step (yP:zp→zp→Option Bool)(yu:zE→zE→Option Bool)(zy:(List zE)→(List zE)→Option Bool)(zC:(List zp)→(List zp)→Option Bool)(Zx:∀ (a0:zp) (a1:zp) (r:Bool),yP a0 a1=some r→ACalls qg 80 [.agg (zg a0),.agg (zg a1)] [] (fun r' _=>r'=.bool r))(wY:∀ (a0:zE) (a1:zE) (r:Bool),yu a0 a1=some r→ACalls qg 122 [.agg (zW a0),.agg (zW a1)] [] (fun r' _=>r'=.bool r))(yA:∀ (a0:List zE) (a1:List zE) (r:Bool),zy a0 a1=some r→ACalls qg 121 [.ds true (qc zu a0) (qa a0) false,.ds true (qc zu a1) (qa a1) false,.fn (.func 122) [] []] [] (fun r' _=>r'=.bool r))(yN:∀ (a0:List zp) (a1:List zp) (r:Bool),zC a0 a1=some r→ACalls qg 123 [.ds true (qc z2 a0) (qa a0) false,.ds true (qc z2 a1) (qa a1) false,.fn (.func 80) [] []] [] (fun r' _=>r'=.bool r))(a0:zE)(a1:zE)(r:Bool)(h:wx.body yP yu zy zC a0 a1=some r):ACalls qg 122 [.agg (zW a0),.agg (zW a1)] [] (fun r' _=>r'=.bool r):=by
 have ev_value_Same:=fun a0 a1 r h σ=>(Zx a0 a1 r h).c σ
 have ev_value_Same_1:=fun a0 a1 r h σ=>(wY a0 a1 r h).c σ
 have ev_slices_EqualFunc_Entry_value_Same_1:=fun a0 a1 r h σ=>(yA a0 a1 r h).c σ
 have ev_slices_EqualFunc_Tree_value_Same:=fun a0 a1 r h σ=>(yN a0 a1 r h).c σ
 refine zr (rs:=[.tmp 4]) tok Tryz.func122 rfl Tryz.ntmps122 rfl Tryz.call122 (by simp) ?_;refine zA [(0,.agg (zW a0)),(1,.agg (zW a1))] ⟨rfl,rfl,trivial⟩ ?_;unfold wx.body at h
 refine rg tok [2,3] fun K hK=>?_
 simp only[go_sem,qd,qb,qe,reduceCtorEq,zW];apply hK
 refine rc [4] fun K hK=>?_
 refine rnN 6 ?_;obtain⟨c1,hc1,h⟩:=bind_some h;refine zG 6 (fun L τ=>L=[(16,.bool c1)]∧τ=([.cells 0 (zW a0),.cells 0 (zW a1)]:ze)) ?_ ?_
 · refine xS 10 rfl (fun hg10=>?_) (fun hg10=>?_)
   · have t2:=eq_true hg10;rw[if_pos hg10] at hc1;obtain⟨r3,hr3,hc1⟩:=bind_some hc1;refine rnN 4 ?_;refine clN rfl rfl rfl (ev_slices_EqualFunc_Tree_value_Same a0.fTrees a1.fTrees r3 hr3 _) ?_;refine rnN 1 ?_;cases hc1;refine zh ⟨rfl,_,_,⟨rfl,rfl⟩,.p t2⟩
   have t4:=eq_false hg10;rw[if_neg hg10] at hc1;refine rnN 6 ?_;cases hc1;refine zh ⟨rfl,_,_,⟨rfl,rfl⟩,.p t4⟩
 rintro _ _ ⟨rfl,rfl⟩;refine rnN 1 ?_;refine nkN hK ?_;cases h;exact rtA
def zv.l8 (yu:zE→zE→Option Bool)(a1:List zE):List zE→Int→Option Bool
 |[],x6=>some true
 |y8::q8,x6=>(Xe a1 x6).bind fun y14=>(yu y8 y14).bind fun r17=>(if (!r17)=true then some false else ((zv.l8 yu a1 q8) (x6+1)))
def zv.body (yP:zp→zp→Option Bool)(yu:zE→zE→Option Bool)(zy:(List zE)→(List zE)→Option Bool)(zC:(List zp)→(List zp)→Option Bool)(a0:List zE)(a1:List zE):Option Bool:=
 (if (qa a0:Int)=(qa a1:Int) then (zv.l8 yu a1 a0 0) else some false)
theorem zv.step (yP:zp→zp→Option Bool)(yu:zE→zE→Option Bool)(zy:(List zE)→(List zE)→Option Bool)(zC:(List zp)→(List zp)→Option Bool)(Zx:∀ (a0:zp) (a1:zp) (r:Bool),yP a0 a1=some r→ACalls qg 80 [.agg (zg a0),.agg (zg a1)] [] (fun r' _=>r'=.bool r))(wY:∀ (a0:zE) (a1:zE) (r:Bool),yu a0 a1=some r→ACalls qg 122 [.agg (zW a0),.agg (zW a1)] [] (fun r' _=>r'=.bool r))(yA:∀ (a0:List zE) (a1:List zE) (r:Bool),zy a0 a1=some r→ACalls qg 121 [.ds true (qc zu a0) (qa a0) false,.ds true (qc zu a1) (qa a1) false,.fn (.func 122) [] []] [] (fun r' _=>r'=.bool r))(yN:∀ (a0:List zp) (a1:List zp) (r:Bool),zC a0 a1=some r→ACalls qg 123 [.ds true (qc z2 a0) (qa a0) false,.ds true (qc z2 a1) (qa a1) false,.fn (.func 80) [] []] [] (fun r' _=>r'=.bool r))(a0:List zE)(a1:List zE)(r:Bool)(h:zv.body yP yu zy zC a0 a1=some r):ACalls qg 121 [.ds true (qc zu a0) (qa a0) false,.ds true (qc zu a1) (qa a1) false,.fn (.func 122) [] []] [] (fun r' _=>r'=.bool r):=by
 have ev_value_Same:=fun a0 a1 r h σ=>(Zx a0 a1 r h).c σ
 have ev_value_Same_1:=fun a0 a1 r h σ=>(wY a0 a1 r h).c σ
 have ev_slices_EqualFunc_Entry_value_Same_1:=fun a0 a1 r h σ=>(yA a0 a1 r h).c σ
 have ev_slices_EqualFunc_Tree_value_Same:=fun a0 a1 r h σ=>(yN a0 a1 r h).c σ
 refine zr (rs:=[.tmp 6]) tok Tryz.func121 rfl Tryz.ntmps121 rfl Tryz.call121 (by simp) ?_;refine zA [(0,.ds true (qc zu a0) (qa a0) false),(1,.ds true (qc zu a1) (qa a1) false),(2,.fn (.func 122) [] [])] ⟨rfl,rfl,rfl,trivial⟩ ?_;unfold zv.body at h;refine rgN [0,1,2] ?_
 refine zd fun Z1 hZ1=>?_
 refine rgN [0,1,2,14] ?_;refine yf rfl (fun hc2=>?_) (fun hc2=>?_)
 · rw[if_neg hc2] at h;have t3:=eq_false hc2
   refine rg tok [6] fun K hK=>?_
   simp only[go_sem,qd,qb,reduceCtorEq,t3];apply hK
   cases h;exact rtA
 rw[if_pos hc2] at h;have t4:=eq_true hc2;apply zj;apply hZ1
 refine zd fun Z5 hZ5=>?_
 refine rg tok [1,2,15,16,17] fun K hK=>?_
 simp only[go_sem,qd,qb,reduceCtorEq,t4];apply hK
 apply zn
 refine y5 15 fun hb8=>?_
 replace hb8:qa a0≤9223372036854775807:=hb8.1;refine yh (fun m L τ=>∃ (p8 q8:List zE) (x6:Int),m=qa q8∧L=[(1,.ds true (qc zu a1) (qa a1) false),(2,.fn (.func 122) [] []),(15,.ds true (qc zu a0) (qa a0) false),(16,.int .i64 (qa a0:Int)),(17,.int .i64 x6)]∧τ=([]:ze)∧a0=p8++q8∧x6=(qa p8:Int)∧zv.l8 yu a1 q8 x6=some r) _ ⟨[],a0,0,rfl,rfl,rfl,rfl,rfl,h⟩ .s ?_;rintro m L τ ⟨p8,q8,x6,rfl,rfl,rfl,hE8,hi8,h⟩
 rcases q8 with _|⟨y8,q8⟩
 · have hz8:=xw hE8 hi8;simp only[zv.l8] at h
   refine rg tok [1,2,15,16,17,18] fun K hK=>?_
   simp only[go_sem,qd,qb,hz8];apply hK
   refine zd fun Z9 hZ9=>?_
   refine zF rfl ?_;apply yc;apply hZ5;refine rgN [6] ?_;cases h;exact rtA
 obtain⟨hz8,hw8,hx8,hE'8,hi'8⟩:=y3 hE8 hi8 hb8;simp only[zv.l8] at h
 refine rg tok [1,2,15,16,17,18] fun K hK=>?_
 simp only[go_sem,qd,qb,hz8];apply hK
 refine zd fun Z10 hZ10=>?_
 refine zJ rfl ?_;apply zj;apply hZ10
 refine zd fun Z11 hZ11=>?_
 apply zn;have f12:=E34.idxS hx8;have f13:=E34.loadS rfl rfl hx8
 refine rg tok [1,2,7,8,15,16,17] fun K hK=>?_
 simp only[go_sem,qd,qf,qb,qe,zW,xd,f12,f13];apply hK
 obtain⟨y14,hy14,h⟩:=bind_some h;have f15:=E34.idxS hy14;have f16:=E34.loadS rfl rfl hy14
 refine rg tok [1,2,8,9,15,16,17] fun K hK=>?_
 simp only[go_sem,qd,qf,qb,qe,zW,xd,f15,f16];apply hK
 refine rc [1,2,15,16,17,30] fun K hK=>?_
 obtain⟨r17,hr17,h⟩:=bind_some h;refine rnN 3 ?_;refine clN rfl rfl rfl (ev_value_Same_1 y8 y14 r17 hr17 _) ?_;refine rnN 1 ?_;refine nkN hK ?_;refine zT (b:=(!r17)) rfl (fun hc18=>?_) (fun hc18=>?_)
 · rw[if_pos hc18] at h;refine rgN [6] ?_;cases h;exact rtA
 rw[wO hc18] at h;apply zj;apply hZ11
 refine rgE tok [1,2,15,16,17] fun K hK=>?_
 simp only[go_sem,qd,qb,hw8];apply hK
 exact⟨_,_,_,qx q8.length,⟨p8++[y8],q8,x6+1,rfl,rfl,rfl,hE'8,hi'8,h⟩,(.t [] false)⟩
def zB.l8 (yP:zp→zp→Option Bool)(a1:List zp):List zp→Int→Option Bool
 |[],x6=>some true
 |y8::q8,x6=>(Xe a1 x6).bind fun y14=>(yP y8 y14).bind fun r17=>(if (!r17)=true then some false else ((zB.l8 yP a1 q8) (x6+1)))
def zB.body (yP:zp→zp→Option Bool)(yu:zE→zE→Option Bool)(zy:(List zE)→(List zE)→Option Bool)(zC:(List zp)→(List zp)→Option Bool)(a0:List zp)(a1:List zp):Option Bool:=
 (if (qa a0:Int)=(qa a1:Int) then (zB.l8 yP a1 a0 0) else some false)
theorem zB.step (yP:zp→zp→Option Bool)(yu:zE→zE→Option Bool)(zy:(List zE)→(List zE)→Option Bool)(zC:(List zp)→(List zp)→Option Bool)(Zx:∀ (a0:zp) (a1:zp) (r:Bool),yP a0 a1=some r→ACalls qg 80 [.agg (zg a0),.agg (zg a1)] [] (fun r' _=>r'=.bool r))(wY:∀ (a0:zE) (a1:zE) (r:Bool),yu a0 a1=some r→ACalls qg 122 [.agg (zW a0),.agg (zW a1)] [] (fun r' _=>r'=.bool r))(yA:∀ (a0:List zE) (a1:List zE) (r:Bool),zy a0 a1=some r→ACalls qg 121 [.ds true (qc zu a0) (qa a0) false,.ds true (qc zu a1) (qa a1) false,.fn (.func 122) [] []] [] (fun r' _=>r'=.bool r))(yN:∀ (a0:List zp) (a1:List zp) (r:Bool),zC a0 a1=some r→ACalls qg 123 [.ds true (qc z2 a0) (qa a0) false,.ds true (qc z2 a1) (qa a1) false,.fn (.func 80) [] []] [] (fun r' _=>r'=.bool r))(a0:List zp)(a1:List zp)(r:Bool)(h:zB.body yP yu zy zC a0 a1=some r):ACalls qg 123 [.ds true (qc z2 a0) (qa a0) false,.ds true (qc z2 a1) (qa a1) false,.fn (.func 80) [] []] [] (fun r' _=>r'=.bool r):=by
 have ev_value_Same:=fun a0 a1 r h σ=>(Zx a0 a1 r h).c σ
 have ev_value_Same_1:=fun a0 a1 r h σ=>(wY a0 a1 r h).c σ
 have ev_slices_EqualFunc_Entry_value_Same_1:=fun a0 a1 r h σ=>(yA a0 a1 r h).c σ
 have ev_slices_EqualFunc_Tree_value_Same:=fun a0 a1 r h σ=>(yN a0 a1 r h).c σ
 refine zr (rs:=[.tmp 6]) tok Tryz.func123 rfl Tryz.ntmps123 rfl Tryz.call123 (by simp) ?_;refine zA [(0,.ds true (qc z2 a0) (qa a0) false),(1,.ds true (qc z2 a1) (qa a1) false),(2,.fn (.func 80) [] [])] ⟨rfl,rfl,rfl,trivial⟩ ?_;unfold zB.body at h;refine rgN [0,1,2] ?_
 refine zd fun Z1 hZ1=>?_
 refine rgN [0,1,2,14] ?_;refine yf rfl (fun hc2=>?_) (fun hc2=>?_)
 · rw[if_neg hc2] at h;have t3:=eq_false hc2
   refine rg tok [6] fun K hK=>?_
   simp only[go_sem,qd,qb,reduceCtorEq,t3];apply hK
   cases h;exact rtA
 rw[if_pos hc2] at h;have t4:=eq_true hc2;apply zj;apply hZ1
 refine zd fun Z5 hZ5=>?_
 refine rg tok [1,2,15,16,17] fun K hK=>?_
 simp only[go_sem,qd,qb,reduceCtorEq,t4];apply hK
 apply zn
 refine y5 15 fun hb8=>?_
 replace hb8:qa a0≤9223372036854775807:=hb8.1;refine yh (fun m L τ=>∃ (p8 q8:List zp) (x6:Int),m=qa q8∧L=[(1,.ds true (qc z2 a1) (qa a1) false),(2,.fn (.func 80) [] []),(15,.ds true (qc z2 a0) (qa a0) false),(16,.int .i64 (qa a0:Int)),(17,.int .i64 x6)]∧τ=([]:ze)∧a0=p8++q8∧x6=(qa p8:Int)∧zB.l8 yP a1 q8 x6=some r) _ ⟨[],a0,0,rfl,rfl,rfl,rfl,rfl,h⟩ .s ?_;rintro m L τ ⟨p8,q8,x6,rfl,rfl,rfl,hE8,hi8,h⟩
 rcases q8 with _|⟨y8,q8⟩
 · have hz8:=xw hE8 hi8;simp only[zB.l8] at h
   refine rg tok [1,2,15,16,17,18] fun K hK=>?_
   simp only[go_sem,qd,qb,hz8];apply hK
   refine zd fun Z9 hZ9=>?_
   refine zF rfl ?_;apply yc;apply hZ5;refine rgN [6] ?_;cases h;exact rtA
 obtain⟨hz8,hw8,hx8,hE'8,hi'8⟩:=y3 hE8 hi8 hb8;simp only[zB.l8] at h
 refine rg tok [1,2,15,16,17,18] fun K hK=>?_
 simp only[go_sem,qd,qb,hz8];apply hK
 refine zd fun Z10 hZ10=>?_
 refine zJ rfl ?_;apply zj;apply hZ10
 refine zd fun Z11 hZ11=>?_
 apply zn;have f12:=E38.idxS hx8;have f13:=E38.loadS rfl rfl hx8
 refine rg tok [1,2,7,8,15,16,17] fun K hK=>?_
 simp only[go_sem,qd,qf,qb,qe,zg,yi,f12,f13];apply hK
 obtain⟨y14,hy14,h⟩:=bind_some h;have f15:=E38.idxS hy14;have f16:=E38.loadS rfl rfl hy14
 refine rg tok [1,2,8,9,15,16,17] fun K hK=>?_
 simp only[go_sem,qd,qf,qb,qe,zg,yi,f15,f16];apply hK
 refine rc [1,2,15,16,17,30] fun K hK=>?_
 obtain⟨r17,hr17,h⟩:=bind_some h;refine rnN 3 ?_;refine clN rfl rfl rfl (ev_value_Same y8 y14 r17 hr17 _) ?_;refine rnN 1 ?_;refine nkN hK ?_;refine zT (b:=(!r17)) rfl (fun hc18=>?_) (fun hc18=>?_)
 · rw[if_pos hc18] at h;refine rgN [6] ?_;cases h;exact rtA
 rw[wO hc18] at h;apply zj;apply hZ11
 refine rgE tok [1,2,15,16,17] fun K hK=>?_
 simp only[go_sem,qd,qb,hw8];apply hK
 exact⟨_,_,_,qx q8.length,⟨p8++[y8],q8,x6+1,rfl,rfl,rfl,hE'8,hi'8,h⟩,(.t [] false)⟩
mutual
def wg : Nat→zp→zp→Option Bool
 |0,_,_=>none
 |k+1,a0,a1=>wg.body (wg k) (wx k) (zv k) (zB k) a0 a1
def wx : Nat→zE→zE→Option Bool
 |0,_,_=>none
 |k+1,a0,a1=>wx.body (wg k) (wx k) (zv k) (zB k) a0 a1
def zv : Nat→(List zE)→(List zE)→Option Bool
 |0,_,_=>none
 |k+1,a0,a1=>zv.body (wg k) (wx k) (zv k) (zB k) a0 a1
def zB : Nat→(List zp)→(List zp)→Option Bool
 |0,_,_=>none
 |k+1,a0,a1=>zB.body (wg k) (wx k) (zv k) (zB k) a0 a1
end
theorem wg.all (k:Nat):(∀ (a0:zp) (a1:zp) (r:Bool),wg k a0 a1=some r→ACalls qg 80 [.agg (zg a0),.agg (zg a1)] [] (fun r' _=>r'=.bool r))∧(∀ (a0:zE) (a1:zE) (r:Bool),wx k a0 a1=some r→ACalls qg 122 [.agg (zW a0),.agg (zW a1)] [] (fun r' _=>r'=.bool r))∧(∀ (a0:List zE) (a1:List zE) (r:Bool),zv k a0 a1=some r→ACalls qg 121 [.ds true (qc zu a0) (qa a0) false,.ds true (qc zu a1) (qa a1) false,.fn (.func 122) [] []] [] (fun r' _=>r'=.bool r))∧(∀ (a0:List zp) (a1:List zp) (r:Bool),zB k a0 a1=some r→ACalls qg 123 [.ds true (qc z2 a0) (qa a0) false,.ds true (qc z2 a1) (qa a1) false,.fn (.func 80) [] []] [] (fun r' _=>r'=.bool r)):=by
 induction k with
 |zero=>exact⟨(fun a0 a1 r h=>by simp only[wg] at h; cases h),(fun a0 a1 r h=>by simp only[wx] at h; cases h),(fun a0 a1 r h=>by simp only[zv] at h; cases h),(fun a0 a1 r h=>by simp only[zB] at h; cases h)⟩
 |succ k ih=>exact⟨(fun a0 a1 r h=>wg.step _ _ _ _ ih.1 ih.2.1 ih.2.2.1 ih.2.2.2 a0 a1 r (by simpa only [wg] using h)),(fun a0 a1 r h=>wx.step _ _ _ _ ih.1 ih.2.1 ih.2.2.1 ih.2.2.2 a0 a1 r (by simpa only [wx] using h)),(fun a0 a1 r h=>zv.step _ _ _ _ ih.1 ih.2.1 ih.2.2.1 ih.2.2.2 a0 a1 r (by simpa only [zv] using h)),(fun a0 a1 r h=>zB.step _ _ _ _ ih.1 ih.2.1 ih.2.2.1 ih.2.2.2 a0 a1 r (by simpa only [zB] using h))⟩
theorem wg.ev (k:Nat)(a0:zp)(a1:zp)(r:Bool)(h:wg k a0 a1=some r)(σ:ze):ACalls qg 80 [.agg (zg a0),.agg (zg a1)] σ (fun r' σ'=>r'=.bool r∧σ'=σ):=
 ((wg.all k).1 a0 a1 r h).c σ
def xl.j10 (x5:Int)(rec7:Int→Option zp):Option zp:=
 (rec7 (x5+1))
def xl.l7 (a0:zD)(a3:List UInt8)(a4:zp)(r1:Za×Bool):List GRow→Int→Option zp
 |[],x5=>some (⟨3,0,[],([]:List zE),([]:List xh)⟩:zp)
 |y7::q7,x5=>(if y7.fMethod=a3 then (wW a0 r1.1.fIn y7.fIn).bind fun r17=>(wW a0 r1.1.fOut y7.fOut).bind fun r18=>(if (r17.2&&r18.2)=true then (wg xK r17.1 a4).bind fun r19=>some r19 else some false).bind fun c19=>(if c19=true then some r18.1 else (xl.j10 x5 (xl.l7 a0 a3 a4 r1 q7))) else (xl.j10 x5 (xl.l7 a0 a3 a4 r1 q7)))
def xl (a0:zD)(a1:zD)(a2:List GRow)(a3:List UInt8)(a4:zp):Option zp:=
 bnd (wb a0 a3) fun r1=>(if (!r1.2)=true then some (⟨0,0,[],([]:List zE),([]:List xh)⟩:zp) else (xl.l7 a0 a3 a4 r1 a2 0))
theorem xl.ok {a0 a1 a2 a3 a4 r}(h:xl a0 a1 a2 a3 a4=some r):ACalls qg 42 [.agg (za a0),.agg (za a1),.ds true (qc yd a2) (qa a2) false,.str a3,.agg (zg a4)] [] (fun r' _=>r'=.agg (zg r)):=by
 refine zr (rs:=[.cell 10 37]) tok Tryz.func42 rfl Tryz.ntmps42 rfl Tryz.call42 (by simp) ?_;refine zA [(0,.agg (za a0)),(1,.agg (za a1)),(2,.ds true (qc yd a2) (qa a2) false),(3,.str a3),(4,.agg (zg a4))] ⟨rfl,rfl,rfl,rfl,rfl,trivial⟩ ?_;unfold xl at h
 refine rg tok [2,3,5,9,10] fun K hK=>?_
 simp only[go_sem,qd,qb,qe,reduceCtorEq,zg,za];apply hK
 refine rc [2,3,5,9,10,11,12] fun K hK=>?_
 obtain⟨r1,hr1,h⟩:=yg h;refine rnN 2 ?_;refine clN rfl rfl rfl ((wb.ok hr1).c _) ?_;refine zw tok 6 ?_;simp only[go_sem,qd,qf,qb,qe,zm];refine nkN hK ?_
 refine zd fun Z2 hZ2=>?_
 refine rgN [2,3,5,9,10,11,26] ?_;refine zT (b:=(!r1.2)) rfl (fun hc3=>?_) (fun hc3=>?_)
 · rw[if_pos hc3] at h;refine rgN [10] ?_;cases h;exact rtA
 rw[wO hc3] at h;apply zj;apply hZ2
 refine zd fun Z4 hZ4=>?_
 refine rgN [3,5,9,10,11,28,29,30] ?_;apply zn
 refine y5 28 fun hb7=>?_
 replace hb7:qa a2≤9223372036854775807:=hb7.1;refine yh (fun m L τ=>∃ (p7 q7:List GRow) (x5:Int),m=qa q7∧L=[(3,.str a3),(5,.op 0 0 0),(9,.op 1 0 0),(10,.op 2 0 0),(11,.op 3 0 0),(28,.ds true (qc yd a2) (qa a2) false),(29,.int .i64 (qa a2:Int)),(30,.int .i64 x5)]∧τ=([.cells 0 (za a0),.cells 0 (zg a4),.cells 0 [.int .i64 0,.int .i64 0,.str [],.ds true [] 0 true,.ds true [] 0 true],.cells 0 [.str r1.1.fName,.str r1.1.fIn,.str r1.1.fOut]]:ze)∧a2=p7++q7∧x5=(qa p7:Int)∧xl.l7 a0 a3 a4 r1 q7 x5=some r) _ ⟨[],a2,0,rfl,rfl,rfl,rfl,rfl,h⟩ (.t [0,2,3,4] false) ?_;rintro m L τ ⟨p7,q7,x5,rfl,rfl,rfl,hE7,hi7,h⟩
 rcases q7 with _|⟨y7,q7⟩
 · have hz7:=xw hE7 hi7;simp only[xl.l7] at h
   refine rg tok [3,5,9,10,11,28,29,30,31] fun K hK=>?_
   simp only[go_sem,qd,qb,hz7];apply hK
   refine zd fun Z8 hZ8=>?_
   refine zF rfl ?_;apply yc;apply hZ4;refine rgN [10] ?_;cases h;exact rtA
 obtain⟨hz7,hw7,hx7,hE'7,hi'7⟩:=y3 hE7 hi7 hb7;simp only[xl.l7] at h
 refine rg tok [3,5,9,10,11,28,29,30,31] fun K hK=>?_
 simp only[go_sem,qd,qb,hz7];apply hK
 refine zd fun Z9 hZ9=>?_
 refine zJ rfl ?_;apply zj;apply hZ9;refine xC (fun L τ=>L=[(3,.str a3),(5,.op 0 0 0),(9,.op 1 0 0),(10,.op 2 0 0),(11,.op 3 0 0),(28,.ds true (qc yd a2) (qa a2) false),(29,.int .i64 (qa a2:Int)),(30,.int .i64 x5)]∧τ=([.cells 0 (za a0),.cells 0 (zg a4),.cells 0 [.int .i64 0,.int .i64 0,.str [],.ds true [] 0 true,.ds true [] 0 true],.cells 0 [.str r1.1.fName,.str r1.1.fIn,.str r1.1.fOut]]:ze)∧xl.j10 x5 (xl.l7 a0 a3 a4 r1 q7)=some r) ?_ ?_
 · apply zn;have f11:=E82.idxS hx7;have f12:=E82.loadS rfl rfl hx7
   refine rg tok [3,5,9,10,11,14,28,29,30] fun K hK=>?_
   simp only[go_sem,qd,qf,qb,qe,yd,f11,f12];apply hK
   refine zd fun Z13 hZ13=>?_
   refine rgN [3,5,9,10,11,14,28,29,30,37] ?_;refine yf rfl (fun hc14=>?_) (fun hc14=>?_)
   · rw[if_neg hc14] at h;have t15:=eq_false hc14;apply yc;exact⟨_,_,⟨rfl,rfl,h⟩,(.t [0,1,2,3] false)⟩
   rw[if_pos hc14] at h;have t16:=eq_true hc14;apply zj;apply hZ13
   refine rc [3,5,9,10,11,14,15,16,28,29,30] fun K hK=>?_
   obtain⟨r17,hr17,h⟩:=bind_some h;refine zw tok 5 ?_;simp only[go_sem,qd,qf,qb,qe,zg,t16];refine clN rfl rfl rfl ((wW.ok hr17).c _) ?_;refine zw tok 6 ?_;simp only[go_sem,qd,qf,qb,qe,zg];refine nkN hK ?_
   refine rc [3,5,9,10,11,15,16,17,18,28,29,30] fun K hK=>?_
   obtain⟨r18,hr18,h⟩:=bind_some h;refine zw tok 5 ?_;simp only[go_sem,qd,qf,qb,qe,zg];refine clN rfl rfl rfl ((wW.ok hr18).c _) ?_;refine zw tok 6 ?_;simp only[go_sem,qd,qf,qb,qe,zg];refine nkN hK ?_
   refine rc [3,5,9,10,11,17,28,29,30,64] fun K hK=>?_
   refine rnN 2 ?_;refine zG 2 (fun L τ=>L=[(3,.str a3),(5,.op 0 0 0),(9,.op 1 0 0),(10,.op 2 0 0),(11,.op 3 0 0),(15,.op 5 0 0),(17,.op 6 0 0),(28,.ds true (qc yd a2) (qa a2) false),(29,.int .i64 (qa a2:Int)),(30,.int .i64 x5),(59,.bool (r17.2&&r18.2))]∧τ=([.cells 0 (za a0),.cells 0 (zg a4),.cells 0 [.int .i64 0,.int .i64 0,.str [],.ds true [] 0 true,.ds true [] 0 true],.cells 0 [.str r1.1.fName,.str r1.1.fIn,.str r1.1.fOut],.cells 0 (yd y7),.cells 0 (zg r17.1),.cells 0 (zg r18.1)]:ze)) ?_ ?_
   · refine yv (b:=r17.2) 57 rfl (fun hg57=>?_) (fun hg57=>?_)
     · refine rnN 2 ?_;refine zh ⟨rfl,_,_,⟨rfl,rfl⟩,.b hg57⟩
     refine rnN 2 ?_;refine zh ⟨rfl,_,_,⟨rfl,rfl⟩,.b hg57⟩
   rintro _ _ ⟨rfl,rfl⟩;refine rnN 1 ?_;obtain⟨c19,hc19,h⟩:=bind_some h;refine zG 4 (fun L τ=>L=[(3,.str a3),(5,.op 0 0 0),(9,.op 1 0 0),(10,.op 2 0 0),(11,.op 3 0 0),(17,.op 6 0 0),(28,.ds true (qc yd a2) (qa a2) false),(29,.int .i64 (qa a2:Int)),(30,.int .i64 x5),(64,.bool c19)]∧τ=([.cells 0 (za a0),.cells 0 (zg a4),.cells 0 [.int .i64 0,.int .i64 0,.str [],.ds true [] 0 true,.ds true [] 0 true],.cells 0 [.str r1.1.fName,.str r1.1.fIn,.str r1.1.fOut],.cells 0 (yd y7),.cells 0 (zg r17.1),.cells 0 (zg r18.1)]:ze)) ?_ ?_
   · refine yv (b:=(r17.2&&r18.2)) 60 rfl (fun hg60=>?_) (fun hg60=>?_)
     · rw[if_pos hg60] at hc19;obtain⟨r20,hr20,hc19⟩:=bind_some hc19;refine rnN 2 ?_;refine clN rfl rfl rfl (wg.ev xK r17.1 a4 r20 hr20 _) ?_;refine rnN 1 ?_;cases hc19;refine zh ⟨rfl,_,_,⟨rfl,rfl⟩,.b hg60⟩
     rw[wO hg60] at hc19;refine rnN 4 ?_;cases hc19;refine zh ⟨rfl,_,_,⟨rfl,rfl⟩,.b hg60⟩
   rintro _ _ ⟨rfl,rfl⟩;refine nkN hK ?_;refine zT (b:=c19) rfl (fun hc21=>?_) (fun hc21=>?_)
   · rw[if_pos hc21] at h;refine rgN [10] ?_;cases h;exact rtA
   rw[wO hc21] at h;apply zj;exact⟨_,_,⟨rfl,rfl,h⟩,(.t [0,1,2,3] false)⟩
 rintro _ _ ⟨rfl,rfl,h⟩;unfold xl.j10 at h
 refine rgE tok [3,5,9,10,11,28,29,30] fun K hK=>?_
 simp only[go_sem,qd,qb,hw7];apply hK
 exact⟨_,_,_,qx q7.length,⟨p7++[y7],q7,x5+1,rfl,rfl,rfl,hE'7,hi'7,h⟩,.s⟩
def wq.j19 (a0:ZA)(a1:Int)(a2:Int)(w9:XW y1 xo)(w12:XW Int Int)(x18:Bool):Option (Int×ZA):=
 (if x18=true then none else some (0,(⟨a0.fsize,a0.forder++[(⟨a1,a2⟩:y1)],a0.vorder+1,w9,w12⟩:ZA)))
def wq (a0:ZA)(a1:Int)(a2:Int)(a3:xo):Option (Int×ZA):=
 bnd (wQ a0 a1 a2) fun r2=>(if r2.2=1 then (vac (qa a0.forder+1) 16).bind fun _u6=>(XW.sto (XW.ent (⟨0,0,0,0,0,[],0,[]⟩:xo) a0.freplies (⟨a1,a2⟩:y1)) (XW.stamp a0.freplies (⟨a1,a2⟩:y1)) a3).bind fun w9=>(XW.sto (XW.ent 0 a0.flast a1) (XW.stamp a0.flast a1) a2).bind fun w12=>(Xe (a0.forder++[(⟨a1,a2⟩:y1)]) 0).bind fun y15=>(if a0.fsize<(qa (a0.forder++[(⟨a1,a2⟩:y1)]):Int) then (wq.j19 a0 a1 a2 w9 w12 (!(decide (y15.ffrom=a1)&&decide (y15.fid=a2)))) else (wq.j19 a0 a1 a2 w9 w12 false)) else some (20,a0))
theorem wq.ok {a0 a1 a2 a3 r}(h:wq a0 a1 a2 a3=some r):ACalls qg 134 [.op 0 0 0,.int .i64 a1,.int .i64 a2,.agg (zq a3)] [.cells 0 [.int .i64 a0.fsize,.os true 2 1 (a0.vorder) 0 (qa a0.forder) false,.mp 2,.mp 3],.cells (a0.vorder) (qc zl a0.forder),.map (yq zs zK a0.freplies.l) (some (a0.freplies.bs,a0.freplies.ck)),.map (yq (AV.int .i64) (AV.int .i64) a0.flast.l) (some (a0.flast.bs,a0.flast.ck))] (fun r' σ'=>r'=.int .i64 r.1∧σ'=[.cells 0 [.int .i64 r.2.fsize,.os true 2 1 (r.2.vorder) 0 (qa r.2.forder) false,.mp 2,.mp 3],.cells (r.2.vorder) (qc zl r.2.forder),.map (yq zs zK r.2.freplies.l) (some (r.2.freplies.bs,r.2.freplies.ck)),.map (yq (AV.int .i64) (AV.int .i64) r.2.flast.l) (some (r.2.flast.bs,r.2.flast.ck))]):=by
 refine w5 [0,1,2,3] (rs:=[.tmp 8]) tok Tryz.func134 rfl Tryz.ntmps134 rfl Tryz.call134 (by simp) rfl ?_;refine zA [(0,.op 0 0 0),(1,.int .i64 a1),(2,.int .i64 a2),(3,.agg (zq a3))] ⟨rfl,rfl,rfl,rfl,trivial⟩ ?_;unfold wq at h
 refine rg tok [0,1,2,7] fun K hK=>?_
 simp only[go_sem,qd,qb,qe,reduceCtorEq,zq];apply hK
 refine zd fun Z1 hZ1=>?_
 refine rc [0,1,2,7,10] fun K hK=>?_
 obtain⟨r2,hr2,h⟩:=yg h;refine rnN 3 ?_;refine clN rfl rfl rfl (@id (ACalls qg 132 [.op 0 0 0,.int .i64 a1,.int .i64 a2] [.cells 0 [.int .i64 a0.fsize,.os true 2 1 (a0.vorder) 0 (qa a0.forder) false,.mp 2,.mp 3],.cells (a0.vorder) (qc zl a0.forder),.map (yq zs zK a0.freplies.l) (some (a0.freplies.bs,a0.freplies.ck)),.map (yq (AV.int .i64) (AV.int .i64) a0.flast.l) (some (a0.flast.bs,a0.flast.ck)),.cells 0 (zq a3)] (fun r' σ'=>r'=.tup [.agg (zq r2.1),.int .i64 r2.2]∧σ'=[.cells 0 [.int .i64 a0.fsize,.os true 2 1 (a0.vorder) 0 (qa a0.forder) false,.mp 2,.mp 3],.cells (a0.vorder) (qc zl a0.forder),.map (yq zs zK a0.freplies.l) (some (a0.freplies.bs,a0.freplies.ck)),.map (yq (AV.int .i64) (AV.int .i64) a0.flast.l) (some (a0.flast.bs,a0.flast.ck)),.cells 0 (zq a3)])) ((wQ.ok hr2).ix [0,1,2,3])) ?_;refine zw tok 6 ?_;simp only[go_sem,qd,qf,qb,qe,reduceCtorEq,zq];refine nkN hK ?_;refine rgN [0,1,2,7,21] ?_;refine yf rfl (fun hc3=>?_) (fun hc3=>?_)
 · rw[if_neg hc3] at h;have t4:=eq_false hc3
   refine rg tok [8] fun K hK=>?_
   simp only[go_sem,qd,qb,reduceCtorEq,t4];apply hK
   apply zY;cases h;simp only[w7,yy,yI,xq,exists_eq_left',go_sem,qe];refine⟨by decide,by simp,?_,?_⟩
   · first|rfl|(simp only[go_sem,qd,qf,qb,qe,qi,ql,reduceIte,reduceCtorEq,push_cast,if_true,qw,qj,qn,qk,qz,qo,qH,qC,qs,qr,qp,zt,zl]<;>rfl)
   first|rfl|(simp only[go_sem,qb,qe,reduceCtorEq,push_cast,if_true,qj,qn,qk,zt]<;>rfl)
 rw[if_pos hc3] at h;have t5:=eq_true hc3;apply zj;apply hZ1
 refine rg tok [0,1,2,7,11] fun K hK=>?_
 simp only[go_sem,qd,qf,qb,qe,reduceCtorEq,t5];apply hK
 obtain⟨_u6,hu6,h⟩:=bind_some h;have gu6:=xb hu6;have f7:=(zU E207.len a0.forder)
 refine rd [0,1,2,7,11] fun K hK=>?_
 refine DW.start (T:=tab) [.any,.any,.any,.any,.own 1 [],.at [],.eff,.eff,.any,.any,.eff] [(1,[])] ?_;refine DW.runN tok 8 ?_;simp only[go_sem,qd,qf,qb,qe,qi,reduceCtorEq,zL,ym,qP,qJ,true_and,qW,yM,yl,yL,gu6,f7,xa,qV,qX,AV.one,qE,qK,qq,qu,qj,qL];refine DW.runN tok 3 ?_;simp only[go_sem,qd,qf,qb,qe,reduceCtorEq,qq,qu,qj];refine DW.fin tok (by decide +kernel) rfl ?_;simp only[zz,upd,qb,reduceIte,yS,xD];apply hK
 refine y0 (L:=[(0,.op 0 0 0),(1,.int .i64 a1),(2,.int .i64 a2),(7,.op 4 0 0),(11,.op 6 0 0)]) (τ:=[.cells 0 [.int .i64 a0.fsize,.os true 2 1 (a0.vorder+1) 0 (qa (a0.forder++[(⟨a1,a2⟩:y1)])) false,.mp 2,.mp 3],.cells (a0.vorder+1) (qc zl (a0.forder++[(⟨a1,a2⟩:y1)])),.map (yq zs zK a0.freplies.l) (some (a0.freplies.bs,a0.freplies.ck)),.map (yq (AV.int .i64) (AV.int .i64) a0.flast.l) (some (a0.flast.bs,a0.flast.ck)),.cells 0 (zq a3),.cells 0 (zq r2.1),.cells 0 [.int .i64 a1,.int .i64 a2],.cells 0 [.int .i64 a1,.int .i64 a2]]) .s ?_
 have f8:=fun (o0:ZJ) (o1:ZJ) (x:ze)=>entry_B (T:=tab) (t:=205) (ek:=zs) (ev:=zK) (z:=(⟨0,0,0,0,0,[],0,[]⟩:xo)) KA268 rfl rfl rfl rfl a0.freplies (⟨a1,a2⟩:y1) (o0::o1::.map (yq zs zK a0.freplies.l) (some (a0.freplies.bs,a0.freplies.ck))::x) 2 rfl rfl
 simp only[vbk,zs,zl,zK,zq] at f8;obtain⟨w9,hw9,h⟩:=bind_some h
 have f10:=fun (o0:ZJ) (o1:ZJ) (x:ze)=>store_B (ek:=zs) (ev:=zK) hw9 (o0::o1::.map (yq zs zK (XW.ent (⟨0,0,0,0,0,[],0,[]⟩:xo) a0.freplies (⟨a1,a2⟩:y1)).l) (some ((XW.ent (⟨0,0,0,0,0,[],0,[]⟩:xo) a0.freplies (⟨a1,a2⟩:y1)).bs,(XW.ent (⟨0,0,0,0,0,[],0,[]⟩:xo) a0.freplies (⟨a1,a2⟩:y1)).ck))::x) 2 rfl rfl .i64
 simp only[vbk,zK,zq] at f10
 have f11:=fun (o0:ZJ) (o1:ZJ) (o2:ZJ) (x:ze)=>entry_B (T:=tab) (t:=206) (ek:=(AV.int .i64)) (ev:=(AV.int .i64)) (z:=0) (vb4.int rfl rfl rfl rfl) rfl rfl rfl rfl a0.flast a1 (o0::o1::o2::.map (yq (AV.int .i64) (AV.int .i64) a0.flast.l) (some (a0.flast.bs,a0.flast.ck))::x) 3 rfl rfl
 simp only[vbk] at f11;obtain⟨w12,hw12,h⟩:=bind_some h
 have f13:=fun (o0:ZJ) (o1:ZJ) (o2:ZJ) (x:ze)=>store_B (ek:=(AV.int .i64)) (ev:=(AV.int .i64)) hw12 (o0::o1::o2::.map (yq (AV.int .i64) (AV.int .i64) (XW.ent 0 a0.flast a1).l) (some ((XW.ent 0 a0.flast a1).bs,(XW.ent 0 a0.flast a1).ck))::x) 3 rfl rfl .i64
 simp only[vbk] at f13
 refine rd [0,11] fun K hK=>?_
 refine DW.start (T:=tab) [.any,.any,.any,.at [],.at [],.any,.any,.any,.at [],.any,.own 1 [2],.any,.eff,.any,.eff,.eff,.any,.eff] [(1,[2])] ?_;refine DW.runN tok 8 ?_;simp only[go_sem,qd,qf,qb,qe,reduceCtorEq];refine DW.runN tok 8 ?_;simp only[go_sem,qd,qf,qb,qe,reduceCtorEq,f8,f10,f11];refine DW.runN tok 2 ?_;simp only[go_sem,qd,qf,qb,qe,reduceCtorEq,f13];refine DW.fin tok (by decide +kernel) rfl ?_;simp only[zz,upd,qb,reduceIte,yS,xD];apply hK
 refine zd fun Z14 hZ14=>?_
 obtain⟨y15,hy15,h⟩:=bind_some h;have f16:=E207.idxO hy15;have f17:=E207.rdO hy15
 refine rg tok [0,11,12] fun K hK=>?_
 simp only[go_sem,qd,qf,qb,qe,reduceCtorEq,zl,f16,f17];apply hK
 refine xC (fun L τ=>∃ (x18:Bool),L=[(0,.op 0 0 0),(12,.op 4 0 0),(71,.bool x18)]∧τ=([.cells 0 [.int .i64 a0.fsize,.os true 2 1 (a0.vorder+1) 0 (qa (a0.forder++[(⟨a1,a2⟩:y1)])) false,.mp 2,.mp 3],.cells (a0.vorder+1) (qc zl (a0.forder++[(⟨a1,a2⟩:y1)])),.map (yq zs zK w9.l) (some (w9.bs,w9.ck)),.map (yq (AV.int .i64) (AV.int .i64) w12.l) (some (w12.bs,w12.ck)),.cells 0 [.int .i64 y15.ffrom,.int .i64 y15.fid]]:ze)∧wq.j19 a0 a1 a2 w9 w12 x18=some r) ?_ ?_
 · refine rdE [0,12,71] fun K hK=>?_
   refine DW.start (T:=tab) [.any,.any,.any,.at [],.at [],.any,.any,.any,.at [],.any,.any,.at [],.at [],.any,.any] [] ?_;refine DW.runN tok 8 ?_;simp only[go_sem,qd,qb,qe,reduceCtorEq];refine DW.runN tok 3 ?_;simp only[go_sem,qd,qb,qe,reduceCtorEq]
   refine DW.if 67 rfl (fun hg67=>?_) (fun hg67=>?_)
   · rw[if_pos hg67] at h;have t22:=eq_true hg67;refine DW.runN tok 4 ?_;simp only[go_sem,qd,qf,qb,qe,reduceCtorEq,t22,evEqA,Xz,ceq];refine DW.fin tok (by decide +kernel) rfl ?_;simp only[zz,upd,qb,reduceIte,yS,xD];apply hK
     exact⟨_,_,⟨!(decide (y15.ffrom=a1)&&decide (y15.fid=a2)),rfl,rfl,h⟩,(.t [0,1,2,3,8] false)⟩
   rw[if_neg hg67] at h;have t23:=eq_false hg67;refine DW.runN tok 4 ?_;simp only[go_sem,qd,qb,reduceCtorEq,t23];refine DW.fin tok (by decide +kernel) rfl ?_;simp only[zz,upd,qb,reduceIte,yS,xD];apply hK
   exact⟨_,_,⟨false,rfl,rfl,h⟩,(.t [0,1,2,3,8] false)⟩
 rintro _ _ ⟨x18,rfl,rfl,h⟩;unfold wq.j19 at h;refine zT (b:=x18) rfl (fun hc20=>?_) (fun hc20=>?_)
 · rw[if_pos hc20] at h
   have f21:=fun (o0:ZJ) (o1:ZJ) (x:ze)=>delete_B (T:=tab) (t:=205) (ek:=zs) (ev:=zK) KA268 rfl rfl w9 y15 (o0::o1::.map (yq zs zK w9.l) (some (w9.bs,w9.ck))::x) 2 rfl rfl rfl
   simp only[vbk,zs,zl] at f21
   refine rd [0] fun K hK=>?_
   refine DW.start (T:=tab) [.any,.any,.any,.at [],.at [],.eff] [] ?_;refine DW.runN tok 6 ?_;simp only[go_sem,qd,qf,qb,qe,reduceCtorEq,f21];refine DW.fin tok (by decide +kernel) rfl ?_;simp only[zz,upd,qb,reduceIte,yS,xD];apply hK
   cases h
 rw[wO hc20] at h;apply zj;apply hZ14;refine rgN [8] ?_;apply zY;cases h;simp only[w7,yy,yI,xq,exists_eq_left',go_sem,qe];refine⟨by decide,by simp,?_,?_⟩
 · first|rfl|(simp only[go_sem,qd,qf,qb,qe,qi,ql,reduceIte,reduceCtorEq,push_cast,if_true,qw,qj,qn,qk,qz,qo,qH,qC,qs,qr,qp,zt,zl]<;>rfl)
 first|rfl|(simp only[go_sem,qb,qe,reduceCtorEq,push_cast,if_true,qj,qn,qk,zt]<;>rfl)
def xp.j24 (a0:yW)(a1:xo)(r10:Ye×Int)(x22:Int)(x23:List UInt8):Option (xo×yW):=
 (wq a0.fcache a1.fFrom a1.fID (⟨4,a0.fself,a1.fFrom,a1.fID,a1.fVersion,a1.fMethod,x22,x23⟩:xo)).bind fun r26=>some ((⟨4,a0.fself,a1.fFrom,a1.fID,a1.fVersion,a1.fMethod,x22,x23⟩:xo),(⟨a0.fself,a0.fnumbers,a0.fschemas,a0.fnewest,a0.frows,r26.2,a0.feffects++[(⟨a1.fFrom,a1.fID,a1.fMethod,r10.1.fin⟩:yX)],a0.veffects+1⟩:yW))
def xp (a0:yW)(a1:xo):Option (xo×yW):=
 bnd (wQ a0.fcache a1.fFrom a1.fID) fun r1=>(if r1.2=2 then some (r1.1,a0) else (if r1.2=3 then some ((⟨4,a0.fself,a1.fFrom,a1.fID,a1.fVersion,a1.fMethod,20,[]⟩:xo),a0) else (wV a0 a1).bind fun r10=>(if r10.2=0 then (Xe a0.fschemas (IntKind.i64.wrap ((qa a0.fschemas:Int)-1))).bind fun y15=>(vac (qa a0.feffects+1) 112).bind fun _u18=>(xl y15 a0.fnewest a0.frows a1.fMethod r10.1.fin).bind fun r20=>(xn y15 r10.1.fschema r10.1.fown.fOut r10.1.ftheirs.fOut).bind fun r21=>(YG r21.1 r20).bind fun r27=>(if r27.2=0 then (Ys r27.1).bind fun r30=>(xp.j24 a0 a1 r10 r30.2 r30.1) else (xp.j24 a0 a1 r10 r27.2 ([]:List UInt8))) else some ((⟨4,a0.fself,a1.fFrom,a1.fID,a1.fVersion,a1.fMethod,r10.2,[]⟩:xo),a0))))
theorem xp.ok {a0 a1 r}(h:xp a0 a1=some r):ACalls qg 87 [.op 0 0 0,.agg (zq a1)] [.cells 0 [.int .i64 a0.fself,.ds true (qc wh a0.fnumbers) (qa a0.fnumbers) false,.ds true (qc za a0.fschemas) (qa a0.fschemas) false,.str a0.fnewest.fName,.ds true (qc zb a0.fnewest.fMessages) (qa a0.fnewest.fMessages) false,.ds true (qc zf a0.fnewest.fEnums) (qa a0.fnewest.fEnums) false,.ds true (qc zm a0.fnewest.fMethods) (qa a0.fnewest.fMethods) false,.ds true (qc yd a0.frows) (qa a0.frows) false,.op 1 0 0,.os true 8 5 (a0.veffects) 0 (qa a0.feffects) false],.cells 0 [.int .i64 a0.fcache.fsize,.os true 2 2 (a0.fcache.vorder) 0 (qa a0.fcache.forder) false,.mp 3,.mp 4],.cells (a0.fcache.vorder) (qc zl a0.fcache.forder),.map (yq zs zK a0.fcache.freplies.l) (some (a0.fcache.freplies.bs,a0.fcache.freplies.ck)),.map (yq (AV.int .i64) (AV.int .i64) a0.fcache.flast.l) (some (a0.fcache.flast.bs,a0.fcache.flast.ck)),.cells (a0.veffects) (qc zi a0.feffects)] (fun r' σ'=>r'=.agg (zq r.1)∧σ'=[.cells 0 [.int .i64 r.2.fself,.ds true (qc wh r.2.fnumbers) (qa r.2.fnumbers) false,.ds true (qc za r.2.fschemas) (qa r.2.fschemas) false,.str r.2.fnewest.fName,.ds true (qc zb r.2.fnewest.fMessages) (qa r.2.fnewest.fMessages) false,.ds true (qc zf r.2.fnewest.fEnums) (qa r.2.fnewest.fEnums) false,.ds true (qc zm r.2.fnewest.fMethods) (qa r.2.fnewest.fMethods) false,.ds true (qc yd r.2.frows) (qa r.2.frows) false,.op 1 0 0,.os true 8 5 (r.2.veffects) 0 (qa r.2.feffects) false],.cells 0 [.int .i64 r.2.fcache.fsize,.os true 2 2 (r.2.fcache.vorder) 0 (qa r.2.fcache.forder) false,.mp 3,.mp 4],.cells (r.2.fcache.vorder) (qc zl r.2.fcache.forder),.map (yq zs zK r.2.fcache.freplies.l) (some (r.2.fcache.freplies.bs,r.2.fcache.freplies.ck)),.map (yq (AV.int .i64) (AV.int .i64) r.2.fcache.flast.l) (some (r.2.fcache.flast.bs,r.2.fcache.flast.ck)),.cells (r.2.veffects) (qc zi r.2.feffects)]):=by
 refine w5 [0,1,2,3,4,5] (rs:=[.cell 4 43]) tok Tryz.func87 rfl Tryz.ntmps87 rfl Tryz.call87 (by simp) rfl ?_;refine zA [(0,.op 0 0 0),(1,.agg (zq a1))] ⟨rfl,rfl,trivial⟩ ?_;unfold xp at h
 refine rg tok [0,3,4] fun K hK=>?_
 simp only[go_sem,qd,qb,qe,reduceCtorEq,zq];apply hK
 obtain⟨r1,hr1,h⟩:=yg h
 refine rd [0,3,4,5,6] fun K hK=>?_
 refine DW.start (T:=tab) [.any,.any,.any,.at [],.any,.at [],.any,.at [],.eff,.any,.any,.any,.flt,.eff,.any] [] ?_;refine DW.runN tok 8 ?_;simp only[go_sem,qd,qb,qe,reduceCtorEq,zq];refine DW.callS rfl rfl rfl (@id (ACalls qg 132 [.op 1 0 0,.int .i64 a1.fFrom,.int .i64 a1.fID] [.cells 0 [.int .i64 a0.fself,.ds true (qc wh a0.fnumbers) (qa a0.fnumbers) false,.ds true (qc za a0.fschemas) (qa a0.fschemas) false,.str a0.fnewest.fName,.ds true (qc zb a0.fnewest.fMessages) (qa a0.fnewest.fMessages) false,.ds true (qc zf a0.fnewest.fEnums) (qa a0.fnewest.fEnums) false,.ds true (qc zm a0.fnewest.fMethods) (qa a0.fnewest.fMethods) false,.ds true (qc yd a0.frows) (qa a0.frows) false,.op 1 0 0,.os true 8 5 (a0.veffects) 0 (qa a0.feffects) false],.cells 0 [.int .i64 a0.fcache.fsize,.os true 2 2 (a0.fcache.vorder) 0 (qa a0.fcache.forder) false,.mp 3,.mp 4],.cells (a0.fcache.vorder) (qc zl a0.fcache.forder),.map (yq zs zK a0.fcache.freplies.l) (some (a0.fcache.freplies.bs,a0.fcache.freplies.ck)),.map (yq (AV.int .i64) (AV.int .i64) a0.fcache.flast.l) (some (a0.fcache.flast.bs,a0.fcache.flast.ck)),.cells (a0.veffects) (qc zi a0.feffects),.cells 0 (zq a1),.cells 0 [.int .i64 0,.int .i64 0,.int .i64 0,.int .i64 0,.int .i64 0,.str [],.int .i64 0,.str []]] (fun r' σ'=>r'=.tup [.agg (zq r1.1),.int .i64 r1.2]∧σ'=[.cells 0 [.int .i64 a0.fself,.ds true (qc wh a0.fnumbers) (qa a0.fnumbers) false,.ds true (qc za a0.fschemas) (qa a0.fschemas) false,.str a0.fnewest.fName,.ds true (qc zb a0.fnewest.fMessages) (qa a0.fnewest.fMessages) false,.ds true (qc zf a0.fnewest.fEnums) (qa a0.fnewest.fEnums) false,.ds true (qc zm a0.fnewest.fMethods) (qa a0.fnewest.fMethods) false,.ds true (qc yd a0.frows) (qa a0.frows) false,.op 1 0 0,.os true 8 5 (a0.veffects) 0 (qa a0.feffects) false],.cells 0 [.int .i64 a0.fcache.fsize,.os true 2 2 (a0.fcache.vorder) 0 (qa a0.fcache.forder) false,.mp 3,.mp 4],.cells (a0.fcache.vorder) (qc zl a0.fcache.forder),.map (yq zs zK a0.fcache.freplies.l) (some (a0.fcache.freplies.bs,a0.fcache.freplies.ck)),.map (yq (AV.int .i64) (AV.int .i64) a0.fcache.flast.l) (some (a0.fcache.flast.bs,a0.fcache.flast.ck)),.cells (a0.veffects) (qc zi a0.feffects),.cells 0 (zq a1),.cells 0 [.int .i64 0,.int .i64 0,.int .i64 0,.int .i64 0,.int .i64 0,.str [],.int .i64 0,.str []]])) ((wQ.ok hr1).ix [1,2,3,4])) (Xl (by simp only[go_sem])) ?_;refine DW.runN tok 6 ?_;simp only[go_sem,qd,qf,qb,qe,reduceCtorEq,zq];refine DW.fin tok (by decide +kernel) rfl ?_;simp only[zz,upd,qb,reduceIte,yS,xD];apply hK
 refine zd fun Z2 hZ2=>?_
 refine rgN [0,3,4,5,6,28] ?_;refine yf rfl (fun hc3=>?_) (fun hc3=>?_)
 · rw[if_pos hc3] at h;have t4:=eq_true hc3
   refine rg tok [4] fun K hK=>?_
   simp only[go_sem,qd,qf,qb,qe,reduceCtorEq,t4];apply hK
   apply zY;cases h;simp only[w7,yy,yI,xq,exists_eq_left',go_sem,qf,qe,zq];refine⟨by decide,by simp,?_,?_⟩
   · first|rfl|(simp only[go_sem,qd,qf,qb,qe,qi,ql,reduceIte,reduceCtorEq,push_cast,if_true,qw,qj,qn,qk,qz,qo,qH,qC,qs,qr,qp,zt,zg,zl,zq,za,zi,yi]<;>rfl)
   first|rfl|(simp only[go_sem,qb,qe,reduceCtorEq,push_cast,if_true,qj,qn,qk,qo,qs,qr,zt]<;>rfl)
 rw[if_neg hc3] at h;have t5:=eq_false hc3;apply zj;apply hZ2
 refine rd [0,3,4,6,7] fun K hK=>?_
 refine DW.start (T:=tab) [.any,.any,.any,.own 1 [],.any,.own 1 [],.any,.own 1 [],.any,.own 1 [],.any,.own 1 [],.any,.eff,.eff] [(1,[])] ?_;refine DW.runN tok 8 ?_;simp only[go_sem,qd,qb,qe,reduceCtorEq,zq,t5];refine DW.runN tok 7 ?_;simp only[go_sem,qd,qf,qb,qe,reduceCtorEq];refine DW.fin tok (by decide +kernel) rfl ?_;simp only[zz,upd,qb,reduceIte,yS,xD];apply hK
 refine zd fun Z6 hZ6=>?_
 refine rgN [0,3,4,7,44] ?_;refine yf rfl (fun hc7=>?_) (fun hc7=>?_)
 · rw[if_pos hc7] at h;have t8:=eq_true hc7
   refine rg tok [4,7] fun K hK=>?_
   simp only[go_sem,qd,qf,qb,qe,reduceCtorEq,t8];apply hK
   refine rgN [4] ?_;apply zY;cases h;simp only[w7,yy,yI,xq,exists_eq_left',go_sem,qf,qe,zq];refine⟨by decide,by simp,?_,?_⟩
   · first|rfl|(simp only[go_sem,qd,qf,qb,qe,qi,ql,reduceIte,reduceCtorEq,push_cast,if_true,qw,qj,qn,qk,qz,qo,qH,qC,qs,qr,qp,zt,zg,zl,zq,za,zi,yi]<;>rfl)
   first|rfl|(simp only[go_sem,qb,qe,reduceCtorEq,push_cast,if_true,qj,qn,qk,qo,qs,qr,zt]<;>rfl)
 rw[if_neg hc7] at h;have t9:=eq_false hc7;apply zj;apply hZ6
 refine rc [0,3,4,7,8,9] fun K hK=>?_
 obtain⟨r10,hr10,h⟩:=bind_some h;refine zw tok 2 ?_;simp only[go_sem,qd,qf,qb,qe,reduceCtorEq,zq,t9];refine clN rfl rfl rfl (@id (ACalls qg 133 [.op 0 0 0,.agg (zq a1)] [.cells 0 [.int .i64 a0.fself,.ds true (qc wh a0.fnumbers) (qa a0.fnumbers) false,.ds true (qc za a0.fschemas) (qa a0.fschemas) false,.str a0.fnewest.fName,.ds true (qc zb a0.fnewest.fMessages) (qa a0.fnewest.fMessages) false,.ds true (qc zf a0.fnewest.fEnums) (qa a0.fnewest.fEnums) false,.ds true (qc zm a0.fnewest.fMethods) (qa a0.fnewest.fMethods) false,.ds true (qc yd a0.frows) (qa a0.frows) false,.op 1 0 0,.os true 8 5 (a0.veffects) 0 (qa a0.feffects) false],.cells 0 [.int .i64 a0.fcache.fsize,.os true 2 2 (a0.fcache.vorder) 0 (qa a0.fcache.forder) false,.mp 3,.mp 4],.cells (a0.fcache.vorder) (qc zl a0.fcache.forder),.map (yq zs zK a0.fcache.freplies.l) (some (a0.fcache.freplies.bs,a0.fcache.freplies.ck)),.map (yq (AV.int .i64) (AV.int .i64) a0.fcache.flast.l) (some (a0.fcache.flast.bs,a0.fcache.flast.ck)),.cells (a0.veffects) (qc zi a0.feffects),.cells 0 (zq a1),.cells 0 [.int .i64 0,.int .i64 0,.int .i64 0,.int .i64 0,.int .i64 0,.str [],.int .i64 0,.str []],.cells 0 (zq r1.1),.cells 0 [.int .i64 4,.int .i64 a0.fself,.int .i64 a1.fFrom,.int .i64 a1.fID,.int .i64 a1.fVersion,.str a1.fMethod,.int .i64 0,.str []]] (fun r' σ'=>r'=.tup [.agg (yJ r10.1),.int .i64 r10.2]∧σ'=[.cells 0 [.int .i64 a0.fself,.ds true (qc wh a0.fnumbers) (qa a0.fnumbers) false,.ds true (qc za a0.fschemas) (qa a0.fschemas) false,.str a0.fnewest.fName,.ds true (qc zb a0.fnewest.fMessages) (qa a0.fnewest.fMessages) false,.ds true (qc zf a0.fnewest.fEnums) (qa a0.fnewest.fEnums) false,.ds true (qc zm a0.fnewest.fMethods) (qa a0.fnewest.fMethods) false,.ds true (qc yd a0.frows) (qa a0.frows) false,.op 1 0 0,.os true 8 5 (a0.veffects) 0 (qa a0.feffects) false],.cells 0 [.int .i64 a0.fcache.fsize,.os true 2 2 (a0.fcache.vorder) 0 (qa a0.fcache.forder) false,.mp 3,.mp 4],.cells (a0.fcache.vorder) (qc zl a0.fcache.forder),.map (yq zs zK a0.fcache.freplies.l) (some (a0.fcache.freplies.bs,a0.fcache.freplies.ck)),.map (yq (AV.int .i64) (AV.int .i64) a0.fcache.flast.l) (some (a0.fcache.flast.bs,a0.fcache.flast.ck)),.cells (a0.veffects) (qc zi a0.feffects),.cells 0 (zq a1),.cells 0 [.int .i64 0,.int .i64 0,.int .i64 0,.int .i64 0,.int .i64 0,.str [],.int .i64 0,.str []],.cells 0 (zq r1.1),.cells 0 [.int .i64 4,.int .i64 a0.fself,.int .i64 a1.fFrom,.int .i64 a1.fID,.int .i64 a1.fVersion,.str a1.fMethod,.int .i64 0,.str []]])) ((wV.ok hr10).ix [0,1,2,3,4,5])) ?_;refine zw tok 6 ?_;simp only[go_sem,qd,qf,qb,qe,reduceCtorEq,yJ];refine nkN hK ?_
 refine zd fun Z11 hZ11=>?_
 refine rgN [0,3,4,7,8,9,54] ?_;refine yf rfl (fun hc12=>?_) (fun hc12=>?_)
 · rw[if_neg hc12] at h;have t13:=eq_false hc12
   refine rg tok [4,7] fun K hK=>?_
   simp only[go_sem,qd,qf,qb,qe,reduceCtorEq,t13];apply hK
   refine rgN [4] ?_;apply zY;cases h;simp only[w7,yy,yI,xq,exists_eq_left',go_sem,qf,qe,zq];refine⟨by decide,by simp,?_,?_⟩
   · first|rfl|(simp only[go_sem,qd,qf,qb,qe,qi,ql,reduceIte,reduceCtorEq,push_cast,if_true,qw,qj,qn,qk,qz,qo,qH,qC,qs,qr,qp,zt,zg,zl,zq,za,zi,yi]<;>rfl)
   first|rfl|(simp only[go_sem,qb,qe,reduceCtorEq,push_cast,if_true,qj,qn,qk,qo,qs,qr,zt]<;>rfl)
 rw[if_pos hc12] at h;have t14:=eq_true hc12;apply zj;apply hZ11;obtain⟨y15,hy15,h⟩:=bind_some h;have f16:=E33.idxS hy15;have f17:=E33.loadS rfl rfl hy15
 refine rd [0,3,4,7,8,10] fun K hK=>?_
 refine DW.start (T:=tab) [.any,.any,.any,.own 1 [],.any,.any,.any,.own 1 [],.own 1 [],.any,.any,.own 1 [],.eff,.eff] [(1,[])] ?_;refine DW.runN tok 8 ?_;simp only[go_sem,qd,qb,qe,reduceCtorEq,t14];refine DW.runN tok 6 ?_;simp only[go_sem,qd,qf,qb,qe,reduceCtorEq,za,f16,f17];refine DW.fin tok (by decide +kernel) rfl ?_;simp only[zz,upd,qb,reduceIte,yS,xD];apply hK
 obtain⟨_u18,hu18,h⟩:=bind_some h;have gu18:=xb hu18;have f19:=(zU E92.len a0.feffects)
 refine rd [0,3,4,7,8,10] fun K hK=>?_
 refine DW.start (T:=tab) [.any,.any,.any,.any,.own 1 [],.any,.at [],.any,.at [],.any,.at [],.any,.at [],.any,.eff,.eff,.any,.any,.eff] [(1,[])] ?_;refine DW.runN tok 8 ?_;simp only[go_sem,qd,qb,qe,reduceCtorEq,qq,qu,qj];refine DW.runN tok 8 ?_;simp only[go_sem,qd,qf,qb,qe,qi,reduceCtorEq,zL,ym,qP,qJ,true_and,qW,yM,yl,yL,gu18,f19,xa,qV,qX,AV.one,qE,qK,qq,qu,qj,qL];refine DW.runN tok 3 ?_;simp only[go_sem,qd,qf,qb,qe,reduceCtorEq,qq,qu,qj];refine DW.fin tok (by decide +kernel) rfl ?_;simp only[zz,upd,qb,reduceIte,yS,xD];apply hK
 refine y0 (L:=[(0,.op 0 0 0),(3,.op 6 0 0),(4,.op 7 0 0),(7,.op 9 0 0),(8,.op 10 0 0),(10,.op 11 0 0)]) (τ:=[.cells 0 [.int .i64 a0.fself,.ds true (qc wh a0.fnumbers) (qa a0.fnumbers) false,.ds true (qc za a0.fschemas) (qa a0.fschemas) false,.str a0.fnewest.fName,.ds true (qc zb a0.fnewest.fMessages) (qa a0.fnewest.fMessages) false,.ds true (qc zf a0.fnewest.fEnums) (qa a0.fnewest.fEnums) false,.ds true (qc zm a0.fnewest.fMethods) (qa a0.fnewest.fMethods) false,.ds true (qc yd a0.frows) (qa a0.frows) false,.op 1 0 0,.os true 8 5 (a0.veffects+1) 0 (qa (a0.feffects++[(⟨a1.fFrom,a1.fID,a1.fMethod,r10.1.fin⟩:yX)])) false],.cells 0 [.int .i64 a0.fcache.fsize,.os true 2 2 (a0.fcache.vorder) 0 (qa a0.fcache.forder) false,.mp 3,.mp 4],.cells (a0.fcache.vorder) (qc zl a0.fcache.forder),.map (yq zs zK a0.fcache.freplies.l) (some (a0.fcache.freplies.bs,a0.fcache.freplies.ck)),.map (yq (AV.int .i64) (AV.int .i64) a0.fcache.flast.l) (some (a0.fcache.flast.bs,a0.fcache.flast.ck)),.cells (a0.veffects+1) (qc zi (a0.feffects++[(⟨a1.fFrom,a1.fID,a1.fMethod,r10.1.fin⟩:yX)])),.cells 0 (zq a1),.cells 0 [.int .i64 0,.int .i64 0,.int .i64 0,.int .i64 0,.int .i64 0,.str [],.int .i64 0,.str []],.cells 0 (zq r1.1),.cells 0 [.int .i64 4,.int .i64 a0.fself,.int .i64 a1.fFrom,.int .i64 a1.fID,.int .i64 a1.fVersion,.str a1.fMethod,.int .i64 0,.str []],.cells 0 (yJ r10.1),.cells 0 (za y15),.cells 0 [.int .i64 a1.fFrom,.int .i64 a1.fID,.str a1.fMethod,.int .i64 r10.1.fin.fKind,.int .i64 r10.1.fin.fN,.str r10.1.fin.fS,.ds true (qc zu r10.1.fin.fEntries) (qa r10.1.fin.fEntries) false,.ds true (qc zx r10.1.fin.fRest) (qa r10.1.fin.fRest) false]]) .s ?_;obtain⟨r20,hr20,h⟩:=bind_some h
 refine rd [0,3,4,7,8,10,11] fun K hK=>?_
 refine DW.start (T:=tab) [.at [],.any,.any,.any,.at [],.any,.any,.any,.at [],.any,.at [],.any,.at [],.eff,.flt,.eff] [] ?_;refine DW.runN tok 8 ?_;simp only[go_sem,qd,qf,qb,qe,reduceCtorEq];refine DW.runN tok 5 ?_;simp only[go_sem,qd,qf,qb,qe,reduceCtorEq];refine DW.call rfl rfl rfl ((xl.ok hr20).c _) ?_;refine DW.runN tok 2 ?_;simp only[go_sem,qd,qf,qb,qe,reduceCtorEq,zg];refine DW.fin tok (by decide +kernel) rfl ?_;simp only[zz,upd,qb,reduceIte,yS,xD];apply hK
 refine rc [0,3,4,7,11,12] fun K hK=>?_
 obtain⟨r21,hr21,h⟩:=bind_some h;refine rnN 9 ?_;refine clN rfl rfl rfl ((xn.ok hr21).c _) ?_;refine zw tok 6 ?_;simp only[go_sem,qd,qf,qb,qe,reduceCtorEq,zO];refine nkN hK ?_;refine rgN [0,3,4,7,11,12,14] ?_;refine xC (fun L τ=>∃ (x22:Int) (x23:List UInt8),L=[(0,.op 0 0 0),(3,.op 6 0 0),(4,.op 7 0 0),(7,.op 8 0 0),(9,.int .i64 x22),(14,.ds true (qc ZT x23) (qa x23) false)]∧τ=([.cells 0 [.int .i64 a0.fself,.ds true (qc wh a0.fnumbers) (qa a0.fnumbers) false,.ds true (qc za a0.fschemas) (qa a0.fschemas) false,.str a0.fnewest.fName,.ds true (qc zb a0.fnewest.fMessages) (qa a0.fnewest.fMessages) false,.ds true (qc zf a0.fnewest.fEnums) (qa a0.fnewest.fEnums) false,.ds true (qc zm a0.fnewest.fMethods) (qa a0.fnewest.fMethods) false,.ds true (qc yd a0.frows) (qa a0.frows) false,.op 1 0 0,.os true 8 5 (a0.veffects+1) 0 (qa (a0.feffects++[(⟨a1.fFrom,a1.fID,a1.fMethod,r10.1.fin⟩:yX)])) false],.cells 0 [.int .i64 a0.fcache.fsize,.os true 2 2 (a0.fcache.vorder) 0 (qa a0.fcache.forder) false,.mp 3,.mp 4],.cells (a0.fcache.vorder) (qc zl a0.fcache.forder),.map (yq zs zK a0.fcache.freplies.l) (some (a0.fcache.freplies.bs,a0.fcache.freplies.ck)),.map (yq (AV.int .i64) (AV.int .i64) a0.fcache.flast.l) (some (a0.fcache.flast.bs,a0.fcache.flast.ck)),.cells (a0.veffects+1) (qc zi (a0.feffects++[(⟨a1.fFrom,a1.fID,a1.fMethod,r10.1.fin⟩:yX)])),.cells 0 (zq a1),.cells 0 [.int .i64 0,.int .i64 0,.int .i64 0,.int .i64 0,.int .i64 0,.str [],.int .i64 0,.str []],.cells 0 [.int .i64 4,.int .i64 a0.fself,.int .i64 a1.fFrom,.int .i64 a1.fID,.int .i64 a1.fVersion,.str a1.fMethod,.int .i64 0,.str []]]:ze)∧xp.j24 a0 a1 r10 x22 x23=some r) ?_ ?_
 · refine rc [0,3,4,7,9,11,14] fun K hK=>?_
   obtain⟨r27,hr27,h⟩:=bind_some h;refine rnN 2 ?_;refine clN rfl rfl rfl ((YG.ok hr27).c _) ?_;refine zw tok 5 ?_;simp only[go_sem,qd,qf,qb,qe,reduceCtorEq,zg];refine nkN hK ?_;refine rgN [0,3,4,7,9,11,14,122] ?_;refine yf rfl (fun hc28=>?_) (fun hc28=>?_)
   · rw[if_pos hc28] at h;have t29:=eq_true hc28
     refine rcE [0,3,4,7,9,14] fun K hK=>?_
     obtain⟨r30,hr30,h⟩:=bind_some h;refine zw tok 1 ?_;simp only[go_sem,qd,qf,qb,qe,reduceCtorEq,t29];refine clN rfl rfl rfl ((Ys.ok hr30).c _) ?_;refine rnN 5 ?_;refine nkN hK ?_;exact⟨_,_,⟨r30.2,r30.1,rfl,rfl,h⟩,(.t [0,1,2,3,4,5,6,7,9] false)⟩
   rw[if_neg hc28] at h;have t31:=eq_false hc28;apply zj;exact⟨_,_,⟨r27.2,([]:List UInt8),rfl,rfl,h⟩,(.t [0,1,2,3,4,5,6,7,9] true)⟩
 rintro _ _ ⟨x22,x23,rfl,rfl,h⟩;unfold xp.j24 at h;have f25:=conv_b2s (T:=tab) (src:=48) (dst:=9) rfl rfl rfl rfl rfl rfl x23
 refine rd [0,3,4,7] fun K hK=>?_
 refine DW.start (T:=tab) [.any,.any,.own 1 [8],.any,.eff,.any,.eff] [(1,[8])] ?_;refine DW.runN tok 7 ?_;simp only[go_sem,qd,qf,qb,qe,reduceCtorEq,zq,f25];refine DW.fin tok (by decide +kernel) rfl ?_;simp only[zz,upd,qb,reduceIte,yS,xD];apply hK
 obtain⟨r26,hr26,h⟩:=bind_some h
 refine rd [4,7] fun K hK=>?_
 refine DW.start (T:=tab) [.any,.any,.any,.at [],.any,.at [],.any,.at [],.at [],.eff] [] ?_;refine DW.runN tok 8 ?_;simp only[go_sem,qd,qb,qe,reduceCtorEq,zq];refine DW.runN tok 1 ?_;simp only[go_sem,qd,qf,qb,qe,reduceCtorEq];refine DW.callS rfl rfl rfl (@id (ACalls qg 134 [.op 1 0 0,.int .i64 a1.fFrom,.int .i64 a1.fID,.agg [.int .i64 4,.int .i64 a0.fself,.int .i64 a1.fFrom,.int .i64 a1.fID,.int .i64 a1.fVersion,.str a1.fMethod,.int .i64 x22,.str x23]] [.cells 0 [.int .i64 a0.fself,.ds true (qc wh a0.fnumbers) (qa a0.fnumbers) false,.ds true (qc za a0.fschemas) (qa a0.fschemas) false,.str a0.fnewest.fName,.ds true (qc zb a0.fnewest.fMessages) (qa a0.fnewest.fMessages) false,.ds true (qc zf a0.fnewest.fEnums) (qa a0.fnewest.fEnums) false,.ds true (qc zm a0.fnewest.fMethods) (qa a0.fnewest.fMethods) false,.ds true (qc yd a0.frows) (qa a0.frows) false,.op 1 0 0,.os true 8 5 (a0.veffects+1) 0 (qa (a0.feffects++[(⟨a1.fFrom,a1.fID,a1.fMethod,r10.1.fin⟩:yX)])) false],.cells 0 [.int .i64 a0.fcache.fsize,.os true 2 2 (a0.fcache.vorder) 0 (qa a0.fcache.forder) false,.mp 3,.mp 4],.cells (a0.fcache.vorder) (qc zl a0.fcache.forder),.map (yq zs zK a0.fcache.freplies.l) (some (a0.fcache.freplies.bs,a0.fcache.freplies.ck)),.map (yq (AV.int .i64) (AV.int .i64) a0.fcache.flast.l) (some (a0.fcache.flast.bs,a0.fcache.flast.ck)),.cells (a0.veffects+1) (qc zi (a0.feffects++[(⟨a1.fFrom,a1.fID,a1.fMethod,r10.1.fin⟩:yX)])),.cells 0 (zq a1),.cells 0 [.int .i64 0,.int .i64 0,.int .i64 0,.int .i64 0,.int .i64 0,.str [],.int .i64 0,.str []],.cells 0 [.int .i64 4,.int .i64 a0.fself,.int .i64 a1.fFrom,.int .i64 a1.fID,.int .i64 a1.fVersion,.str a1.fMethod,.int .i64 x22,.str x23]] (fun r' σ'=>r'=.int .i64 r26.1∧σ'=[.cells 0 [.int .i64 a0.fself,.ds true (qc wh a0.fnumbers) (qa a0.fnumbers) false,.ds true (qc za a0.fschemas) (qa a0.fschemas) false,.str a0.fnewest.fName,.ds true (qc zb a0.fnewest.fMessages) (qa a0.fnewest.fMessages) false,.ds true (qc zf a0.fnewest.fEnums) (qa a0.fnewest.fEnums) false,.ds true (qc zm a0.fnewest.fMethods) (qa a0.fnewest.fMethods) false,.ds true (qc yd a0.frows) (qa a0.frows) false,.op 1 0 0,.os true 8 5 (a0.veffects+1) 0 (qa (a0.feffects++[(⟨a1.fFrom,a1.fID,a1.fMethod,r10.1.fin⟩:yX)])) false],.cells 0 [.int .i64 r26.2.fsize,.os true 2 2 (r26.2.vorder) 0 (qa r26.2.forder) false,.mp 3,.mp 4],.cells (r26.2.vorder) (qc zl r26.2.forder),.map (yq zs zK r26.2.freplies.l) (some (r26.2.freplies.bs,r26.2.freplies.ck)),.map (yq (AV.int .i64) (AV.int .i64) r26.2.flast.l) (some (r26.2.flast.bs,r26.2.flast.ck)),.cells (a0.veffects+1) (qc zi (a0.feffects++[(⟨a1.fFrom,a1.fID,a1.fMethod,r10.1.fin⟩:yX)])),.cells 0 (zq a1),.cells 0 [.int .i64 0,.int .i64 0,.int .i64 0,.int .i64 0,.int .i64 0,.str [],.int .i64 0,.str []],.cells 0 [.int .i64 4,.int .i64 a0.fself,.int .i64 a1.fFrom,.int .i64 a1.fID,.int .i64 a1.fVersion,.str a1.fMethod,.int .i64 x22,.str x23]])) ((wq.ok hr26).ix [1,2,3,4])) (Xl (by simp only[go_sem])) ?_;refine DW.fin tok (by decide +kernel) rfl ?_;simp only[zz,Y1,upd,qb,reduceIte,yS,xD];apply hK
 refine rgN [4] ?_;apply zY;cases h;simp only[w7,yy,yI,xq,exists_eq_left',go_sem,qf,qe,zq];refine⟨by decide,by simp,?_,?_⟩
 · first|rfl|(simp only[go_sem,qd,qf,qb,qe,qi,ql,reduceIte,reduceCtorEq,push_cast,if_true,qw,qj,qn,qk,qz,qo,qH,qC,qs,qr,qp,zt,zg,zl,zq,za,zi,yi]<;>rfl)
 first|rfl|(simp only[go_sem,qb,qe,reduceCtorEq,push_cast,if_true,qj,qn,qk,qo,qs,qr,zt]<;>rfl)
end
section
set_option maxRecDepth 4000
set_option maxHeartbeats 1000000
open AM
def xy (a0:yW)(a1:xo):Option (xo×Bool×yW):=
 (if a1.fTo=a0.fself then (if a1.fKind=1 then (xU a0 a1.fBody).bind fun r8=>some ((⟨2,a0.fself,a1.fFrom,a1.fID,r8,[],0,[]⟩:xo),true,a0) else (if a1.fKind=3 then (xp a0 a1).bind fun r12=>some (r12.1,true,r12.2) else some ((⟨0,0,0,0,0,[],0,[]⟩:xo),false,a0))) else some ((⟨0,0,0,0,0,[],0,[]⟩:xo),false,a0))
theorem xy.ok {a0 a1 r}(h:xy a0 a1=some r):ACalls qg 47 [.op 0 0 0,.agg (zq a1)] [.cells 0 [.int .i64 a0.fself,.ds true (qc wh a0.fnumbers) (qa a0.fnumbers) false,.ds true (qc za a0.fschemas) (qa a0.fschemas) false,.str a0.fnewest.fName,.ds true (qc zb a0.fnewest.fMessages) (qa a0.fnewest.fMessages) false,.ds true (qc zf a0.fnewest.fEnums) (qa a0.fnewest.fEnums) false,.ds true (qc zm a0.fnewest.fMethods) (qa a0.fnewest.fMethods) false,.ds true (qc yd a0.frows) (qa a0.frows) false,.op 1 0 0,.os true 8 5 (a0.veffects) 0 (qa a0.feffects) false],.cells 0 [.int .i64 a0.fcache.fsize,.os true 2 2 (a0.fcache.vorder) 0 (qa a0.fcache.forder) false,.mp 3,.mp 4],.cells (a0.fcache.vorder) (qc zl a0.fcache.forder),.map (yq zs zK a0.fcache.freplies.l) (some (a0.fcache.freplies.bs,a0.fcache.freplies.ck)),.map (yq (AV.int .i64) (AV.int .i64) a0.fcache.flast.l) (some (a0.fcache.flast.bs,a0.fcache.flast.ck)),.cells (a0.veffects) (qc zi a0.feffects)] (fun r' σ'=>r'=.tup [.agg (zq r.1),.bool r.2.1]∧σ'=[.cells 0 [.int .i64 r.2.2.fself,.ds true (qc wh r.2.2.fnumbers) (qa r.2.2.fnumbers) false,.ds true (qc za r.2.2.fschemas) (qa r.2.2.fschemas) false,.str r.2.2.fnewest.fName,.ds true (qc zb r.2.2.fnewest.fMessages) (qa r.2.2.fnewest.fMessages) false,.ds true (qc zf r.2.2.fnewest.fEnums) (qa r.2.2.fnewest.fEnums) false,.ds true (qc zm r.2.2.fnewest.fMethods) (qa r.2.2.fnewest.fMethods) false,.ds true (qc yd r.2.2.frows) (qa r.2.2.frows) false,.op 1 0 0,.os true 8 5 (r.2.2.veffects) 0 (qa r.2.2.feffects) false],.cells 0 [.int .i64 r.2.2.fcache.fsize,.os true 2 2 (r.2.2.fcache.vorder) 0 (qa r.2.2.fcache.forder) false,.mp 3,.mp 4],.cells (r.2.2.fcache.vorder) (qc zl r.2.2.fcache.forder),.map (yq zs zK r.2.2.fcache.freplies.l) (some (r.2.2.fcache.freplies.bs,r.2.2.fcache.freplies.ck)),.map (yq (AV.int .i64) (AV.int .i64) r.2.2.fcache.flast.l) (some (r.2.2.fcache.flast.bs,r.2.2.fcache.flast.ck)),.cells (r.2.2.veffects) (qc zi r.2.2.feffects)]):=by
 refine w5 [0,1,2,3,4,5] (rs:=[.cell 4 43,.tmp 5]) tok Tryz.func47 rfl Tryz.ntmps47 rfl Tryz.call47 (by simp) rfl ?_;refine zA [(0,.op 0 0 0),(1,.agg (zq a1))] ⟨rfl,rfl,trivial⟩ ?_;unfold xy at h
 refine rg tok [0,3,4] fun K hK=>?_
 simp only[go_sem,qd,qb,qe,reduceCtorEq,zq];apply hK
 refine zd fun Z1 hZ1=>?_
 refine rd [0,3,4,12] fun K hK=>?_
 refine DW.start (T:=tab) [.any,.at [],.any,.any,.any,.at [],.any] [] ?_;refine DW.runN tok 7 ?_;simp only[go_sem,qd,qb,qe,reduceCtorEq];refine DW.fin tok (by decide +kernel) rfl ?_;simp only[zz,upd,qb,reduceIte,yS,xD];apply hK
 refine yf rfl (fun hc2=>?_) (fun hc2=>?_)
 · rw[if_neg hc2] at h;have t3:=eq_false hc2
   refine rg tok [4,5] fun K hK=>?_
   simp only[go_sem,qd,qf,qb,qe,reduceCtorEq,t3];apply hK
   apply zY;cases h;simp only[w7,yy,yI,xq,exists_eq_left',go_sem,qf,qb,qe,zq];refine⟨by decide,by simp,?_,?_⟩
   · first|rfl|(simp only[go_sem,qd,qf,qb,qe,qi,ql,reduceIte,reduceCtorEq,push_cast,if_true,qw,qj,qn,qk,qz,qo,qH,qC,qs,qr,qp,zt,zg,zl,zq,za,zi,yi]<;>rfl)
   first|rfl|(simp only[go_sem,qb,qe,reduceCtorEq,push_cast,if_true,qj,qn,qk,qo,qs,qr,zt]<;>rfl)
 rw[if_pos hc2] at h;have t4:=eq_true hc2;apply zj;apply hZ1
 refine zd fun Z5 hZ5=>?_
 refine rg tok [0,3,4,15] fun K hK=>?_
 simp only[go_sem,qd,qb,qe,reduceCtorEq,t4];apply hK
 apply zn;refine rgN [0,3,4,15,16] ?_;refine yf rfl (fun hc6=>?_) (fun hc6=>?_)
 · rw[if_pos hc6] at h;have t7:=eq_true hc6;obtain⟨r8,hr8,h⟩:=bind_some h
   refine rd [4,5] fun K hK=>?_
   refine DW.start (T:=tab) [.any,.any,.any,.own 1 [],.any,.own 1 [],.any,.own 1 [],.any,.any,.at [],.eff,.any,.eff,.any] [(1,[])] ?_;refine DW.runN tok 8 ?_;simp only[go_sem,qd,qb,qe,reduceCtorEq,zq,t7];refine DW.runN tok 3 ?_;simp only[go_sem,qd,qb,qe,reduceCtorEq];refine DW.callS rfl rfl rfl (@id (ACalls qg 86 [.op 0 0 0,.str a1.fBody] [.cells 0 [.int .i64 a0.fself,.ds true (qc wh a0.fnumbers) (qa a0.fnumbers) false,.ds true (qc za a0.fschemas) (qa a0.fschemas) false,.str a0.fnewest.fName,.ds true (qc zb a0.fnewest.fMessages) (qa a0.fnewest.fMessages) false,.ds true (qc zf a0.fnewest.fEnums) (qa a0.fnewest.fEnums) false,.ds true (qc zm a0.fnewest.fMethods) (qa a0.fnewest.fMethods) false,.ds true (qc yd a0.frows) (qa a0.frows) false,.op 1 0 0,.os true 8 5 (a0.veffects) 0 (qa a0.feffects) false],.cells 0 [.int .i64 a0.fcache.fsize,.os true 2 2 (a0.fcache.vorder) 0 (qa a0.fcache.forder) false,.mp 3,.mp 4],.cells (a0.fcache.vorder) (qc zl a0.fcache.forder),.map (yq zs zK a0.fcache.freplies.l) (some (a0.fcache.freplies.bs,a0.fcache.freplies.ck)),.map (yq (AV.int .i64) (AV.int .i64) a0.fcache.flast.l) (some (a0.fcache.flast.bs,a0.fcache.flast.ck)),.cells (a0.veffects) (qc zi a0.feffects),.cells 0 (zq a1),.cells 0 [.int .i64 0,.int .i64 0,.int .i64 0,.int .i64 0,.int .i64 0,.str [],.int .i64 0,.str []]] (fun r' σ'=>r'=.int .i64 r8∧σ'=[.cells 0 [.int .i64 a0.fself,.ds true (qc wh a0.fnumbers) (qa a0.fnumbers) false,.ds true (qc za a0.fschemas) (qa a0.fschemas) false,.str a0.fnewest.fName,.ds true (qc zb a0.fnewest.fMessages) (qa a0.fnewest.fMessages) false,.ds true (qc zf a0.fnewest.fEnums) (qa a0.fnewest.fEnums) false,.ds true (qc zm a0.fnewest.fMethods) (qa a0.fnewest.fMethods) false,.ds true (qc yd a0.frows) (qa a0.frows) false,.op 1 0 0,.os true 8 5 (a0.veffects) 0 (qa a0.feffects) false],.cells 0 [.int .i64 a0.fcache.fsize,.os true 2 2 (a0.fcache.vorder) 0 (qa a0.fcache.forder) false,.mp 3,.mp 4],.cells (a0.fcache.vorder) (qc zl a0.fcache.forder),.map (yq zs zK a0.fcache.freplies.l) (some (a0.fcache.freplies.bs,a0.fcache.freplies.ck)),.map (yq (AV.int .i64) (AV.int .i64) a0.fcache.flast.l) (some (a0.fcache.flast.bs,a0.fcache.flast.ck)),.cells (a0.veffects) (qc zi a0.feffects),.cells 0 (zq a1),.cells 0 [.int .i64 0,.int .i64 0,.int .i64 0,.int .i64 0,.int .i64 0,.str [],.int .i64 0,.str []]])) ((xU.ok a0 a1.fBody r8 hr8).ix [0,1,2,3,4,5])) (Xl (by simp only[go_sem,qf])) ?_;refine DW.runN tok 3 ?_;simp only[go_sem,qd,qf,qb,qe,reduceCtorEq];refine DW.fin tok (by decide +kernel) rfl ?_;simp only[zz,upd,qb,reduceIte,yS,xD];apply hK
   apply zY;cases h;simp only[w7,yy,yI,xq,exists_eq_left',go_sem,qf,qb,qe,zq];refine⟨by decide,by simp,?_,?_⟩
   · first|rfl|(simp only[go_sem,qd,qf,qb,qe,qi,ql,reduceIte,reduceCtorEq,push_cast,if_true,qw,qj,qn,qk,qz,qo,qH,qC,qs,qr,qp,zt,zg,zl,zq,za,zi,yi]<;>rfl)
   first|rfl|(simp only[go_sem,qb,qe,reduceCtorEq,push_cast,if_true,qj,qn,qk,qo,qs,qr,zt]<;>rfl)
 rw[if_neg hc6] at h;have t9:=eq_false hc6
 refine rg tok [0,3,4,31] fun K hK=>?_
 simp only[go_sem,qd,qb,reduceCtorEq,t9];apply hK
 refine yf rfl (fun hc10=>?_) (fun hc10=>?_)
 · rw[if_pos hc10] at h;have t11:=eq_true hc10
   refine rc [4,5] fun K hK=>?_
   obtain⟨r12,hr12,h⟩:=bind_some h;refine zw tok 2 ?_;simp only[go_sem,qd,qf,qb,qe,reduceCtorEq,zq,t11];refine clN rfl rfl rfl (@id (ACalls qg 87 [.op 0 0 0,.agg (zq a1)] [.cells 0 [.int .i64 a0.fself,.ds true (qc wh a0.fnumbers) (qa a0.fnumbers) false,.ds true (qc za a0.fschemas) (qa a0.fschemas) false,.str a0.fnewest.fName,.ds true (qc zb a0.fnewest.fMessages) (qa a0.fnewest.fMessages) false,.ds true (qc zf a0.fnewest.fEnums) (qa a0.fnewest.fEnums) false,.ds true (qc zm a0.fnewest.fMethods) (qa a0.fnewest.fMethods) false,.ds true (qc yd a0.frows) (qa a0.frows) false,.op 1 0 0,.os true 8 5 (a0.veffects) 0 (qa a0.feffects) false],.cells 0 [.int .i64 a0.fcache.fsize,.os true 2 2 (a0.fcache.vorder) 0 (qa a0.fcache.forder) false,.mp 3,.mp 4],.cells (a0.fcache.vorder) (qc zl a0.fcache.forder),.map (yq zs zK a0.fcache.freplies.l) (some (a0.fcache.freplies.bs,a0.fcache.freplies.ck)),.map (yq (AV.int .i64) (AV.int .i64) a0.fcache.flast.l) (some (a0.fcache.flast.bs,a0.fcache.flast.ck)),.cells (a0.veffects) (qc zi a0.feffects),.cells 0 (zq a1),.cells 0 [.int .i64 0,.int .i64 0,.int .i64 0,.int .i64 0,.int .i64 0,.str [],.int .i64 0,.str []]] (fun r' σ'=>r'=.agg (zq r12.1)∧σ'=[.cells 0 [.int .i64 r12.2.fself,.ds true (qc wh r12.2.fnumbers) (qa r12.2.fnumbers) false,.ds true (qc za r12.2.fschemas) (qa r12.2.fschemas) false,.str r12.2.fnewest.fName,.ds true (qc zb r12.2.fnewest.fMessages) (qa r12.2.fnewest.fMessages) false,.ds true (qc zf r12.2.fnewest.fEnums) (qa r12.2.fnewest.fEnums) false,.ds true (qc zm r12.2.fnewest.fMethods) (qa r12.2.fnewest.fMethods) false,.ds true (qc yd r12.2.frows) (qa r12.2.frows) false,.op 1 0 0,.os true 8 5 (r12.2.veffects) 0 (qa r12.2.feffects) false],.cells 0 [.int .i64 r12.2.fcache.fsize,.os true 2 2 (r12.2.fcache.vorder) 0 (qa r12.2.fcache.forder) false,.mp 3,.mp 4],.cells (r12.2.fcache.vorder) (qc zl r12.2.fcache.forder),.map (yq zs zK r12.2.fcache.freplies.l) (some (r12.2.fcache.freplies.bs,r12.2.fcache.freplies.ck)),.map (yq (AV.int .i64) (AV.int .i64) r12.2.fcache.flast.l) (some (r12.2.fcache.flast.bs,r12.2.fcache.flast.ck)),.cells (r12.2.veffects) (qc zi r12.2.feffects),.cells 0 (zq a1),.cells 0 [.int .i64 0,.int .i64 0,.int .i64 0,.int .i64 0,.int .i64 0,.str [],.int .i64 0,.str []]])) ((xp.ok hr12).ix [0,1,2,3,4,5])) ?_;refine zw tok 2 ?_;simp only[go_sem,qd,qf,qb,qe,reduceCtorEq,zq];refine nkN hK ?_;apply zY;cases h;simp only[w7,yy,yI,xq,exists_eq_left',go_sem,qf,qb,qe,zq];refine⟨by decide,by simp,?_,?_⟩
   · first|rfl|(simp only[go_sem,qd,qf,qb,qe,qi,ql,reduceIte,reduceCtorEq,push_cast,if_true,qw,qj,qn,qk,qz,qo,qH,qC,qs,qr,qp,zt,zg,zl,zq,za,zi,yi]<;>rfl)
   first|rfl|(simp only[go_sem,qb,qe,reduceCtorEq,push_cast,if_true,qj,qn,qk,qo,qs,qr,zt]<;>rfl)
 rw[if_neg hc10] at h;have t13:=eq_false hc10;apply zj;apply hZ5
 refine rg tok [4,5] fun K hK=>?_
 simp only[go_sem,qd,qf,qb,qe,reduceCtorEq,t13];apply hK
 apply zY;cases h;simp only[w7,yy,yI,xq,exists_eq_left',go_sem,qf,qb,qe,zq];refine⟨by decide,by simp,?_,?_⟩
 · first|rfl|(simp only[go_sem,qd,qf,qb,qe,qi,ql,reduceIte,reduceCtorEq,push_cast,if_true,qw,qj,qn,qk,qz,qo,qH,qC,qs,qr,qp,zt,zg,zl,zq,za,zi,yi]<;>rfl)
 first|rfl|(simp only[go_sem,qb,qe,reduceCtorEq,push_cast,if_true,qj,qn,qk,qo,qs,qr,zt]<;>rfl)
def Zt (a0:List yX):Option (List yX):=(vac (qa a0) 112).bind fun _=>some a0
theorem Zt.lo (a0 r:List yX)(h:Zt a0=some r)(ver:Nat):ACalls qg 88 [.os true 8 0 ver 0 (qa a0) false] [.cells ver (qc zi a0)] (fun r' σ'=>r'=.ds true (qc zi r) (qa r) false∧σ'=[.cells ver (qc zi a0)]):=by
 obtain⟨_u,hu,h⟩:=bind_some h;have gu:=xb hu;cases h;have f2:=zU E92.len a0;have f3:=Xt zi a0
 have f1:∀ τ:ze,yz (.cells ver (qc zi a0)::τ) 8 (.os true 8 0 ver 0 (qa a0) false)=some (qa a0,qc zi a0):=fun τ=>by
  simp only[yz,ze.at_hd,if_true,qw,qj,← f2,qZ,qv]
 have fin:∀ σ id ver tt,ze.at σ id ver=some (qc zi a0)→Yp [0] id 0=none→tell σ [0] true 12 (.os true 8 id ver 0 (qa a0) tt)=.ds true (qc zi a0) (qa a0) false:=by
  intro σ id ver tt hs hk
  simp only[w8,hk,hs,qw,qj];rw[if_pos (by rw[f2]; exact qv _),← f2,qZ,zt]
 refine w5 [0] (rs:=[.tmp 2]) tok Tryz.func88 rfl Tryz.ntmps88 rfl Tryz.call88 (by simp) rfl ?_;refine zA [(0,.os true 8 0 ver 0 (qa a0) false)] ⟨rfl,trivial⟩ ?_;refine rgN [0] ?_
 refine zd fun Z1 hZ1=>?_
 refine rc [0,4] fun K hK=>?_
 refine rnN 1 ?_
 refine YD tok rfl rfl rfl rfl rfl rfl fun b hnil=>?_
 have hb:b=true→a0=[]:=fun hb=>by
  have:=hnil hb;simp only[yL,go_sem,reduceCtorEq] at this;exact qY this
 clear hnil
 refine nkN hK ?_;cases b
 · refine zF rfl ?_;apply zj;apply hZ1
   refine rg tok [2] fun K hK=>?_
   by_cases h0:qa a0=0
   · obtain rfl:=qY h0;simp only[go_sem,qd,qb,qe,reduceCtorEq,zL,ym,qJ,uC,yM,yl,yL,yz,ug,qu,um,qV,List.drop_nil,List.take_nil,uO,and_self];apply hK
     apply zY;simp only[w7,yy,yI,xq,exists_eq_left',go_sem,qe];refine⟨by decide,by simp,?_,?_⟩
     · first|rfl|(simp only[go_sem,qd,qf,qb,qe,qi,ql,reduceIte,reduceCtorEq,w8,wG,ZE,qk]<;>rfl)
     first|rfl|(simp only[go_sem,qd,qf,qb,qe,qi,ql,reduceIte,reduceCtorEq,Yf,vah,ZL,Yg,Yz,qk]<;>rfl)
   have h1:=eq_false h0;simp only[go_sem,qd,qb,qe,reduceCtorEq,zL,ym,qJ,uC,yM,yl,yL,f1,f3,h1,gu,xa,qk,qK,um];apply hK
   apply zY;simp only[w7,yy,yI,xq,exists_eq_left',go_sem,qe];refine⟨by decide,by simp,?_,?_⟩
   · exact fin _ _ _ _ (by simp only[ze.at_hd,ze.at_tl,if_true]) rfl
   first|rfl|(simp only[go_sem,Yf,ZL,Yg,zt,qk]<;>rfl)
 obtain rfl:=hb rfl;refine zJ rfl ?_;refine rgN [2] ?_;apply zY;simp only[w7,yy,yI,xq,exists_eq_left',go_sem];refine⟨by decide,by simp,?_,?_⟩
 · first|rfl|(simp only[go_sem,qd,qf,qb,qe,qi,ql,reduceIte,reduceCtorEq,Yy,qk,qo,qH,qr,qp,qC,qs]<;>rfl)
 first|rfl|(simp only[go_sem,qd,qf,qb,qe,qi,ql,reduceIte,reduceCtorEq,Yf,vah,ZL,Yg,Yz,zt,qk,ug]<;>rfl)
def xz (a0:yW):Option (List yX):=
 (Zt a0.feffects).bind fun r1=>some r1
theorem xz.ok {a0 r}(h:xz a0=some r):ACalls qg 48 [.op 0 0 0] [.cells 0 [.int .i64 a0.fself,.ds true (qc wh a0.fnumbers) (qa a0.fnumbers) false,.ds true (qc za a0.fschemas) (qa a0.fschemas) false,.str a0.fnewest.fName,.ds true (qc zb a0.fnewest.fMessages) (qa a0.fnewest.fMessages) false,.ds true (qc zf a0.fnewest.fEnums) (qa a0.fnewest.fEnums) false,.ds true (qc zm a0.fnewest.fMethods) (qa a0.fnewest.fMethods) false,.ds true (qc yd a0.frows) (qa a0.frows) false,.op 1 0 0,.os true 8 5 (a0.veffects) 0 (qa a0.feffects) false],.cells 0 [.int .i64 a0.fcache.fsize,.os true 2 2 (a0.fcache.vorder) 0 (qa a0.fcache.forder) false,.mp 3,.mp 4],.cells (a0.fcache.vorder) (qc zl a0.fcache.forder),.map (yq zs zK a0.fcache.freplies.l) (some (a0.fcache.freplies.bs,a0.fcache.freplies.ck)),.map (yq (AV.int .i64) (AV.int .i64) a0.fcache.flast.l) (some (a0.fcache.flast.bs,a0.fcache.flast.ck)),.cells (a0.veffects) (qc zi a0.feffects)] (fun r' σ'=>r'=.ds true (qc zi r) (qa r) false∧σ'=[.cells 0 [.int .i64 a0.fself,.ds true (qc wh a0.fnumbers) (qa a0.fnumbers) false,.ds true (qc za a0.fschemas) (qa a0.fschemas) false,.str a0.fnewest.fName,.ds true (qc zb a0.fnewest.fMessages) (qa a0.fnewest.fMessages) false,.ds true (qc zf a0.fnewest.fEnums) (qa a0.fnewest.fEnums) false,.ds true (qc zm a0.fnewest.fMethods) (qa a0.fnewest.fMethods) false,.ds true (qc yd a0.frows) (qa a0.frows) false,.op 1 0 0,.os true 8 5 (a0.veffects) 0 (qa a0.feffects) false],.cells 0 [.int .i64 a0.fcache.fsize,.os true 2 2 (a0.fcache.vorder) 0 (qa a0.fcache.forder) false,.mp 3,.mp 4],.cells (a0.fcache.vorder) (qc zl a0.fcache.forder),.map (yq zs zK a0.fcache.freplies.l) (some (a0.fcache.freplies.bs,a0.fcache.freplies.ck)),.map (yq (AV.int .i64) (AV.int .i64) a0.fcache.flast.l) (some (a0.fcache.flast.bs,a0.fcache.flast.ck)),.cells (a0.veffects) (qc zi a0.feffects)]):=by
 refine w5 [0,1,2,3,4,5] (rs:=[.tmp 2]) tok Tryz.func48 rfl Tryz.ntmps48 rfl Tryz.call48 (by simp) rfl ?_;refine zA [(0,.op 0 0 0)] ⟨rfl,trivial⟩ ?_;unfold xz at h;refine rgN [0] ?_
 refine rc [2] fun K hK=>?_
 obtain⟨r1,hr1,h⟩:=bind_some h;refine rnN 4 ?_;refine clN rfl rfl rfl (@id (ACalls qg 88 [.os true 8 5 (a0.veffects) 0 (qa a0.feffects) false] [.cells 0 [.int .i64 a0.fself,.ds true (qc wh a0.fnumbers) (qa a0.fnumbers) false,.ds true (qc za a0.fschemas) (qa a0.fschemas) false,.str a0.fnewest.fName,.ds true (qc zb a0.fnewest.fMessages) (qa a0.fnewest.fMessages) false,.ds true (qc zf a0.fnewest.fEnums) (qa a0.fnewest.fEnums) false,.ds true (qc zm a0.fnewest.fMethods) (qa a0.fnewest.fMethods) false,.ds true (qc yd a0.frows) (qa a0.frows) false,.op 1 0 0,.os true 8 5 (a0.veffects) 0 (qa a0.feffects) false],.cells 0 [.int .i64 a0.fcache.fsize,.os true 2 2 (a0.fcache.vorder) 0 (qa a0.fcache.forder) false,.mp 3,.mp 4],.cells (a0.fcache.vorder) (qc zl a0.fcache.forder),.map (yq zs zK a0.fcache.freplies.l) (some (a0.fcache.freplies.bs,a0.fcache.freplies.ck)),.map (yq (AV.int .i64) (AV.int .i64) a0.fcache.flast.l) (some (a0.fcache.flast.bs,a0.fcache.flast.ck)),.cells (a0.veffects) (qc zi a0.feffects)] (fun r' σ'=>r'=.ds true (qc zi r1) (qa r1) false∧σ'=[.cells 0 [.int .i64 a0.fself,.ds true (qc wh a0.fnumbers) (qa a0.fnumbers) false,.ds true (qc za a0.fschemas) (qa a0.fschemas) false,.str a0.fnewest.fName,.ds true (qc zb a0.fnewest.fMessages) (qa a0.fnewest.fMessages) false,.ds true (qc zf a0.fnewest.fEnums) (qa a0.fnewest.fEnums) false,.ds true (qc zm a0.fnewest.fMethods) (qa a0.fnewest.fMethods) false,.ds true (qc yd a0.frows) (qa a0.frows) false,.op 1 0 0,.os true 8 5 (a0.veffects) 0 (qa a0.feffects) false],.cells 0 [.int .i64 a0.fcache.fsize,.os true 2 2 (a0.fcache.vorder) 0 (qa a0.fcache.forder) false,.mp 3,.mp 4],.cells (a0.fcache.vorder) (qc zl a0.fcache.forder),.map (yq zs zK a0.fcache.freplies.l) (some (a0.fcache.freplies.bs,a0.fcache.freplies.ck)),.map (yq (AV.int .i64) (AV.int .i64) a0.fcache.flast.l) (some (a0.fcache.flast.bs,a0.fcache.flast.ck)),.cells (a0.veffects) (qc zi a0.feffects)])) ((Zt.lo a0.feffects r1 hr1 a0.veffects).i [5])) ?_;refine rnN 1 ?_;refine nkN hK ?_;apply zY;cases h;simp only[w7,yy,yI,xq,exists_eq_left',go_sem,qe];refine⟨by decide,by simp,?_,?_⟩
 · first|rfl|(simp only[go_sem,push_cast,qo,qs,qr,zt]<;>rfl)
 first|rfl|(simp only[go_sem,qb,qe,reduceCtorEq,push_cast,if_true,qj,qn,qk,qo,qs,qr,zt]<;>rfl)
def YF  : Option Bool:=
 bnd (ZB 1) fun r1=>bnd (ZB 1) fun r2=>bnd (YE 5) fun r3=>bnd (YE 7) fun r4=>(wU 0 [1] [r1] r2 [(⟨[99],r3,r4⟩:GRow)] 4).bind fun r5=>(match r5.1 with|.none=>(if ((!(decide (r5.2=0)))||true)=true then some false else none)|.some y6=>(if ((!(decide (r5.2=0)))||false)=true then some false else (xy y6 (⟨3,1,0,1,1,[99],0,[2,10]⟩:xo)).bind fun r15=>(xy r15.2.2 (⟨3,1,0,1,1,[99],0,[2,10]⟩:xo)).bind fun r16=>(if (((r15.2.1&&r16.2.1)&&(decide (r15.1.fKind=r16.1.fKind)&&(decide (r15.1.fFrom=r16.1.fFrom)&&(decide (r15.1.fTo=r16.1.fTo)&&(decide (r15.1.fID=r16.1.fID)&&(decide (r15.1.fVersion=r16.1.fVersion)&&(decide (r15.1.fMethod=r16.1.fMethod)&&(decide (r15.1.fErr=r16.1.fErr)&&decide (r15.1.fBody=r16.1.fBody)))))))))&&(decide (r15.1.fBody=[2,14])))=true then (xz r16.2.2).bind fun r17=>some (decide ((qa r17:Int)=1)) else some false).bind fun c17=>some c17))
theorem YF.ok  (r:Bool)(h:YF=some r):ACalls qg 41 [] [] (fun r' _=>r'=.bool r):=by
 refine zr (rs:=[.tmp 0]) tok Tryz.func41 rfl Tryz.ntmps41 rfl Tryz.call41 (by simp) ?_;refine zA [] trivial ?_;unfold YF at h;refine rgN [] ?_
 refine rc [1,2] fun K hK=>?_
 obtain⟨r1,hr1,h⟩:=yg h;refine zw tok 1 ?_;simp only[go_sem,qd,qf,qi,zL,ym,qP,qJ,true_and,qW];refine clN rfl rfl rfl ((ZB.ok hr1).c _) ?_;obtain⟨r2,hr2,h⟩:=yg h;refine zw tok 1 ?_;simp only[go_sem,qd,qf,qb,qe,qi,zL,ym,qP,qJ,true_and,qW,za];refine clN rfl rfl rfl ((ZB.ok hr2).c _) ?_;obtain⟨r3,hr3,h⟩:=yg h;refine clN rfl rfl rfl ((YE.ok hr3).c _) ?_;obtain⟨r4,hr4,h⟩:=yg h;refine clN rfl rfl rfl ((YE.ok hr4).c _) ?_;obtain⟨r5,hr5,h⟩:=bind_some h;refine zw tok 2 ?_;simp only[go_sem,qd,qf,qb,qe,qi,zL,ym,qP,qJ,true_and,qW,zg,za];refine var (L:=[(9,.ds true (qc wh [1]) (qa [1]) false),(11,.ds true (qc za [r1]) (qa [r1]) false),(12,.agg (za r2)),(16,.ds true (qc yd [(⟨[99],r3,r4⟩:GRow)]) (qa [(⟨[99],r3,r4⟩:GRow)]) false)]) (τ:=[]) (.t [] false) ?_;refine clN rfl rfl rfl (wU.at hr5 _) ?_;refine zw tok 5 ?_;simp only[go_sem,qd,qb,qe,yd,za];refine nkN hK ?_
 generalize hz6:r5.1=z6 at h ⊢
 rcases z6 with _|y6
 · try dsimp only at h
   simp only[vba,wj];refine awp_eqS (τ:=[]) (by first|rfl|(simp only[qn,qk,qT,qK,qL,renO_mapE,renO_cells,vaJ,AV.ren,vci,Y3,qe]<;>first|rfl|(and_intros<;>rfl))) ?_
   refine zd fun Z7 hZ7=>?_
   refine rc [1,25] fun K hK=>?_
   refine rnN 3 ?_;refine zG 3 (fun L τ=>L=[(1,.nilp),(25,.bool ((!(decide (r5.2=0)))||true))]∧τ=([]:ze)) ?_ ?_
   · refine xS 22 rfl (fun hg22=>?_) (fun hg22=>?_)
     · have t8:=eq_false hg22;refine rnN 3 ?_;refine zh ⟨rfl,_,_,⟨rfl,rfl⟩,.p t8⟩
     have t9:=eq_true hg22;refine zw tok 3 ?_;simp only[go_sem,qd,qb,evEq];refine zh ⟨rfl,_,_,⟨rfl,rfl⟩,.p t9⟩
   rintro _ _ ⟨rfl,rfl⟩;refine nkN hK ?_;refine zT (b:=((!(decide (r5.2=0)))||true)) rfl (fun hc10=>?_) (fun hc10=>?_)
   · rw[if_pos hc10] at h;refine rgN [0] ?_;cases h;exact rtA
   rw[wO hc10] at h;apply zj;apply hZ7;refine rgN [1,3] ?_;cases h
 try dsimp only at h
 simp only[va9,wj];refine awp_eqS (τ:=[.cells 0 [.int .i64 y6.fself,.ds true (qc wh y6.fnumbers) (qa y6.fnumbers) false,.ds true (qc za y6.fschemas) (qa y6.fschemas) false,.str y6.fnewest.fName,.ds true (qc zb y6.fnewest.fMessages) (qa y6.fnewest.fMessages) false,.ds true (qc zf y6.fnewest.fEnums) (qa y6.fnewest.fEnums) false,.ds true (qc zm y6.fnewest.fMethods) (qa y6.fnewest.fMethods) false,.ds true (qc yd y6.frows) (qa y6.frows) false,.op 1 0 0,.os true 8 5 (y6.veffects) 0 (qa y6.feffects) false],.cells 0 [.int .i64 y6.fcache.fsize,.os true 2 2 (y6.fcache.vorder) 0 (qa y6.fcache.forder) false,.mp 3,.mp 4],.cells (y6.fcache.vorder) (qc zl y6.fcache.forder),.map (yq zs zK y6.fcache.freplies.l) (some (y6.fcache.freplies.bs,y6.fcache.freplies.ck)),.map (yq (AV.int .i64) (AV.int .i64) y6.fcache.flast.l) (some (y6.fcache.flast.bs,y6.fcache.flast.ck)),.cells (y6.veffects) (qc zi y6.feffects)]) (by first|rfl|(simp only[qn,qk,renO_mapE,renO_cells,vaJ,AV.ren,Y3]<;>first|rfl|(and_intros<;>rfl))) ?_
 refine zd fun Z11 hZ11=>?_
 refine rc [1,25] fun K hK=>?_
 refine rnN 3 ?_;refine zG 3 (fun L τ=>L=[(1,.op 0 0 0),(25,.bool ((!(decide (r5.2=0)))||false))]∧τ=([.cells 0 [.int .i64 y6.fself,.ds true (qc wh y6.fnumbers) (qa y6.fnumbers) false,.ds true (qc za y6.fschemas) (qa y6.fschemas) false,.str y6.fnewest.fName,.ds true (qc zb y6.fnewest.fMessages) (qa y6.fnewest.fMessages) false,.ds true (qc zf y6.fnewest.fEnums) (qa y6.fnewest.fEnums) false,.ds true (qc zm y6.fnewest.fMethods) (qa y6.fnewest.fMethods) false,.ds true (qc yd y6.frows) (qa y6.frows) false,.op 1 0 0,.os true 8 5 (y6.veffects) 0 (qa y6.feffects) false],.cells 0 [.int .i64 y6.fcache.fsize,.os true 2 2 (y6.fcache.vorder) 0 (qa y6.fcache.forder) false,.mp 3,.mp 4],.cells (y6.fcache.vorder) (qc zl y6.fcache.forder),.map (yq zs zK y6.fcache.freplies.l) (some (y6.fcache.freplies.bs,y6.fcache.freplies.ck)),.map (yq (AV.int .i64) (AV.int .i64) y6.fcache.flast.l) (some (y6.fcache.flast.bs,y6.fcache.flast.ck)),.cells (y6.veffects) (qc zi y6.feffects)]:ze)) ?_ ?_
 · refine xS 22 rfl (fun hg22=>?_) (fun hg22=>?_)
   · have t12:=eq_false hg22;refine rnN 3 ?_;refine zh ⟨rfl,_,_,⟨rfl,rfl⟩,.p t12⟩
   have t13:=eq_true hg22;refine zw tok 3 ?_;simp only[go_sem,qd,qb,evEq];refine zh ⟨rfl,_,_,⟨rfl,rfl⟩,.p t13⟩
 rintro _ _ ⟨rfl,rfl⟩;refine nkN hK ?_;refine zT (b:=((!(decide (r5.2=0)))||false)) rfl (fun hc14=>?_) (fun hc14=>?_)
 · rw[if_pos hc14] at h;refine rgN [0] ?_;cases h;exact rtA
 rw[wO hc14] at h;apply zj;apply hZ11;refine rgN [1,3] ?_
 refine rc [1,3,4,5] fun K hK=>?_
 obtain⟨r15,hr15,h⟩:=bind_some h;refine rnN 2 ?_;refine clN rfl rfl rfl (@id (ACalls qg 47 [.op 0 0 0,.agg [.int .i64 3,.int .i64 1,.int .i64 0,.int .i64 1,.int .i64 1,.str [99],.int .i64 0,.str [2,10]]] [.cells 0 [.int .i64 y6.fself,.ds true (qc wh y6.fnumbers) (qa y6.fnumbers) false,.ds true (qc za y6.fschemas) (qa y6.fschemas) false,.str y6.fnewest.fName,.ds true (qc zb y6.fnewest.fMessages) (qa y6.fnewest.fMessages) false,.ds true (qc zf y6.fnewest.fEnums) (qa y6.fnewest.fEnums) false,.ds true (qc zm y6.fnewest.fMethods) (qa y6.fnewest.fMethods) false,.ds true (qc yd y6.frows) (qa y6.frows) false,.op 1 0 0,.os true 8 5 (y6.veffects) 0 (qa y6.feffects) false],.cells 0 [.int .i64 y6.fcache.fsize,.os true 2 2 (y6.fcache.vorder) 0 (qa y6.fcache.forder) false,.mp 3,.mp 4],.cells (y6.fcache.vorder) (qc zl y6.fcache.forder),.map (yq zs zK y6.fcache.freplies.l) (some (y6.fcache.freplies.bs,y6.fcache.freplies.ck)),.map (yq (AV.int .i64) (AV.int .i64) y6.fcache.flast.l) (some (y6.fcache.flast.bs,y6.fcache.flast.ck)),.cells (y6.veffects) (qc zi y6.feffects),.cells 0 [.int .i64 3,.int .i64 1,.int .i64 0,.int .i64 1,.int .i64 1,.str [99],.int .i64 0,.str [2,10]]] (fun r' σ'=>r'=.tup [.agg (zq r15.1),.bool r15.2.1]∧σ'=[.cells 0 [.int .i64 r15.2.2.fself,.ds true (qc wh r15.2.2.fnumbers) (qa r15.2.2.fnumbers) false,.ds true (qc za r15.2.2.fschemas) (qa r15.2.2.fschemas) false,.str r15.2.2.fnewest.fName,.ds true (qc zb r15.2.2.fnewest.fMessages) (qa r15.2.2.fnewest.fMessages) false,.ds true (qc zf r15.2.2.fnewest.fEnums) (qa r15.2.2.fnewest.fEnums) false,.ds true (qc zm r15.2.2.fnewest.fMethods) (qa r15.2.2.fnewest.fMethods) false,.ds true (qc yd r15.2.2.frows) (qa r15.2.2.frows) false,.op 1 0 0,.os true 8 5 (r15.2.2.veffects) 0 (qa r15.2.2.feffects) false],.cells 0 [.int .i64 r15.2.2.fcache.fsize,.os true 2 2 (r15.2.2.fcache.vorder) 0 (qa r15.2.2.fcache.forder) false,.mp 3,.mp 4],.cells (r15.2.2.fcache.vorder) (qc zl r15.2.2.fcache.forder),.map (yq zs zK r15.2.2.fcache.freplies.l) (some (r15.2.2.fcache.freplies.bs,r15.2.2.fcache.freplies.ck)),.map (yq (AV.int .i64) (AV.int .i64) r15.2.2.fcache.flast.l) (some (r15.2.2.fcache.flast.bs,r15.2.2.fcache.flast.ck)),.cells (r15.2.2.veffects) (qc zi r15.2.2.feffects),.cells 0 [.int .i64 3,.int .i64 1,.int .i64 0,.int .i64 1,.int .i64 1,.str [99],.int .i64 0,.str [2,10]]])) ((xy.ok hr15).ix [0,1,2,3,4,5])) ?_;refine zw tok 6 ?_;simp only[go_sem,qd,qf,qb,qe,zq];refine nkN hK ?_
 refine rc [1,4,5,6,7] fun K hK=>?_
 obtain⟨r16,hr16,h⟩:=bind_some h;refine rnN 2 ?_;refine clN rfl rfl rfl (@id (ACalls qg 47 [.op 0 0 0,.agg [.int .i64 3,.int .i64 1,.int .i64 0,.int .i64 1,.int .i64 1,.str [99],.int .i64 0,.str [2,10]]] [.cells 0 [.int .i64 r15.2.2.fself,.ds true (qc wh r15.2.2.fnumbers) (qa r15.2.2.fnumbers) false,.ds true (qc za r15.2.2.fschemas) (qa r15.2.2.fschemas) false,.str r15.2.2.fnewest.fName,.ds true (qc zb r15.2.2.fnewest.fMessages) (qa r15.2.2.fnewest.fMessages) false,.ds true (qc zf r15.2.2.fnewest.fEnums) (qa r15.2.2.fnewest.fEnums) false,.ds true (qc zm r15.2.2.fnewest.fMethods) (qa r15.2.2.fnewest.fMethods) false,.ds true (qc yd r15.2.2.frows) (qa r15.2.2.frows) false,.op 1 0 0,.os true 8 5 (r15.2.2.veffects) 0 (qa r15.2.2.feffects) false],.cells 0 [.int .i64 r15.2.2.fcache.fsize,.os true 2 2 (r15.2.2.fcache.vorder) 0 (qa r15.2.2.fcache.forder) false,.mp 3,.mp 4],.cells (r15.2.2.fcache.vorder) (qc zl r15.2.2.fcache.forder),.map (yq zs zK r15.2.2.fcache.freplies.l) (some (r15.2.2.fcache.freplies.bs,r15.2.2.fcache.freplies.ck)),.map (yq (AV.int .i64) (AV.int .i64) r15.2.2.fcache.flast.l) (some (r15.2.2.fcache.flast.bs,r15.2.2.fcache.flast.ck)),.cells (r15.2.2.veffects) (qc zi r15.2.2.feffects),.cells 0 [.int .i64 3,.int .i64 1,.int .i64 0,.int .i64 1,.int .i64 1,.str [99],.int .i64 0,.str [2,10]],.cells 0 (zq r15.1)] (fun r' σ'=>r'=.tup [.agg (zq r16.1),.bool r16.2.1]∧σ'=[.cells 0 [.int .i64 r16.2.2.fself,.ds true (qc wh r16.2.2.fnumbers) (qa r16.2.2.fnumbers) false,.ds true (qc za r16.2.2.fschemas) (qa r16.2.2.fschemas) false,.str r16.2.2.fnewest.fName,.ds true (qc zb r16.2.2.fnewest.fMessages) (qa r16.2.2.fnewest.fMessages) false,.ds true (qc zf r16.2.2.fnewest.fEnums) (qa r16.2.2.fnewest.fEnums) false,.ds true (qc zm r16.2.2.fnewest.fMethods) (qa r16.2.2.fnewest.fMethods) false,.ds true (qc yd r16.2.2.frows) (qa r16.2.2.frows) false,.op 1 0 0,.os true 8 5 (r16.2.2.veffects) 0 (qa r16.2.2.feffects) false],.cells 0 [.int .i64 r16.2.2.fcache.fsize,.os true 2 2 (r16.2.2.fcache.vorder) 0 (qa r16.2.2.fcache.forder) false,.mp 3,.mp 4],.cells (r16.2.2.fcache.vorder) (qc zl r16.2.2.fcache.forder),.map (yq zs zK r16.2.2.fcache.freplies.l) (some (r16.2.2.fcache.freplies.bs,r16.2.2.fcache.freplies.ck)),.map (yq (AV.int .i64) (AV.int .i64) r16.2.2.fcache.flast.l) (some (r16.2.2.fcache.flast.bs,r16.2.2.fcache.flast.ck)),.cells (r16.2.2.veffects) (qc zi r16.2.2.feffects),.cells 0 [.int .i64 3,.int .i64 1,.int .i64 0,.int .i64 1,.int .i64 1,.str [99],.int .i64 0,.str [2,10]],.cells 0 (zq r15.1)])) ((xy.ok hr16).ix [0,1,2,3,4,5])) ?_;refine zw tok 6 ?_;simp only[go_sem,qd,qf,qb,qe,zq];refine nkN hK ?_
 refine rc [0] fun K hK=>?_
 refine rnN 2 ?_;refine zG 2 (fun L τ=>L=[(1,.op 0 0 0),(4,.op 7 0 0),(6,.op 8 0 0),(42,.bool (r15.2.1&&r16.2.1))]∧τ=([.cells 0 [.int .i64 r16.2.2.fself,.ds true (qc wh r16.2.2.fnumbers) (qa r16.2.2.fnumbers) false,.ds true (qc za r16.2.2.fschemas) (qa r16.2.2.fschemas) false,.str r16.2.2.fnewest.fName,.ds true (qc zb r16.2.2.fnewest.fMessages) (qa r16.2.2.fnewest.fMessages) false,.ds true (qc zf r16.2.2.fnewest.fEnums) (qa r16.2.2.fnewest.fEnums) false,.ds true (qc zm r16.2.2.fnewest.fMethods) (qa r16.2.2.fnewest.fMethods) false,.ds true (qc yd r16.2.2.frows) (qa r16.2.2.frows) false,.op 1 0 0,.os true 8 5 (r16.2.2.veffects) 0 (qa r16.2.2.feffects) false],.cells 0 [.int .i64 r16.2.2.fcache.fsize,.os true 2 2 (r16.2.2.fcache.vorder) 0 (qa r16.2.2.fcache.forder) false,.mp 3,.mp 4],.cells (r16.2.2.fcache.vorder) (qc zl r16.2.2.fcache.forder),.map (yq zs zK r16.2.2.fcache.freplies.l) (some (r16.2.2.fcache.freplies.bs,r16.2.2.fcache.freplies.ck)),.map (yq (AV.int .i64) (AV.int .i64) r16.2.2.fcache.flast.l) (some (r16.2.2.fcache.flast.bs,r16.2.2.fcache.flast.ck)),.cells (r16.2.2.veffects) (qc zi r16.2.2.feffects),.cells 0 [.int .i64 3,.int .i64 1,.int .i64 0,.int .i64 1,.int .i64 1,.str [99],.int .i64 0,.str [2,10]],.cells 0 (zq r15.1),.cells 0 (zq r16.1)]:ze)) ?_ ?_
 · refine yv (b:=r15.2.1) 40 rfl (fun hg40=>?_) (fun hg40=>?_)
   · refine rnN 2 ?_;refine zh ⟨rfl,_,_,⟨rfl,rfl⟩,.b hg40⟩
   refine rnN 2 ?_;refine zh ⟨rfl,_,_,⟨rfl,rfl⟩,.b hg40⟩
 rintro _ _ ⟨rfl,rfl⟩;refine rnN 1 ?_;refine zG 4 (fun L τ=>L=[(1,.op 0 0 0),(4,.op 7 0 0),(47,.bool ((r15.2.1&&r16.2.1)&&(decide (r15.1.fKind=r16.1.fKind)&&(decide (r15.1.fFrom=r16.1.fFrom)&&(decide (r15.1.fTo=r16.1.fTo)&&(decide (r15.1.fID=r16.1.fID)&&(decide (r15.1.fVersion=r16.1.fVersion)&&(decide (r15.1.fMethod=r16.1.fMethod)&&(decide (r15.1.fErr=r16.1.fErr)&&decide (r15.1.fBody=r16.1.fBody))))))))))]∧τ=([.cells 0 [.int .i64 r16.2.2.fself,.ds true (qc wh r16.2.2.fnumbers) (qa r16.2.2.fnumbers) false,.ds true (qc za r16.2.2.fschemas) (qa r16.2.2.fschemas) false,.str r16.2.2.fnewest.fName,.ds true (qc zb r16.2.2.fnewest.fMessages) (qa r16.2.2.fnewest.fMessages) false,.ds true (qc zf r16.2.2.fnewest.fEnums) (qa r16.2.2.fnewest.fEnums) false,.ds true (qc zm r16.2.2.fnewest.fMethods) (qa r16.2.2.fnewest.fMethods) false,.ds true (qc yd r16.2.2.frows) (qa r16.2.2.frows) false,.op 1 0 0,.os true 8 5 (r16.2.2.veffects) 0 (qa r16.2.2.feffects) false],.cells 0 [.int .i64 r16.2.2.fcache.fsize,.os true 2 2 (r16.2.2.fcache.vorder) 0 (qa r16.2.2.fcache.forder) false,.mp 3,.mp 4],.cells (r16.2.2.fcache.vorder) (qc zl r16.2.2.fcache.forder),.map (yq zs zK r16.2.2.fcache.freplies.l) (some (r16.2.2.fcache.freplies.bs,r16.2.2.fcache.freplies.ck)),.map (yq (AV.int .i64) (AV.int .i64) r16.2.2.fcache.flast.l) (some (r16.2.2.fcache.flast.bs,r16.2.2.fcache.flast.ck)),.cells (r16.2.2.veffects) (qc zi r16.2.2.feffects),.cells 0 [.int .i64 3,.int .i64 1,.int .i64 0,.int .i64 1,.int .i64 1,.str [99],.int .i64 0,.str [2,10]],.cells 0 (zq r15.1),.cells 0 (zq r16.1)]:ze)) ?_ ?_
 · refine yv (b:=(r15.2.1&&r16.2.1)) 43 rfl (fun hg43=>?_) (fun hg43=>?_)
   · refine zw tok 4 ?_;simp only[go_sem,qd,qf,qb,qe,evEqA,Xz,ceq];refine zh ⟨rfl,_,_,⟨rfl,rfl⟩,.b hg43⟩
   refine rnN 4 ?_;refine zh ⟨rfl,_,_,⟨rfl,rfl⟩,.b hg43⟩
 rintro _ _ ⟨rfl,rfl⟩;refine rnN 1 ?_;refine zG 4 (fun L τ=>L=[(1,.op 0 0 0),(52,.bool (((r15.2.1&&r16.2.1)&&(decide (r15.1.fKind=r16.1.fKind)&&(decide (r15.1.fFrom=r16.1.fFrom)&&(decide (r15.1.fTo=r16.1.fTo)&&(decide (r15.1.fID=r16.1.fID)&&(decide (r15.1.fVersion=r16.1.fVersion)&&(decide (r15.1.fMethod=r16.1.fMethod)&&(decide (r15.1.fErr=r16.1.fErr)&&decide (r15.1.fBody=r16.1.fBody)))))))))&&(decide (r15.1.fBody=[2,14]))))]∧τ=([.cells 0 [.int .i64 r16.2.2.fself,.ds true (qc wh r16.2.2.fnumbers) (qa r16.2.2.fnumbers) false,.ds true (qc za r16.2.2.fschemas) (qa r16.2.2.fschemas) false,.str r16.2.2.fnewest.fName,.ds true (qc zb r16.2.2.fnewest.fMessages) (qa r16.2.2.fnewest.fMessages) false,.ds true (qc zf r16.2.2.fnewest.fEnums) (qa r16.2.2.fnewest.fEnums) false,.ds true (qc zm r16.2.2.fnewest.fMethods) (qa r16.2.2.fnewest.fMethods) false,.ds true (qc yd r16.2.2.frows) (qa r16.2.2.frows) false,.op 1 0 0,.os true 8 5 (r16.2.2.veffects) 0 (qa r16.2.2.feffects) false],.cells 0 [.int .i64 r16.2.2.fcache.fsize,.os true 2 2 (r16.2.2.fcache.vorder) 0 (qa r16.2.2.fcache.forder) false,.mp 3,.mp 4],.cells (r16.2.2.fcache.vorder) (qc zl r16.2.2.fcache.forder),.map (yq zs zK r16.2.2.fcache.freplies.l) (some (r16.2.2.fcache.freplies.bs,r16.2.2.fcache.freplies.ck)),.map (yq (AV.int .i64) (AV.int .i64) r16.2.2.fcache.flast.l) (some (r16.2.2.fcache.flast.bs,r16.2.2.fcache.flast.ck)),.cells (r16.2.2.veffects) (qc zi r16.2.2.feffects),.cells 0 [.int .i64 3,.int .i64 1,.int .i64 0,.int .i64 1,.int .i64 1,.str [99],.int .i64 0,.str [2,10]],.cells 0 (zq r15.1),.cells 0 (zq r16.1)]:ze)) ?_ ?_
 · refine yv (b:=((r15.2.1&&r16.2.1)&&(decide (r15.1.fKind=r16.1.fKind)&&(decide (r15.1.fFrom=r16.1.fFrom)&&(decide (r15.1.fTo=r16.1.fTo)&&(decide (r15.1.fID=r16.1.fID)&&(decide (r15.1.fVersion=r16.1.fVersion)&&(decide (r15.1.fMethod=r16.1.fMethod)&&(decide (r15.1.fErr=r16.1.fErr)&&decide (r15.1.fBody=r16.1.fBody)))))))))) 48 rfl (fun hg48=>?_) (fun hg48=>?_)
   · refine rnN 4 ?_;refine zh ⟨rfl,_,_,⟨rfl,rfl⟩,.b hg48⟩
   refine rnN 4 ?_;refine zh ⟨rfl,_,_,⟨rfl,rfl⟩,.b hg48⟩
 rintro _ _ ⟨rfl,rfl⟩;refine rnN 1 ?_;obtain⟨c17,hc17,h⟩:=bind_some h;refine zG 5 (fun L τ=>L=[(58,.bool c17)]∧τ=([.cells 0 [.int .i64 r16.2.2.fself,.ds true (qc wh r16.2.2.fnumbers) (qa r16.2.2.fnumbers) false,.ds true (qc za r16.2.2.fschemas) (qa r16.2.2.fschemas) false,.str r16.2.2.fnewest.fName,.ds true (qc zb r16.2.2.fnewest.fMessages) (qa r16.2.2.fnewest.fMessages) false,.ds true (qc zf r16.2.2.fnewest.fEnums) (qa r16.2.2.fnewest.fEnums) false,.ds true (qc zm r16.2.2.fnewest.fMethods) (qa r16.2.2.fnewest.fMethods) false,.ds true (qc yd r16.2.2.frows) (qa r16.2.2.frows) false,.op 1 0 0,.os true 8 5 (r16.2.2.veffects) 0 (qa r16.2.2.feffects) false],.cells 0 [.int .i64 r16.2.2.fcache.fsize,.os true 2 2 (r16.2.2.fcache.vorder) 0 (qa r16.2.2.fcache.forder) false,.mp 3,.mp 4],.cells (r16.2.2.fcache.vorder) (qc zl r16.2.2.fcache.forder),.map (yq zs zK r16.2.2.fcache.freplies.l) (some (r16.2.2.fcache.freplies.bs,r16.2.2.fcache.freplies.ck)),.map (yq (AV.int .i64) (AV.int .i64) r16.2.2.fcache.flast.l) (some (r16.2.2.fcache.flast.bs,r16.2.2.fcache.flast.ck)),.cells (r16.2.2.veffects) (qc zi r16.2.2.feffects),.cells 0 [.int .i64 3,.int .i64 1,.int .i64 0,.int .i64 1,.int .i64 1,.str [99],.int .i64 0,.str [2,10]],.cells 0 (zq r15.1),.cells 0 (zq r16.1)]:ze)) ?_ ?_
 · refine yv (b:=(((r15.2.1&&r16.2.1)&&(decide (r15.1.fKind=r16.1.fKind)&&(decide (r15.1.fFrom=r16.1.fFrom)&&(decide (r15.1.fTo=r16.1.fTo)&&(decide (r15.1.fID=r16.1.fID)&&(decide (r15.1.fVersion=r16.1.fVersion)&&(decide (r15.1.fMethod=r16.1.fMethod)&&(decide (r15.1.fErr=r16.1.fErr)&&decide (r15.1.fBody=r16.1.fBody)))))))))&&(decide (r15.1.fBody=[2,14])))) 53 rfl (fun hg53=>?_) (fun hg53=>?_)
   · rw[if_pos hg53] at hc17;obtain⟨r18,hr18,hc17⟩:=bind_some hc17;refine rnN 1 ?_;refine clN rfl rfl rfl (@id (ACalls qg 48 [.op 0 0 0] [.cells 0 [.int .i64 r16.2.2.fself,.ds true (qc wh r16.2.2.fnumbers) (qa r16.2.2.fnumbers) false,.ds true (qc za r16.2.2.fschemas) (qa r16.2.2.fschemas) false,.str r16.2.2.fnewest.fName,.ds true (qc zb r16.2.2.fnewest.fMessages) (qa r16.2.2.fnewest.fMessages) false,.ds true (qc zf r16.2.2.fnewest.fEnums) (qa r16.2.2.fnewest.fEnums) false,.ds true (qc zm r16.2.2.fnewest.fMethods) (qa r16.2.2.fnewest.fMethods) false,.ds true (qc yd r16.2.2.frows) (qa r16.2.2.frows) false,.op 1 0 0,.os true 8 5 (r16.2.2.veffects) 0 (qa r16.2.2.feffects) false],.cells 0 [.int .i64 r16.2.2.fcache.fsize,.os true 2 2 (r16.2.2.fcache.vorder) 0 (qa r16.2.2.fcache.forder) false,.mp 3,.mp 4],.cells (r16.2.2.fcache.vorder) (qc zl r16.2.2.fcache.forder),.map (yq zs zK r16.2.2.fcache.freplies.l) (some (r16.2.2.fcache.freplies.bs,r16.2.2.fcache.freplies.ck)),.map (yq (AV.int .i64) (AV.int .i64) r16.2.2.fcache.flast.l) (some (r16.2.2.fcache.flast.bs,r16.2.2.fcache.flast.ck)),.cells (r16.2.2.veffects) (qc zi r16.2.2.feffects),.cells 0 [.int .i64 3,.int .i64 1,.int .i64 0,.int .i64 1,.int .i64 1,.str [99],.int .i64 0,.str [2,10]],.cells 0 (zq r15.1),.cells 0 (zq r16.1)] (fun r' σ'=>r'=.ds true (qc zi r18) (qa r18) false∧σ'=[.cells 0 [.int .i64 r16.2.2.fself,.ds true (qc wh r16.2.2.fnumbers) (qa r16.2.2.fnumbers) false,.ds true (qc za r16.2.2.fschemas) (qa r16.2.2.fschemas) false,.str r16.2.2.fnewest.fName,.ds true (qc zb r16.2.2.fnewest.fMessages) (qa r16.2.2.fnewest.fMessages) false,.ds true (qc zf r16.2.2.fnewest.fEnums) (qa r16.2.2.fnewest.fEnums) false,.ds true (qc zm r16.2.2.fnewest.fMethods) (qa r16.2.2.fnewest.fMethods) false,.ds true (qc yd r16.2.2.frows) (qa r16.2.2.frows) false,.op 1 0 0,.os true 8 5 (r16.2.2.veffects) 0 (qa r16.2.2.feffects) false],.cells 0 [.int .i64 r16.2.2.fcache.fsize,.os true 2 2 (r16.2.2.fcache.vorder) 0 (qa r16.2.2.fcache.forder) false,.mp 3,.mp 4],.cells (r16.2.2.fcache.vorder) (qc zl r16.2.2.fcache.forder),.map (yq zs zK r16.2.2.fcache.freplies.l) (some (r16.2.2.fcache.freplies.bs,r16.2.2.fcache.freplies.ck)),.map (yq (AV.int .i64) (AV.int .i64) r16.2.2.fcache.flast.l) (some (r16.2.2.fcache.flast.bs,r16.2.2.fcache.flast.ck)),.cells (r16.2.2.veffects) (qc zi r16.2.2.feffects),.cells 0 [.int .i64 3,.int .i64 1,.int .i64 0,.int .i64 1,.int .i64 1,.str [99],.int .i64 0,.str [2,10]],.cells 0 (zq r15.1),.cells 0 (zq r16.1)])) ((xz.ok hr18).ix [0,1,2,3,4,5])) ?_;refine rnN 3 ?_;cases hc17;refine zh ⟨rfl,_,_,⟨rfl,rfl⟩,.b hg53⟩
   rw[wO hg53] at hc17;refine rnN 5 ?_;cases hc17;refine zh ⟨rfl,_,_,⟨rfl,rfl⟩,.b hg53⟩
 rintro _ _ ⟨rfl,rfl⟩;refine rnN 1 ?_;refine nkN hK ?_;cases h;exact rtA
end
section
set_option maxRecDepth 4000
set_option maxHeartbeats 1000000
open AM
def law24_ServerCommon.j20 (x6:Int)(rec12:List Int→List zD→Int→Option Bool)(l16:List Int)(l18:List zD):Option Bool:=
 (rec12 l16 l18 (IntKind.i64.wrap (x6+1)))
def law24_ServerCommon.j52 (x42:Int)(rec46:Int→List UInt8→Int→Option Bool)(x50:Int)(x51:List UInt8):Option Bool:=
 (rec46 x50 x51 (IntKind.i64.wrap (x42-1)))
def law24_ServerCommon.l46 (a0:Int)(a1:Int)(a2:Int):Nat→Int→List UInt8→Int→Option Bool
 |0,_,_,_=>none
 |k46+1,x40,x41,x42=>(if 1≤x42 then (grd (0≤IntKind.u64.wrap x42)).bind fun _u54=>(if IntKind.i64.wrap ((qO (qt 64 (ur a1 (2^(min (qA (IntKind.u64.wrap x42)) 64))) &&& qt 64 1):Nat):Int)=1 then (grd (qa x41+qa [ua (qA (IntKind.u8.wrap x42))]<9223372036854775808)).bind fun _u59=>(if x40=0 then (grd (0≤IntKind.u64.wrap x42)).bind fun _u61=>some ((decide (IntKind.i64.wrap ((qO (qt 64 (ur a0 (2^(min (qA (IntKind.u64.wrap x42)) 64))) &&& qt 64 1):Nat):Int)=1))||(decide (x42=5))) else some false).bind fun c60=>(if c60=true then (law24_ServerCommon.j52 x42 (law24_ServerCommon.l46 a0 a1 a2 k46) x42 (x41++[ua (qA (IntKind.u8.wrap x42))])) else (law24_ServerCommon.j52 x42 (law24_ServerCommon.l46 a0 a1 a2 k46) x40 (x41++[ua (qA (IntKind.u8.wrap x42))]))) else (law24_ServerCommon.j52 x42 (law24_ServerCommon.l46 a0 a1 a2 k46) x40 x41)) else (wz a2 1000).bind fun r70=>none)
def law24_ServerCommon.j88 (x78:Int)(rec82:Int→List UInt8→Int→Option Bool)(x86:Int)(x87:List UInt8):Option Bool:=
 (rec82 x86 x87 (IntKind.i64.wrap (x78-1)))
def law24_ServerCommon.l82 (a0:Int)(a1:Int)(a2:Int)(y34:yW):Nat→Int→List UInt8→Int→Option Bool
 |0,_,_,_=>none
 |k82+1,x76,x77,x78=>(if 1≤x78 then (grd (0≤IntKind.u64.wrap x78)).bind fun _u90=>(if IntKind.i64.wrap ((qO (qt 64 (ur a1 (2^(min (qA (IntKind.u64.wrap x78)) 64))) &&& qt 64 1):Nat):Int)=1 then (grd (qa x77+qa [ua (qA (IntKind.u8.wrap x78))]<9223372036854775808)).bind fun _u95=>(if x76=0 then (grd (0≤IntKind.u64.wrap x78)).bind fun _u97=>some ((decide (IntKind.i64.wrap ((qO (qt 64 (ur a0 (2^(min (qA (IntKind.u64.wrap x78)) 64))) &&& qt 64 1):Nat):Int)=1))||(decide (x78=5))) else some false).bind fun c96=>(if c96=true then (law24_ServerCommon.j88 x78 (law24_ServerCommon.l82 a0 a1 a2 y34 k82) x78 (x77++[ua (qA (IntKind.u8.wrap x78))])) else (law24_ServerCommon.j88 x78 (law24_ServerCommon.l82 a0 a1 a2 y34 k82) x76 (x77++[ua (qA (IntKind.u8.wrap x78))]))) else (law24_ServerCommon.j88 x78 (law24_ServerCommon.l82 a0 a1 a2 y34 k82) x76 x77)) else (wz a2 1000).bind fun r106=>(xy y34 (⟨1,2,7,r106,0,[],0,x77⟩:xo)).bind fun r107=>(if (r107.2.1&&(decide (r107.1.fKind=2)&&(decide (r107.1.fFrom=7)&&(decide (r107.1.fTo=2)&&(decide (r107.1.fID=r106)&&(decide (r107.1.fVersion=x76)&&(decide (r107.1.fMethod=[])&&(decide (r107.1.fErr=0)&&decide (r107.1.fBody=[])))))))))=true then (xz r107.2.2).bind fun r108=>some (decide ((qa r108:Int)=0)) else some false).bind fun c108=>(if c108=true then (YF).bind fun r110=>some r110 else some false).bind fun c110=>some c110)
def law24_ServerCommon.l12 (a0:Int)(a1:Int)(a2:Int):Nat→List Int→List zD→Int→Option Bool
 |0,_,_,_=>none
 |k12+1,l2,l4,x6=>(if x6≤12 then (grd (0≤IntKind.u64.wrap x6)).bind fun _u22=>(if ((decide (IntKind.i64.wrap ((qO (qt 64 (ur a0 (2^(min (qA (IntKind.u64.wrap x6)) 64))) &&& qt 64 1):Nat):Int)=1))||(decide (x6=5)))=true then (vac (qa l2+1) 8).bind fun _u26=>bnd (ZB 1) fun r28=>(vac (qa l4+1) 88).bind fun _u29=>(law24_ServerCommon.j20 x6 (law24_ServerCommon.l12 a0 a1 a2 k12) (l2++[x6]) (l4++[r28])) else (law24_ServerCommon.j20 x6 (law24_ServerCommon.l12 a0 a1 a2 k12) l2 l4)) else bnd (ZB 1) fun r32=>(wU 7 l2 l4 r32 ([]:List GRow) 2).bind fun r33=>(match r33.1 with|.none=>(if r33.2=0 then (law24_ServerCommon.l46 a0 a1 a2 xK 0 [] 12) else some false)|.some y34=>(if r33.2=0 then (law24_ServerCommon.l82 a0 a1 a2 y34 xK 0 [] 12) else some false)))
def law24_ServerCommon (a0:Int)(a1:Int)(a2:Int):Option Bool:=
 (law24_ServerCommon.l12 a0 a1 a2 xK ([]:List Int) ([]:List zD) 1)
theorem law24_ServerCommon.ok {a0 a1 a2 r}(h:law24_ServerCommon a0 a1 a2=some r):ACalls qg 11 [.int .i64 a0,.int .i64 a1,.int .i64 a2] [] (fun r' _=>r'=.bool r):=by
 refine zr (rs:=[.tmp 6]) tok Tryz.func11 rfl Tryz.ntmps11 rfl Tryz.call11 (by simp) ?_;refine zA [(0,.int .i64 a0),(1,.int .i64 a1),(2,.int .i64 a2)] ⟨rfl,rfl,rfl,trivial⟩ ?_;unfold law24_ServerCommon at h;refine rgN [0,1,2] ?_;refine rgN [0,1,2,7] ?_;refine YW 7 1 rfl ?_;refine y0 (L:=[(0,.int .i64 a0),(1,.int .i64 a1),(2,.int .i64 a2),(7,.os true 1 0 0 0 (qa ([]:List Int)) false)]) (τ:=[.cells 0 (qc wh ([]:List Int))]) .s ?_;refine rgN [0,1,2,7,8] ?_;refine YW 8 4 rfl ?_;refine y0 (L:=[(0,.int .i64 a0),(1,.int .i64 a1),(2,.int .i64 a2),(7,.os true 1 0 0 0 (qa ([]:List Int)) false),(8,.os true 4 1 0 0 (qa ([]:List zD)) false)]) (τ:=[.cells 0 (qc wh ([]:List Int)),.cells 0 (qc za ([]:List zD))]) .s ?_
 refine zd fun Z1 hZ1=>?_
 refine rgN [0,1,2,7,8,9] ?_;apply zn;refine yh (fun m L τ=>∃ (k12:Nat) (l2:List Int) (l4:List zD) (x6:Int) (v3:Nat) (v5:Nat),m=0+k12∧L=[(0,.int .i64 a0),(1,.int .i64 a1),(2,.int .i64 a2),(7,.os true 1 0 v3 0 (qa l2) false),(8,.os true 4 1 v5 0 (qa l4) false),(9,.int .i64 x6)]∧τ=([.cells v3 (qc wh l2),.cells v5 (qc za l4)]:ze)∧law24_ServerCommon.l12 a0 a1 a2 k12 l2 l4 x6=some r) _ ⟨xK,([]:List Int),([]:List zD),1,0,0,rfl,rfl,rfl,h⟩ .s ?_;rintro m L τ ⟨k12,l2,l4,x6,v3,v5,rfl,rfl,rfl,h⟩
 rcases k12 with _|k12
 · cases h
 simp only[law24_ServerCommon.l12] at h
 refine zd fun Z13 hZ13=>?_
 refine rgN [0,1,2,7,8,9,19] ?_;refine yf rfl (fun hc14=>?_) (fun hc14=>?_)
 · rw[if_pos hc14] at h;have t15:=eq_true hc14;apply zj;apply hZ13;refine xC (fun L τ=>∃ (l16:List Int) (l18:List zD) (v17:Nat) (v19:Nat),L=[(0,.int .i64 a0),(1,.int .i64 a1),(2,.int .i64 a2),(7,.os true 1 0 v17 0 (qa l16) false),(8,.os true 4 1 v19 0 (qa l18) false),(9,.int .i64 x6)]∧τ=([.cells v17 (qc wh l16),.cells v19 (qc za l18)]:ze)∧law24_ServerCommon.j20 x6 (law24_ServerCommon.l12 a0 a1 a2 k12) l16 l18=some r) ?_ ?_
   · apply zn
     refine rc [0,1,2,7,8,9,31] fun K hK=>?_
     have f21:=wu (T:=tab) (src:=3) (dst:=100) rfl rfl rfl;obtain⟨_u22,hu22,h⟩:=bind_some h;have gu22:=wA hu22;have gu22n:(IntKind.u64.wrap x6<0)=False:=eq_false (by omega);refine zw tok 7 ?_;simp only[go_sem,qd,qb,reduceCtorEq,t15,f21,gu22n,Yc];refine zG 3 (fun L τ=>L=[(0,.int .i64 a0),(1,.int .i64 a1),(2,.int .i64 a2),(7,.os true 1 0 v3 0 (qa l2) false),(8,.os true 4 1 v5 0 (qa l4) false),(9,.int .i64 x6),(31,.bool ((decide (IntKind.i64.wrap ((qO (qt 64 (ur a0 (2^(min (qA (IntKind.u64.wrap x6)) 64))) &&& qt 64 1):Nat):Int)=1))||(decide (x6=5))))]∧τ=([.cells v3 (qc wh l2),.cells v5 (qc za l4)]:ze)) ?_ ?_
     · refine xS 28 rfl (fun hg28=>?_) (fun hg28=>?_)
       · have t23:(IntKind.i64.wrap ((qO (qt 64 (ur a0 (2^(min (qA (IntKind.u64.wrap x6)) 64))) &&& qt 64 1):Nat):Int)=1)=True:=eq_true hg28;refine rnN 3 ?_;refine zh ⟨rfl,_,_,⟨rfl,rfl⟩,.p t23⟩
       have t24:(IntKind.i64.wrap ((qO (qt 64 (ur a0 (2^(min (qA (IntKind.u64.wrap x6)) 64))) &&& qt 64 1):Nat):Int)=1)=False:=eq_false hg28;refine rnN 3 ?_;refine zh ⟨rfl,_,_,⟨rfl,rfl⟩,.p t24⟩
     rintro _ _ ⟨rfl,rfl⟩;refine nkN hK ?_;refine zT (b:=((decide (IntKind.i64.wrap ((qO (qt 64 (ur a0 (2^(min (qA (IntKind.u64.wrap x6)) 64))) &&& qt 64 1):Nat):Int)=1))||(decide (x6=5)))) rfl (fun hc25=>?_) (fun hc25=>?_)
     · rw[if_pos hc25] at h;obtain⟨_u26,hu26,h⟩:=bind_some h;have gu26:=xb hu26;have f27:=(zU E26.len l2)
       refine rg tok [0,1,2,7,8,9] fun K hK=>?_
       simp only[go_sem,qd,qf,qb,qe,qi,reduceCtorEq,zL,ym,qP,qJ,true_and,qW,yM,yl,yL,gu26,f27,xa,qV,qX,AV.one,qE,qK,qq,qu,qj,qL];apply hK
       refine y0 (L:=[(0,.int .i64 a0),(1,.int .i64 a1),(2,.int .i64 a2),(7,.os true 1 0 (v3+1) 0 (qa (l2++[x6])) false),(8,.os true 4 1 v5 0 (qa l4) false),(9,.int .i64 x6)]) (τ:=[.cells (v3+1) (qc wh (l2++[x6])),.cells v5 (qc za l4),.cells 0 [.int .i64 x6]]) .s ?_
       refine rcE [0,1,2,7,8,9] fun K hK=>?_
       obtain⟨r28,hr28,h⟩:=yg h;refine rnN 1 ?_;refine clN rfl rfl rfl ((ZB.ok hr28).c _) ?_;obtain⟨_u29,hu29,h⟩:=bind_some h;have gu29:=xb hu29;have f30:=(zU E33.len l4);refine zw tok 3 ?_;simp only[go_sem,qd,qf,qb,qe,qi,reduceCtorEq,zL,ym,qP,qJ,true_and,qW,yM,yl,yL,za,gu29,f30,xa,qV,qX,AV.one,qE,ub,qR,ug,qT,qK,qD,qq,qu,qj,qL];refine nkN hK ?_;exact⟨_,_,⟨l2++[x6],l4++[r28],v3+1,v5+1,rfl,rfl,h⟩,(.t [0,1] false)⟩
     rw[wO hc25] at h;apply zj;exact⟨_,_,⟨l2,l4,v3,v5,rfl,rfl,h⟩,.s⟩
   rintro _ _ ⟨l16,l18,v17,v19,rfl,rfl,h⟩;unfold law24_ServerCommon.j20 at h
   refine rgE tok [0,1,2,7,8,9] fun K hK=>?_
   simp only[go_sem,qd,qb,reduceCtorEq];apply hK
   exact⟨_,_,_,qx (0+k12),⟨k12,l16,l18,IntKind.i64.wrap (x6+1),v17,v19,rfl,rfl,rfl,h⟩,.s⟩
 rw[if_neg hc14] at h;have t31:=eq_false hc14;apply yc;apply hZ1
 refine rc [0,1,2,10,11] fun K hK=>?_
 obtain⟨r32,hr32,h⟩:=yg h;refine zw tok 2 ?_;simp only[go_sem,qd,qb,reduceCtorEq,t31];refine clN rfl rfl rfl ((ZB.ok hr32).c _) ?_;obtain⟨r33,hr33,h⟩:=bind_some h;refine var (L:=[(0,.int .i64 a0),(1,.int .i64 a1),(2,.int .i64 a2),(41,.ds true (qc wh l2) (qa l2) false),(42,.ds true (qc za l4) (qa l4) false),(43,.agg (za r32))]) (τ:=[]) (.t [] false) ?_;refine clN rfl rfl rfl (ACalls.loose (wU.at hr33 _)) ?_;refine rnN 5 ?_;refine nkN hK ?_
 generalize hz34:r33.1=z34 at h ⊢
 rcases z34 with _|y34
 · try dsimp only at h
   simp only[vba,wj];refine awp_eqS (τ:=[]) (by first|rfl|(simp only[qn,qk,qT,qK,qL,renO_mapE,renO_cells,vaJ,AV.ren,vci,Y3,qe]<;>first|rfl|(and_intros<;>rfl))) ?_
   refine zd fun Z35 hZ35=>?_
   refine rgN [0,1,2,10,48] ?_;refine yf rfl (fun hc36=>?_) (fun hc36=>?_)
   · rw[if_neg hc36] at h;have t37:=eq_false hc36
     refine rg tok [6] fun K hK=>?_
     simp only[go_sem,qd,qb,reduceCtorEq,t37];apply hK
     cases h;exact rtA
   rw[if_pos hc36] at h;have t38:=eq_true hc36;apply zj;apply hZ35
   refine rg tok [0,1,2,10,12] fun K hK=>?_
   simp only[go_sem,qd,qb,reduceCtorEq,t38];apply hK
   refine rgN [0,1,2,10,12,13] ?_
   refine zd fun Z39 hZ39=>?_
   refine rgN [0,1,2,10,12,13,14] ?_;apply zn;refine yh (fun m L τ=>∃ (k46:Nat) (x40:Int) (x41:List UInt8) (x42:Int),m=0+k46∧L=[(0,.int .i64 a0),(1,.int .i64 a1),(2,.int .i64 a2),(10,.nilp),(12,.int .i64 x40),(13,.str x41),(14,.int .i64 x42)]∧τ=([]:ze)∧law24_ServerCommon.l46 a0 a1 a2 k46 x40 x41 x42=some r) _ ⟨xK,0,[],12,rfl,rfl,rfl,h⟩ .s ?_;rintro m L τ ⟨k46,x40,x41,x42,rfl,rfl,rfl,h⟩
   rcases k46 with _|k46
   · cases h
   simp only[law24_ServerCommon.l46] at h
   refine zd fun Z47 hZ47=>?_
   refine rgN [0,1,2,10,12,13,14,50] ?_;refine yf rfl (fun hc48=>?_) (fun hc48=>?_)
   · rw[if_pos hc48] at h;have t49:=eq_true hc48;apply zj;apply hZ47;refine xC (fun L τ=>∃ (x50:Int) (x51:List UInt8),L=[(0,.int .i64 a0),(1,.int .i64 a1),(2,.int .i64 a2),(10,.nilp),(12,.int .i64 x50),(13,.str x51),(14,.int .i64 x42)]∧τ=([]:ze)∧law24_ServerCommon.j52 x42 (law24_ServerCommon.l46 a0 a1 a2 k46) x50 x51=some r) ?_ ?_
     · apply zn;have f53:=wu (T:=tab) (src:=3) (dst:=100) rfl rfl rfl;obtain⟨_u54,hu54,h⟩:=bind_some h;have gu54:=wA hu54;have gu54n:(IntKind.u64.wrap x42<0)=False:=eq_false (by omega)
       refine rg tok [0,1,2,10,12,13,14,58] fun K hK=>?_
       simp only[go_sem,qd,qb,reduceCtorEq,t49,f53,gu54n,Yc];apply hK
       refine yf rfl (fun hc55=>?_) (fun hc55=>?_)
       · replace hc55:IntKind.i64.wrap ((qO (qt 64 (ur a1 (2^(min (qA (IntKind.u64.wrap x42)) 64))) &&& qt 64 1):Nat):Int)=1:=hc55;rw[if_pos hc55] at h;have t56:=eq_true hc55;have f57:=wu (T:=tab) (src:=3) (dst:=5) rfl rfl rfl;have f58:=conv_b2so (T:=tab) (src:=48) (dst:=9) rfl rfl rfl rfl rfl rfl [ua (qA (IntKind.u8.wrap x42))] (σ:=[.cells 0 [.int .u8 (IntKind.u8.wrap x42)]]) (id:=0) (ver:=0) (by simp only[ze.at_hd,if_true,qR,ug,ZT,vaN,qT]) true true;simp only[qq,qu,qj] at f58;obtain⟨_u59,hu59,h⟩:=bind_some h;have gu59:=wA hu59;simp only[qq,qu,qj] at gu59
         refine rg tok [0,1,2,10,12,13,14] fun K hK=>?_
         simp only[go_sem,qd,qf,qb,qi,reduceCtorEq,zL,ym,qP,qJ,true_and,qW,f57,f58,gu59,if_true];apply hK
         refine rc [0,1,2,10,12,13,14,78] fun K hK=>?_
         refine rnN 3 ?_;obtain⟨c60,hc60,h⟩:=bind_some h;refine zG 11 (fun L τ=>L=[(0,.int .i64 a0),(1,.int .i64 a1),(2,.int .i64 a2),(10,.nilp),(12,.int .i64 x40),(13,.str (x41++[ua (qA (IntKind.u8.wrap x42))])),(14,.int .i64 x42),(78,.bool c60)]∧τ=([.cells 0 [.int .u8 (IntKind.u8.wrap x42)]]:ze)) ?_ ?_
         · refine xS 67 rfl (fun hg67=>?_) (fun hg67=>?_)
           · have t61:=eq_true hg67;rw[if_pos hg67] at hc60;have f62:=wu (T:=tab) (src:=3) (dst:=100) rfl rfl rfl;obtain⟨_u63,hu63,hc60⟩:=bind_some hc60;have gu63:=wA hu63;have gu63n:(IntKind.u64.wrap x42<0)=False:=eq_false (by omega);refine zw tok 7 ?_;simp only[go_sem,qd,qb,reduceCtorEq,f62,gu63n,Yc];refine zG 3 (fun L τ=>L=[(0,.int .i64 a0),(1,.int .i64 a1),(2,.int .i64 a2),(10,.nilp),(12,.int .i64 x40),(13,.str (x41++[ua (qA (IntKind.u8.wrap x42))])),(14,.int .i64 x42),(67,.bool true),(77,.bool ((decide (IntKind.i64.wrap ((qO (qt 64 (ur a0 (2^(min (qA (IntKind.u64.wrap x42)) 64))) &&& qt 64 1):Nat):Int)=1))||(decide (x42=5))))]∧τ=([.cells 0 [.int .u8 (IntKind.u8.wrap x42)]]:ze)) ?_ ?_
             · refine xS 74 rfl (fun hg74=>?_) (fun hg74=>?_)
               · have t64:(IntKind.i64.wrap ((qO (qt 64 (ur a0 (2^(min (qA (IntKind.u64.wrap x42)) 64))) &&& qt 64 1):Nat):Int)=1)=True:=eq_true hg74;refine rnN 3 ?_;refine zh ⟨rfl,_,_,⟨rfl,rfl⟩,.p t64⟩
               have t65:(IntKind.i64.wrap ((qO (qt 64 (ur a0 (2^(min (qA (IntKind.u64.wrap x42)) 64))) &&& qt 64 1):Nat):Int)=1)=False:=eq_false hg74;refine rnN 3 ?_;refine zh ⟨rfl,_,_,⟨rfl,rfl⟩,.p t65⟩
             rintro _ _ ⟨rfl,rfl⟩;refine rnN 1 ?_;cases hc60;refine zh ⟨rfl,_,_,⟨rfl,rfl⟩,.p t61⟩
           have t66:=eq_false hg67;rw[if_neg hg67] at hc60;refine rnN 10 ?_;refine rnN 1 ?_;cases hc60;refine zh ⟨rfl,_,_,⟨rfl,rfl⟩,.p t66⟩
         rintro _ _ ⟨rfl,rfl⟩;refine nkN hK ?_;refine zT (b:=c60) rfl (fun hc67=>?_) (fun hc67=>?_)
         · rw[if_pos hc67] at h
           refine rgE tok [0,1,2,10,12,13,14] fun K hK=>?_
           simp only[go_sem,qd,qb,reduceCtorEq];apply hK
           exact⟨_,_,⟨x42,x41++[ua (qA (IntKind.u8.wrap x42))],rfl,rfl,h⟩,(.t [] false)⟩
         rw[wO hc67] at h;apply zj;exact⟨_,_,⟨x40,x41++[ua (qA (IntKind.u8.wrap x42))],rfl,rfl,h⟩,(.t [] false)⟩
       replace hc55:¬ (IntKind.i64.wrap ((qO (qt 64 (ur a1 (2^(min (qA (IntKind.u64.wrap x42)) 64))) &&& qt 64 1):Nat):Int)=1):=hc55;rw[if_neg hc55] at h;have t68:=eq_false hc55;apply zj;exact⟨_,_,⟨x40,x41,rfl,rfl,h⟩,.s⟩
     rintro _ _ ⟨x50,x51,rfl,rfl,h⟩;unfold law24_ServerCommon.j52 at h
     refine rgE tok [0,1,2,10,12,13,14] fun K hK=>?_
     simp only[go_sem,qd,qb,reduceCtorEq];apply hK
     exact⟨_,_,_,qx (0+k46),⟨k46,x50,x51,IntKind.i64.wrap (x42-1),rfl,rfl,rfl,h⟩,.s⟩
   rw[if_neg hc48] at h;have t69:=eq_false hc48;apply yc;apply hZ39
   refine rc [10,12,13,15] fun K hK=>?_
   obtain⟨r70,hr70,h⟩:=bind_some h;refine zw tok 1 ?_;simp only[go_sem,qd,qb,reduceCtorEq,t69];refine clN rfl rfl rfl ((wz.ok hr70).c _) ?_;refine rnN 1 ?_;refine nkN hK ?_;cases h
 try dsimp only at h
 simp only[va9,wj];refine awp_eqS (τ:=[.cells 0 [.int .i64 y34.fself,.ds true (qc wh y34.fnumbers) (qa y34.fnumbers) false,.ds true (qc za y34.fschemas) (qa y34.fschemas) false,.str y34.fnewest.fName,.ds true (qc zb y34.fnewest.fMessages) (qa y34.fnewest.fMessages) false,.ds true (qc zf y34.fnewest.fEnums) (qa y34.fnewest.fEnums) false,.ds true (qc zm y34.fnewest.fMethods) (qa y34.fnewest.fMethods) false,.ds true (qc yd y34.frows) (qa y34.frows) false,.op 1 0 0,.os true 8 5 (y34.veffects) 0 (qa y34.feffects) false],.cells 0 [.int .i64 y34.fcache.fsize,.os true 2 2 (y34.fcache.vorder) 0 (qa y34.fcache.forder) false,.mp 3,.mp 4],.cells (y34.fcache.vorder) (qc zl y34.fcache.forder),.map (yq zs zK y34.fcache.freplies.l) (some (y34.fcache.freplies.bs,y34.fcache.freplies.ck)),.map (yq (AV.int .i64) (AV.int .i64) y34.fcache.flast.l) (some (y34.fcache.flast.bs,y34.fcache.flast.ck)),.cells (y34.veffects) (qc zi y34.feffects)]) (by first|rfl|(simp only[qn,qk,renO_mapE,renO_cells,vaJ,AV.ren,Y3]<;>first|rfl|(and_intros<;>rfl))) ?_
 refine zd fun Z71 hZ71=>?_
 refine rgN [0,1,2,10,48] ?_;refine yf rfl (fun hc72=>?_) (fun hc72=>?_)
 · rw[if_neg hc72] at h;have t73:=eq_false hc72
   refine rg tok [6] fun K hK=>?_
   simp only[go_sem,qd,qb,reduceCtorEq,t73];apply hK
   cases h;exact rtA
 rw[if_pos hc72] at h;have t74:=eq_true hc72;apply zj;apply hZ71
 refine rg tok [0,1,2,10,12] fun K hK=>?_
 simp only[go_sem,qd,qb,reduceCtorEq,t74];apply hK
 refine rgN [0,1,2,10,12,13] ?_
 refine zd fun Z75 hZ75=>?_
 refine rgN [0,1,2,10,12,13,14] ?_;apply zn;refine yh (fun m L τ=>∃ (k82:Nat) (x76:Int) (x77:List UInt8) (x78:Int),m=0+k82∧L=[(0,.int .i64 a0),(1,.int .i64 a1),(2,.int .i64 a2),(10,.op 0 0 0),(12,.int .i64 x76),(13,.str x77),(14,.int .i64 x78)]∧τ=([.cells 0 [.int .i64 y34.fself,.ds true (qc wh y34.fnumbers) (qa y34.fnumbers) false,.ds true (qc za y34.fschemas) (qa y34.fschemas) false,.str y34.fnewest.fName,.ds true (qc zb y34.fnewest.fMessages) (qa y34.fnewest.fMessages) false,.ds true (qc zf y34.fnewest.fEnums) (qa y34.fnewest.fEnums) false,.ds true (qc zm y34.fnewest.fMethods) (qa y34.fnewest.fMethods) false,.ds true (qc yd y34.frows) (qa y34.frows) false,.op 1 0 0,.os true 8 5 (y34.veffects) 0 (qa y34.feffects) false],.cells 0 [.int .i64 y34.fcache.fsize,.os true 2 2 (y34.fcache.vorder) 0 (qa y34.fcache.forder) false,.mp 3,.mp 4],.cells (y34.fcache.vorder) (qc zl y34.fcache.forder),.map (yq zs zK y34.fcache.freplies.l) (some (y34.fcache.freplies.bs,y34.fcache.freplies.ck)),.map (yq (AV.int .i64) (AV.int .i64) y34.fcache.flast.l) (some (y34.fcache.flast.bs,y34.fcache.flast.ck)),.cells (y34.veffects) (qc zi y34.feffects)]:ze)∧law24_ServerCommon.l82 a0 a1 a2 y34 k82 x76 x77 x78=some r) _ ⟨xK,0,[],12,rfl,rfl,rfl,h⟩ .s ?_;rintro m L τ ⟨k82,x76,x77,x78,rfl,rfl,rfl,h⟩
 rcases k82 with _|k82
 · cases h
 simp only[law24_ServerCommon.l82] at h
 refine zd fun Z83 hZ83=>?_
 refine rgN [0,1,2,10,12,13,14,50] ?_;refine yf rfl (fun hc84=>?_) (fun hc84=>?_)
 · rw[if_pos hc84] at h;have t85:=eq_true hc84;apply zj;apply hZ83;refine xC (fun L τ=>∃ (x86:Int) (x87:List UInt8),L=[(0,.int .i64 a0),(1,.int .i64 a1),(2,.int .i64 a2),(10,.op 0 0 0),(12,.int .i64 x86),(13,.str x87),(14,.int .i64 x78)]∧τ=([.cells 0 [.int .i64 y34.fself,.ds true (qc wh y34.fnumbers) (qa y34.fnumbers) false,.ds true (qc za y34.fschemas) (qa y34.fschemas) false,.str y34.fnewest.fName,.ds true (qc zb y34.fnewest.fMessages) (qa y34.fnewest.fMessages) false,.ds true (qc zf y34.fnewest.fEnums) (qa y34.fnewest.fEnums) false,.ds true (qc zm y34.fnewest.fMethods) (qa y34.fnewest.fMethods) false,.ds true (qc yd y34.frows) (qa y34.frows) false,.op 1 0 0,.os true 8 5 (y34.veffects) 0 (qa y34.feffects) false],.cells 0 [.int .i64 y34.fcache.fsize,.os true 2 2 (y34.fcache.vorder) 0 (qa y34.fcache.forder) false,.mp 3,.mp 4],.cells (y34.fcache.vorder) (qc zl y34.fcache.forder),.map (yq zs zK y34.fcache.freplies.l) (some (y34.fcache.freplies.bs,y34.fcache.freplies.ck)),.map (yq (AV.int .i64) (AV.int .i64) y34.fcache.flast.l) (some (y34.fcache.flast.bs,y34.fcache.flast.ck)),.cells (y34.veffects) (qc zi y34.feffects)]:ze)∧law24_ServerCommon.j88 x78 (law24_ServerCommon.l82 a0 a1 a2 y34 k82) x86 x87=some r) ?_ ?_
   · apply zn;have f89:=wu (T:=tab) (src:=3) (dst:=100) rfl rfl rfl;obtain⟨_u90,hu90,h⟩:=bind_some h;have gu90:=wA hu90;have gu90n:(IntKind.u64.wrap x78<0)=False:=eq_false (by omega)
     refine rg tok [0,1,2,10,12,13,14,58] fun K hK=>?_
     simp only[go_sem,qd,qb,reduceCtorEq,t85,f89,gu90n,Yc];apply hK
     refine yf rfl (fun hc91=>?_) (fun hc91=>?_)
     · replace hc91:IntKind.i64.wrap ((qO (qt 64 (ur a1 (2^(min (qA (IntKind.u64.wrap x78)) 64))) &&& qt 64 1):Nat):Int)=1:=hc91;rw[if_pos hc91] at h;have t92:=eq_true hc91;have f93:=wu (T:=tab) (src:=3) (dst:=5) rfl rfl rfl;have f94:=conv_b2so (T:=tab) (src:=48) (dst:=9) rfl rfl rfl rfl rfl rfl [ua (qA (IntKind.u8.wrap x78))] (σ:=[.cells 0 [.int .i64 y34.fself,.ds true (qc wh y34.fnumbers) (qa y34.fnumbers) false,.ds true (qc za y34.fschemas) (qa y34.fschemas) false,.str y34.fnewest.fName,.ds true (qc zb y34.fnewest.fMessages) (qa y34.fnewest.fMessages) false,.ds true (qc zf y34.fnewest.fEnums) (qa y34.fnewest.fEnums) false,.ds true (qc zm y34.fnewest.fMethods) (qa y34.fnewest.fMethods) false,.ds true (qc yd y34.frows) (qa y34.frows) false,.op 1 0 0,.os true 8 5 (y34.veffects) 0 (qa y34.feffects) false],.cells 0 [.int .i64 y34.fcache.fsize,.os true 2 2 (y34.fcache.vorder) 0 (qa y34.fcache.forder) false,.mp 3,.mp 4],.cells (y34.fcache.vorder) (qc zl y34.fcache.forder),.map (yq zs zK y34.fcache.freplies.l) (some (y34.fcache.freplies.bs,y34.fcache.freplies.ck)),.map (yq (AV.int .i64) (AV.int .i64) y34.fcache.flast.l) (some (y34.fcache.flast.bs,y34.fcache.flast.ck)),.cells (y34.veffects) (qc zi y34.feffects),.cells 0 [.int .u8 (IntKind.u8.wrap x78)]]) (id:=6) (ver:=0) (by simp only[ze.at_hd,ze.at_tl,if_true,qR,ug,ZT,vaN,qT]) true true;simp only[qq,qu,qj] at f94;obtain⟨_u95,hu95,h⟩:=bind_some h;have gu95:=wA hu95;simp only[qq,qu,qj] at gu95
       refine rg tok [0,1,2,10,12,13,14] fun K hK=>?_
       simp only[go_sem,qd,qf,qb,qe,qi,reduceCtorEq,zL,ym,qP,qJ,true_and,qW,f93,f94,gu95,if_true];apply hK
       refine rc [0,1,2,10,12,13,14,78] fun K hK=>?_
       refine rnN 3 ?_;obtain⟨c96,hc96,h⟩:=bind_some h;refine zG 11 (fun L τ=>L=[(0,.int .i64 a0),(1,.int .i64 a1),(2,.int .i64 a2),(10,.op 0 0 0),(12,.int .i64 x76),(13,.str (x77++[ua (qA (IntKind.u8.wrap x78))])),(14,.int .i64 x78),(78,.bool c96)]∧τ=([.cells 0 [.int .i64 y34.fself,.ds true (qc wh y34.fnumbers) (qa y34.fnumbers) false,.ds true (qc za y34.fschemas) (qa y34.fschemas) false,.str y34.fnewest.fName,.ds true (qc zb y34.fnewest.fMessages) (qa y34.fnewest.fMessages) false,.ds true (qc zf y34.fnewest.fEnums) (qa y34.fnewest.fEnums) false,.ds true (qc zm y34.fnewest.fMethods) (qa y34.fnewest.fMethods) false,.ds true (qc yd y34.frows) (qa y34.frows) false,.op 1 0 0,.os true 8 5 (y34.veffects) 0 (qa y34.feffects) false],.cells 0 [.int .i64 y34.fcache.fsize,.os true 2 2 (y34.fcache.vorder) 0 (qa y34.fcache.forder) false,.mp 3,.mp 4],.cells (y34.fcache.vorder) (qc zl y34.fcache.forder),.map (yq zs zK y34.fcache.freplies.l) (some (y34.fcache.freplies.bs,y34.fcache.freplies.ck)),.map (yq (AV.int .i64) (AV.int .i64) y34.fcache.flast.l) (some (y34.fcache.flast.bs,y34.fcache.flast.ck)),.cells (y34.veffects) (qc zi y34.feffects),.cells 0 [.int .u8 (IntKind.u8.wrap x78)]]:ze)) ?_ ?_
       · refine xS 67 rfl (fun hg67=>?_) (fun hg67=>?_)
         · have t97:=eq_true hg67;rw[if_pos hg67] at hc96;have f98:=wu (T:=tab) (src:=3) (dst:=100) rfl rfl rfl;obtain⟨_u99,hu99,hc96⟩:=bind_some hc96;have gu99:=wA hu99;have gu99n:(IntKind.u64.wrap x78<0)=False:=eq_false (by omega);refine zw tok 7 ?_;simp only[go_sem,qd,qb,reduceCtorEq,f98,gu99n,Yc];refine zG 3 (fun L τ=>L=[(0,.int .i64 a0),(1,.int .i64 a1),(2,.int .i64 a2),(10,.op 0 0 0),(12,.int .i64 x76),(13,.str (x77++[ua (qA (IntKind.u8.wrap x78))])),(14,.int .i64 x78),(67,.bool true),(77,.bool ((decide (IntKind.i64.wrap ((qO (qt 64 (ur a0 (2^(min (qA (IntKind.u64.wrap x78)) 64))) &&& qt 64 1):Nat):Int)=1))||(decide (x78=5))))]∧τ=([.cells 0 [.int .i64 y34.fself,.ds true (qc wh y34.fnumbers) (qa y34.fnumbers) false,.ds true (qc za y34.fschemas) (qa y34.fschemas) false,.str y34.fnewest.fName,.ds true (qc zb y34.fnewest.fMessages) (qa y34.fnewest.fMessages) false,.ds true (qc zf y34.fnewest.fEnums) (qa y34.fnewest.fEnums) false,.ds true (qc zm y34.fnewest.fMethods) (qa y34.fnewest.fMethods) false,.ds true (qc yd y34.frows) (qa y34.frows) false,.op 1 0 0,.os true 8 5 (y34.veffects) 0 (qa y34.feffects) false],.cells 0 [.int .i64 y34.fcache.fsize,.os true 2 2 (y34.fcache.vorder) 0 (qa y34.fcache.forder) false,.mp 3,.mp 4],.cells (y34.fcache.vorder) (qc zl y34.fcache.forder),.map (yq zs zK y34.fcache.freplies.l) (some (y34.fcache.freplies.bs,y34.fcache.freplies.ck)),.map (yq (AV.int .i64) (AV.int .i64) y34.fcache.flast.l) (some (y34.fcache.flast.bs,y34.fcache.flast.ck)),.cells (y34.veffects) (qc zi y34.feffects),.cells 0 [.int .u8 (IntKind.u8.wrap x78)]]:ze)) ?_ ?_
           · refine xS 74 rfl (fun hg74=>?_) (fun hg74=>?_)
             · have t100:(IntKind.i64.wrap ((qO (qt 64 (ur a0 (2^(min (qA (IntKind.u64.wrap x78)) 64))) &&& qt 64 1):Nat):Int)=1)=True:=eq_true hg74;refine rnN 3 ?_;refine zh ⟨rfl,_,_,⟨rfl,rfl⟩,.p t100⟩
             have t101:(IntKind.i64.wrap ((qO (qt 64 (ur a0 (2^(min (qA (IntKind.u64.wrap x78)) 64))) &&& qt 64 1):Nat):Int)=1)=False:=eq_false hg74;refine rnN 3 ?_;refine zh ⟨rfl,_,_,⟨rfl,rfl⟩,.p t101⟩
           rintro _ _ ⟨rfl,rfl⟩;refine rnN 1 ?_;cases hc96;refine zh ⟨rfl,_,_,⟨rfl,rfl⟩,.p t97⟩
         have t102:=eq_false hg67;rw[if_neg hg67] at hc96;refine rnN 10 ?_;refine rnN 1 ?_;cases hc96;refine zh ⟨rfl,_,_,⟨rfl,rfl⟩,.p t102⟩
       rintro _ _ ⟨rfl,rfl⟩;refine nkN hK ?_;refine zT (b:=c96) rfl (fun hc103=>?_) (fun hc103=>?_)
       · rw[if_pos hc103] at h
         refine rgE tok [0,1,2,10,12,13,14] fun K hK=>?_
         simp only[go_sem,qd,qb,reduceCtorEq];apply hK
         exact⟨_,_,⟨x78,x77++[ua (qA (IntKind.u8.wrap x78))],rfl,rfl,h⟩,(.t [0,1,2,3,4,5] false)⟩
       rw[wO hc103] at h;apply zj;exact⟨_,_,⟨x76,x77++[ua (qA (IntKind.u8.wrap x78))],rfl,rfl,h⟩,(.t [0,1,2,3,4,5] false)⟩
     replace hc91:¬ (IntKind.i64.wrap ((qO (qt 64 (ur a1 (2^(min (qA (IntKind.u64.wrap x78)) 64))) &&& qt 64 1):Nat):Int)=1):=hc91;rw[if_neg hc91] at h;have t104:=eq_false hc91;apply zj;exact⟨_,_,⟨x76,x77,rfl,rfl,h⟩,.s⟩
   rintro _ _ ⟨x86,x87,rfl,rfl,h⟩;unfold law24_ServerCommon.j88 at h
   refine rgE tok [0,1,2,10,12,13,14] fun K hK=>?_
   simp only[go_sem,qd,qb,reduceCtorEq];apply hK
   exact⟨_,_,_,qx (0+k82),⟨k82,x86,x87,IntKind.i64.wrap (x78-1),rfl,rfl,rfl,h⟩,.s⟩
 rw[if_neg hc84] at h;have t105:=eq_false hc84;apply yc;apply hZ75
 refine rc [10,12,13,15] fun K hK=>?_
 obtain⟨r106,hr106,h⟩:=bind_some h;refine zw tok 1 ?_;simp only[go_sem,qd,qb,reduceCtorEq,t105];refine clN rfl rfl rfl ((wz.ok hr106).c _) ?_;refine rnN 1 ?_;refine nkN hK ?_
 refine rc [10,12,15,16,17] fun K hK=>?_
 obtain⟨r107,hr107,h⟩:=bind_some h;refine rnN 4 ?_;refine clN rfl rfl rfl (@id (ACalls qg 47 [.op 0 0 0,.agg [.int .i64 1,.int .i64 2,.int .i64 7,.int .i64 r106,.int .i64 0,.str [],.int .i64 0,.str x77]] [.cells 0 [.int .i64 y34.fself,.ds true (qc wh y34.fnumbers) (qa y34.fnumbers) false,.ds true (qc za y34.fschemas) (qa y34.fschemas) false,.str y34.fnewest.fName,.ds true (qc zb y34.fnewest.fMessages) (qa y34.fnewest.fMessages) false,.ds true (qc zf y34.fnewest.fEnums) (qa y34.fnewest.fEnums) false,.ds true (qc zm y34.fnewest.fMethods) (qa y34.fnewest.fMethods) false,.ds true (qc yd y34.frows) (qa y34.frows) false,.op 1 0 0,.os true 8 5 (y34.veffects) 0 (qa y34.feffects) false],.cells 0 [.int .i64 y34.fcache.fsize,.os true 2 2 (y34.fcache.vorder) 0 (qa y34.fcache.forder) false,.mp 3,.mp 4],.cells (y34.fcache.vorder) (qc zl y34.fcache.forder),.map (yq zs zK y34.fcache.freplies.l) (some (y34.fcache.freplies.bs,y34.fcache.freplies.ck)),.map (yq (AV.int .i64) (AV.int .i64) y34.fcache.flast.l) (some (y34.fcache.flast.bs,y34.fcache.flast.ck)),.cells (y34.veffects) (qc zi y34.feffects)] (fun r' σ'=>r'=.tup [.agg (zq r107.1),.bool r107.2.1]∧σ'=[.cells 0 [.int .i64 r107.2.2.fself,.ds true (qc wh r107.2.2.fnumbers) (qa r107.2.2.fnumbers) false,.ds true (qc za r107.2.2.fschemas) (qa r107.2.2.fschemas) false,.str r107.2.2.fnewest.fName,.ds true (qc zb r107.2.2.fnewest.fMessages) (qa r107.2.2.fnewest.fMessages) false,.ds true (qc zf r107.2.2.fnewest.fEnums) (qa r107.2.2.fnewest.fEnums) false,.ds true (qc zm r107.2.2.fnewest.fMethods) (qa r107.2.2.fnewest.fMethods) false,.ds true (qc yd r107.2.2.frows) (qa r107.2.2.frows) false,.op 1 0 0,.os true 8 5 (r107.2.2.veffects) 0 (qa r107.2.2.feffects) false],.cells 0 [.int .i64 r107.2.2.fcache.fsize,.os true 2 2 (r107.2.2.fcache.vorder) 0 (qa r107.2.2.fcache.forder) false,.mp 3,.mp 4],.cells (r107.2.2.fcache.vorder) (qc zl r107.2.2.fcache.forder),.map (yq zs zK r107.2.2.fcache.freplies.l) (some (r107.2.2.fcache.freplies.bs,r107.2.2.fcache.freplies.ck)),.map (yq (AV.int .i64) (AV.int .i64) r107.2.2.fcache.flast.l) (some (r107.2.2.fcache.flast.bs,r107.2.2.fcache.flast.ck)),.cells (r107.2.2.veffects) (qc zi r107.2.2.feffects)])) ((xy.ok hr107).ix [0,1,2,3,4,5])) ?_;refine zw tok 6 ?_;simp only[go_sem,qd,qf,qb,qe,zq];refine nkN hK ?_
 refine rc [6] fun K hK=>?_
 refine rnN 2 ?_;refine zG 6 (fun L τ=>L=[(10,.op 0 0 0),(97,.bool (r107.2.1&&(decide (r107.1.fKind=2)&&(decide (r107.1.fFrom=7)&&(decide (r107.1.fTo=2)&&(decide (r107.1.fID=r106)&&(decide (r107.1.fVersion=x76)&&(decide (r107.1.fMethod=[])&&(decide (r107.1.fErr=0)&&decide (r107.1.fBody=[]))))))))))]∧τ=([.cells 0 [.int .i64 r107.2.2.fself,.ds true (qc wh r107.2.2.fnumbers) (qa r107.2.2.fnumbers) false,.ds true (qc za r107.2.2.fschemas) (qa r107.2.2.fschemas) false,.str r107.2.2.fnewest.fName,.ds true (qc zb r107.2.2.fnewest.fMessages) (qa r107.2.2.fnewest.fMessages) false,.ds true (qc zf r107.2.2.fnewest.fEnums) (qa r107.2.2.fnewest.fEnums) false,.ds true (qc zm r107.2.2.fnewest.fMethods) (qa r107.2.2.fnewest.fMethods) false,.ds true (qc yd r107.2.2.frows) (qa r107.2.2.frows) false,.op 1 0 0,.os true 8 5 (r107.2.2.veffects) 0 (qa r107.2.2.feffects) false],.cells 0 [.int .i64 r107.2.2.fcache.fsize,.os true 2 2 (r107.2.2.fcache.vorder) 0 (qa r107.2.2.fcache.forder) false,.mp 3,.mp 4],.cells (r107.2.2.fcache.vorder) (qc zl r107.2.2.fcache.forder),.map (yq zs zK r107.2.2.fcache.freplies.l) (some (r107.2.2.fcache.freplies.bs,r107.2.2.fcache.freplies.ck)),.map (yq (AV.int .i64) (AV.int .i64) r107.2.2.fcache.flast.l) (some (r107.2.2.fcache.flast.bs,r107.2.2.fcache.flast.ck)),.cells (r107.2.2.veffects) (qc zi r107.2.2.feffects),.cells 0 (zq r107.1)]:ze)) ?_ ?_
 · refine yv (b:=r107.2.1) 91 rfl (fun hg91=>?_) (fun hg91=>?_)
   · refine zw tok 6 ?_;simp only[go_sem,qd,qf,qb,qe,evEqA,Xz,ceq];refine zh ⟨rfl,_,_,⟨rfl,rfl⟩,.b hg91⟩
   refine rnN 6 ?_;refine zh ⟨rfl,_,_,⟨rfl,rfl⟩,.b hg91⟩
 rintro _ _ ⟨rfl,rfl⟩;refine rnN 1 ?_;obtain⟨c108,hc108,h⟩:=bind_some h;refine zG 5 (fun L τ=>L=[(103,.bool c108)]∧τ=([.cells 0 [.int .i64 r107.2.2.fself,.ds true (qc wh r107.2.2.fnumbers) (qa r107.2.2.fnumbers) false,.ds true (qc za r107.2.2.fschemas) (qa r107.2.2.fschemas) false,.str r107.2.2.fnewest.fName,.ds true (qc zb r107.2.2.fnewest.fMessages) (qa r107.2.2.fnewest.fMessages) false,.ds true (qc zf r107.2.2.fnewest.fEnums) (qa r107.2.2.fnewest.fEnums) false,.ds true (qc zm r107.2.2.fnewest.fMethods) (qa r107.2.2.fnewest.fMethods) false,.ds true (qc yd r107.2.2.frows) (qa r107.2.2.frows) false,.op 1 0 0,.os true 8 5 (r107.2.2.veffects) 0 (qa r107.2.2.feffects) false],.cells 0 [.int .i64 r107.2.2.fcache.fsize,.os true 2 2 (r107.2.2.fcache.vorder) 0 (qa r107.2.2.fcache.forder) false,.mp 3,.mp 4],.cells (r107.2.2.fcache.vorder) (qc zl r107.2.2.fcache.forder),.map (yq zs zK r107.2.2.fcache.freplies.l) (some (r107.2.2.fcache.freplies.bs,r107.2.2.fcache.freplies.ck)),.map (yq (AV.int .i64) (AV.int .i64) r107.2.2.fcache.flast.l) (some (r107.2.2.fcache.flast.bs,r107.2.2.fcache.flast.ck)),.cells (r107.2.2.veffects) (qc zi r107.2.2.feffects),.cells 0 (zq r107.1)]:ze)) ?_ ?_
 · refine yv (b:=(r107.2.1&&(decide (r107.1.fKind=2)&&(decide (r107.1.fFrom=7)&&(decide (r107.1.fTo=2)&&(decide (r107.1.fID=r106)&&(decide (r107.1.fVersion=x76)&&(decide (r107.1.fMethod=[])&&(decide (r107.1.fErr=0)&&decide (r107.1.fBody=[])))))))))) 98 rfl (fun hg98=>?_) (fun hg98=>?_)
   · rw[if_pos hg98] at hc108;obtain⟨r109,hr109,hc108⟩:=bind_some hc108;refine rnN 1 ?_;refine clN rfl rfl rfl (@id (ACalls qg 48 [.op 0 0 0] [.cells 0 [.int .i64 r107.2.2.fself,.ds true (qc wh r107.2.2.fnumbers) (qa r107.2.2.fnumbers) false,.ds true (qc za r107.2.2.fschemas) (qa r107.2.2.fschemas) false,.str r107.2.2.fnewest.fName,.ds true (qc zb r107.2.2.fnewest.fMessages) (qa r107.2.2.fnewest.fMessages) false,.ds true (qc zf r107.2.2.fnewest.fEnums) (qa r107.2.2.fnewest.fEnums) false,.ds true (qc zm r107.2.2.fnewest.fMethods) (qa r107.2.2.fnewest.fMethods) false,.ds true (qc yd r107.2.2.frows) (qa r107.2.2.frows) false,.op 1 0 0,.os true 8 5 (r107.2.2.veffects) 0 (qa r107.2.2.feffects) false],.cells 0 [.int .i64 r107.2.2.fcache.fsize,.os true 2 2 (r107.2.2.fcache.vorder) 0 (qa r107.2.2.fcache.forder) false,.mp 3,.mp 4],.cells (r107.2.2.fcache.vorder) (qc zl r107.2.2.fcache.forder),.map (yq zs zK r107.2.2.fcache.freplies.l) (some (r107.2.2.fcache.freplies.bs,r107.2.2.fcache.freplies.ck)),.map (yq (AV.int .i64) (AV.int .i64) r107.2.2.fcache.flast.l) (some (r107.2.2.fcache.flast.bs,r107.2.2.fcache.flast.ck)),.cells (r107.2.2.veffects) (qc zi r107.2.2.feffects),.cells 0 (zq r107.1)] (fun r' σ'=>r'=.ds true (qc zi r109) (qa r109) false∧σ'=[.cells 0 [.int .i64 r107.2.2.fself,.ds true (qc wh r107.2.2.fnumbers) (qa r107.2.2.fnumbers) false,.ds true (qc za r107.2.2.fschemas) (qa r107.2.2.fschemas) false,.str r107.2.2.fnewest.fName,.ds true (qc zb r107.2.2.fnewest.fMessages) (qa r107.2.2.fnewest.fMessages) false,.ds true (qc zf r107.2.2.fnewest.fEnums) (qa r107.2.2.fnewest.fEnums) false,.ds true (qc zm r107.2.2.fnewest.fMethods) (qa r107.2.2.fnewest.fMethods) false,.ds true (qc yd r107.2.2.frows) (qa r107.2.2.frows) false,.op 1 0 0,.os true 8 5 (r107.2.2.veffects) 0 (qa r107.2.2.feffects) false],.cells 0 [.int .i64 r107.2.2.fcache.fsize,.os true 2 2 (r107.2.2.fcache.vorder) 0 (qa r107.2.2.fcache.forder) false,.mp 3,.mp 4],.cells (r107.2.2.fcache.vorder) (qc zl r107.2.2.fcache.forder),.map (yq zs zK r107.2.2.fcache.freplies.l) (some (r107.2.2.fcache.freplies.bs,r107.2.2.fcache.freplies.ck)),.map (yq (AV.int .i64) (AV.int .i64) r107.2.2.fcache.flast.l) (some (r107.2.2.fcache.flast.bs,r107.2.2.fcache.flast.ck)),.cells (r107.2.2.veffects) (qc zi r107.2.2.feffects),.cells 0 (zq r107.1)])) ((xz.ok hr109).ix [0,1,2,3,4,5])) ?_;refine rnN 3 ?_;cases hc108;refine zh ⟨rfl,_,_,⟨rfl,rfl⟩,.b hg98⟩
   rw[wO hg98] at hc108;refine rnN 5 ?_;cases hc108;refine zh ⟨rfl,_,_,⟨rfl,rfl⟩,.b hg98⟩
 rintro _ _ ⟨rfl,rfl⟩;refine rnN 1 ?_;obtain⟨c110,hc110,h⟩:=bind_some h;refine zG 2 (fun L τ=>L=[(106,.bool c110)]∧τ=([.cells 0 [.int .i64 r107.2.2.fself,.ds true (qc wh r107.2.2.fnumbers) (qa r107.2.2.fnumbers) false,.ds true (qc za r107.2.2.fschemas) (qa r107.2.2.fschemas) false,.str r107.2.2.fnewest.fName,.ds true (qc zb r107.2.2.fnewest.fMessages) (qa r107.2.2.fnewest.fMessages) false,.ds true (qc zf r107.2.2.fnewest.fEnums) (qa r107.2.2.fnewest.fEnums) false,.ds true (qc zm r107.2.2.fnewest.fMethods) (qa r107.2.2.fnewest.fMethods) false,.ds true (qc yd r107.2.2.frows) (qa r107.2.2.frows) false,.op 1 0 0,.os true 8 5 (r107.2.2.veffects) 0 (qa r107.2.2.feffects) false],.cells 0 [.int .i64 r107.2.2.fcache.fsize,.os true 2 2 (r107.2.2.fcache.vorder) 0 (qa r107.2.2.fcache.forder) false,.mp 3,.mp 4],.cells (r107.2.2.fcache.vorder) (qc zl r107.2.2.fcache.forder),.map (yq zs zK r107.2.2.fcache.freplies.l) (some (r107.2.2.fcache.freplies.bs,r107.2.2.fcache.freplies.ck)),.map (yq (AV.int .i64) (AV.int .i64) r107.2.2.fcache.flast.l) (some (r107.2.2.fcache.flast.bs,r107.2.2.fcache.flast.ck)),.cells (r107.2.2.veffects) (qc zi r107.2.2.feffects),.cells 0 (zq r107.1)]:ze)) ?_ ?_
 · refine yv (b:=c108) 104 rfl (fun hg104=>?_) (fun hg104=>?_)
   · rw[if_pos hg104] at hc110;obtain⟨r111,hr111,hc110⟩:=bind_some hc110;refine clN rfl rfl rfl ((YF.ok r111 hr111).c _) ?_;refine rnN 1 ?_;cases hc110;refine zh ⟨rfl,_,_,⟨rfl,rfl⟩,.b hg104⟩
   rw[wO hg104] at hc110;refine rnN 2 ?_;cases hc110;refine zh ⟨rfl,_,_,⟨rfl,rfl⟩,.b hg104⟩
 rintro _ _ ⟨rfl,rfl⟩;refine rnN 1 ?_;refine nkN hK ?_;cases h;exact rtA
end
section
set_option maxRecDepth 4000
open AM
theorem awake24 : YF=some true:=by decide +kernel
def cS1 : zD:=ZB 1
theorem cCheck : yB cS1=some 0:=by decide +kernel
def bitB (a v:Int):Bool:=decide (IntKind.i64.wrap ((qO (qt 64 (ur a (2^(min (qA (IntKind.u64.wrap v)) 64))) &&& qt 64 1):Nat):Int)=1)
def hasB (a v:Int):Bool:=bitB a v||decide (v=5)
def upL (j:Nat):List Int:=(uE j).map fun i:Nat=>((i+1:Nat):Int)
def nsU (a:Int)(j:Nat):List Int:=(upL j).filter (hasB a)
theorem upL_s (j:Nat):upL (j+1)=upL j++[((j+1:Nat):Int)]:=by rw[upL,upL,qP,qz]; rfl
theorem nsU_s (a:Int)(j:Nat):nsU a (j+1)=nsU a j++if hasB a ((j+1:Nat):Int)=true then [((j+1:Nat):Int)] else []:=by
 rw[nsU,upL_s,List.filter_append]
 show _++List.filter _ [_]=_
 rw[List.filter_cons,List.filter_nil]; rfl
theorem upL_len (j:Nat):(upL j).length=j:=by simp[upL]
theorem nsU_len (a:Int)(j:Nat):(nsU a j).length≤j:=uF (List.length_filter_le _ _) (by rw[upL_len]; exact qv _)
theorem u64_pos (v:Int):0≤IntKind.u64.wrap v:=by rw[IntKind.wrap_u64]; exact Int.emod_nonneg _ (by decide)
theorem bit_if {α:Type}(a v:Int)(x y:α):(if IntKind.i64.wrap ((qO (qt 64 (ur a (2^(min (qA (IntKind.u64.wrap v)) 64))) &&& qt 64 1):Nat):Int)=1 then x else y)=if bitB a v=true then x else y:=by
 unfold bitB
 by_cases h:IntKind.i64.wrap ((qO (qt 64 (ur a (2^(min (qA (IntKind.u64.wrap v)) 64))) &&& qt 64 1):Nat):Int)=1
 · rw[if_pos h,decide_eq_true h,if_pos rfl]
 rw[if_neg h,decide_eq_false h,if_neg (by decide)]
theorem i64_id {x:Int}(h : -9223372036854775808≤x)(h':x≤9223372036854775807):IntKind.i64.wrap x=x:=by rw[IntKind.wrap_i64]; omega
theorem vcg {n b:Nat}(h:n*b≤140737488355328):vac n b=some ():=if_pos h
def afterN (a0 a1 a2:Int)(l:List Int)(m:List zD):Option Bool:=
 (wU 7 l m cS1 [] 2).bind fun r33=>(match r33.1 with|.none=>(if r33.2=0 then (law24_ServerCommon.l46 a0 a1 a2 xK 0 [] 12) else some false)|.some y34=>(if r33.2=0 then (law24_ServerCommon.l82 a0 a1 a2 y34 xK 0 [] 12) else some false))
theorem l12_eq (a0 a1 a2:Int):∀ (k j:Nat),13≤k+j→j≤12→law24_ServerCommon.l12 a0 a1 a2 k (nsU a0 j) (qF (nsU a0 j).length cS1) ((j+1:Nat):Int)=afterN a0 a1 a2 (nsU a0 12) (qF (nsU a0 12).length cS1)
 |0,j,h,h'=>by omega
 |k+1,j,h,h'=>by
  have hn:=nsU_len a0 j
  by_cases hj:j=12
  · subst hj;rw[law24_ServerCommon.l12,if_neg (by decide)]
    rfl
  have w:IntKind.i64.wrap (((j+1:Nat):Int)+1)=((j+1+1:Nat):Int):=by rw[IntKind.wrap_i64]; omega
  have ih:=l12_eq a0 a1 a2 k (j+1) (by omega) (by omega);rw[nsU_s] at ih;rw[law24_ServerCommon.l12,if_pos (by omega),show grd (0≤IntKind.u64.wrap ((j+1:Nat):Int))=some () from if_pos (u64_pos _),qQ]
  show (if hasB a0 ((j+1:Nat):Int)=true then _ else _)=_
  by_cases hb:hasB a0 ((j+1:Nat):Int)=true
  · rw[if_pos hb] at ih ⊢;rw[vcg (by omega),qQ,bnd,vcg (by rw[List.length_replicate]; omega),qQ,law24_ServerCommon.j20,w,← ih,qD]
    congr 1
    rw[List.length_singleton,List.replicate_succ']; rfl
  rw[if_neg hb] at ih ⊢;rw[qT] at ih;rw[law24_ServerCommon.j20,w,ih]
theorem right_l {n:Nat}:∀ (q:List Int) (i:Nat) (last:Int),(∀ y∈q,last<y∧y≤12)→q.Pairwise (· < ·)→i+q.length≤n→wa.l10 (qF n cS1) q (i:Int) last=some true
 |[],_,_,_,_,_=>rfl
 |y::q,i,last,h,hp,hl=>by
  obtain⟨h1,h2⟩:=h y (uJ ..);obtain⟨p1,p2⟩:=List.pairwise_cons.1 hp;rw[qq] at hl
  have hi:Xe (qF n cS1) (i:Int)=some cS1:=by
   rw[Xe,if_pos (by omega),uz,List.getElem?_replicate,if_pos (by omega)]
  rw[wa.l10,if_neg (by rw[decide_eq_false (by omega),decide_eq_false (by omega)]; decide),hi,qQ,cCheck,qQ,qQ]
  show (if (!decide ((0:Int)=0))=true then _ else _)=_
  rw[if_neg (by decide)];exact right_l q (i+1) y (fun z hz=>⟨p1 z hz,(h z (uc _ hz)).2⟩) p2 (by omega)
theorem upL_mem {j:Nat}{v:Int}(h:v∈upL j):1≤v∧v≤j:=by
 simp only[upL,ut,List.mem_range] at h;obtain⟨i,hi,rfl⟩:=h
 omega
theorem upL_sorted (j:Nat):(upL j).Pairwise (· < ·):=by
 rw[upL,List.pairwise_map]
 exact List.pairwise_lt_range.imp fun h=>by omega
theorem has5 (a:Int):(5:Int)∈nsU a 12:=by
 rw[nsU,List.mem_filter];refine⟨by decide,?_⟩;rw[hasB,decide_eq_true rfl,qo]
def cSv (a:Int):yW:=⟨7,nsU a 12,qF (nsU a 12).length cS1,cS1,[],⟨2,[],0,⟨[],[],0⟩,⟨[],[],0⟩⟩,[],0⟩
theorem cNew (a:Int):wU 7 (nsU a 12) (qF (nsU a 12).length cS1) cS1 [] 2=some (some (cSv a),0):=by
 have hl:=nsU_len a 12;have h5:=List.length_pos_of_mem (has5 a)
 have hr:wa 7 (nsU a 12) (qF (nsU a 12).length cS1)=some true:=by
  rw[wa,if_neg]
  · exact right_l (nsU a 12) 0 0 (fun y hy=>by have:=upL_mem (List.mem_filter.1 hy).1; omega) ((upL_sorted 12).filter _) (by omega)
  rw[List.length_replicate,decide_eq_false (by omega),decide_eq_false (by omega),decide_eq_true rfl]; decide
 rw[wU,hr,qQ]
 show Option.bind (if (!true||decide ((([]:List GRow).length:Int)>32))=true then _ else _) _=_
 rw[if_neg (by decide),cCheck,qQ,qQ,if_neg (by decide),wE,vcg (by decide),qQ,qQ,bnd,wT,wD,vcg (by omega),qQ,qQ,xY,vcg (by rw[List.length_replicate]; omega)]
 rfl
def vax (v:Int):UInt8:=ua (qA (IntKind.u8.wrap v))
def stepC (a0 a1:Int)(s:Int×List UInt8)(v:Int):Int×List UInt8:=if bitB a1 v=true then ((if s.1=0∧hasB a0 v=true then v else s.1),s.2++[vax v]) else s
def dnL (j:Nat):List Int:=(upL j).reverse
theorem dnL_s (j:Nat):dnL (j+1)=((j+1:Nat):Int)::dnL j:=by rw[dnL,upL_s,List.reverse_append]; rfl
theorem l82_end (a0 a1 a2:Int)(y:yW)(k:Nat)(w:Int)(b:List UInt8):law24_ServerCommon.l82 a0 a1 a2 y (k+1) w b 0=law24_ServerCommon.l82 a0 a1 a2 y 1 w b 0:=by
 rw[law24_ServerCommon.l82,if_neg (by decide),law24_ServerCommon.l82,if_neg (by decide)]
theorem l82_eq (a0 a1 a2:Int)(y:yW):∀ (j k:Nat) (s:Int×List UInt8),j<k→s.2.length+j≤100→j≤12→
 law24_ServerCommon.l82 a0 a1 a2 y k s.1 s.2 ((j:Nat):Int)=law24_ServerCommon.l82 a0 a1 a2 y 1 (List.foldl (stepC a0 a1) s (dnL j)).1 (List.foldl (stepC a0 a1) s (dnL j)).2 0
 |0,k+1,s,_,_,_=>l82_end a0 a1 a2 y k _ _
 |j+1,0,s,h,_,_=>by omega
 |j+1,k+1,s,h,hl,h12=>by
  have w:IntKind.i64.wrap (((j+1:Nat):Int)-1)=(j:Int):=by rw[IntKind.wrap_i64]; omega
  have ih:=l82_eq a0 a1 a2 y j k (stepC a0 a1 s ((j+1:Nat):Int)) (by omega) (by
   unfold stepC
   split
   · show (s.2++[_]).length+j≤100
     rw[qD,List.length_singleton]; omega
   omega) (by omega)
  rw[dnL_s,List.foldl_cons,← ih];rw[law24_ServerCommon.l82,if_pos (by omega),show grd (0≤IntKind.u64.wrap ((j+1:Nat):Int))=some () from if_pos (u64_pos _),qQ];rw[bit_if]
  by_cases hb:bitB a1 ((j+1:Nat):Int)=true
  · rw[if_pos hb,show grd (qa s.2+qa [ua (qA (IntKind.u8.wrap ((j+1:Nat):Int)))]<9223372036854775808)=some () from if_pos (by rw[List.length_singleton]; omega),qQ]
    have hs:stepC a0 a1 s ((j+1:Nat):Int)=((if s.1=0∧hasB a0 ((j+1:Nat):Int)=true then ((j+1:Nat):Int) else s.1),s.2++[vax ((j+1:Nat):Int)]):=by rw[stepC,if_pos hb]
    rw[hs]
    by_cases h0:s.1=0
    · rw[if_pos h0,qQ,qQ]
      show (if hasB a0 ((j+1:Nat):Int)=true then _ else _)=_
      by_cases hh:hasB a0 ((j+1:Nat):Int)=true
      · rw[if_pos hh,if_pos ⟨h0,hh⟩,law24_ServerCommon.j88,w]; rfl
      rw[if_neg hh,if_neg (fun h=>hh h.2),law24_ServerCommon.j88,w]; rfl
    rw[if_neg h0,qQ,if_neg (by decide),if_neg (fun h=>h0 h.1),law24_ServerCommon.j88,w]; rfl
  rw[if_neg hb,show stepC a0 a1 s ((j+1:Nat):Int)=s by rw[stepC,if_neg hb],law24_ServerCommon.j88,w]
theorem fold_eq (a0 a1:Int):∀ (L:List Int) (s:Int×List UInt8),(∀ v∈L,v≠0)→
 List.foldl (stepC a0 a1) s L=((if s.1=0 then (L.find? fun v=>bitB a1 v&&hasB a0 v).getD 0 else s.1),s.2++(L.filter (bitB a1)).map vax)
 |[],s,_=>by
  rw[List.foldl_nil,List.filter_nil,qk,qT,List.find?_nil]
  split
  · rename_i h; show s=(0,s.2); rw[← h]
  rfl
 |v::L,s,h=>by
  have hv:=h v (uJ ..);rw[List.foldl_cons,fold_eq a0 a1 L _ fun x hx=>h x (uc _ hx),List.find?_cons,List.filter_cons,stepC]
  cases hb:bitB a1 v with
  |false=>simp only[ue,if_false,Bool.false_and]
  |true=>
   rw[if_pos rfl,if_pos rfl,Bool.true_and,qn,ui]
   cases hh:hasB a0 v with
   |false=>simp
   |true=>
    by_cases h0:s.1=0
    · simp[h0,hv]
    simp[h0]
theorem find_eq {a0 a1:Int}{B:List UInt8}:∀ (L:List Int),(∀ v∈L,inB B v=bitB a1 v)→(L.filter (hasB a0)).find? (inB B)=L.find? fun v=>bitB a1 v&&hasB a0 v
 |[],_=>rfl
 |v::L,h=>by
  have ih:=find_eq (a0:=a0) L fun x hx=>h x (uc _ hx)
  have hv:=h v (uJ ..);rw[List.filter_cons,List.find?_cons]
  cases hh:hasB a0 v with
  |false=>rw[if_neg (by decide),qs,ih]
  |true=>
   rw[if_pos rfl,qC,List.find?_cons,hv,ih]
theorem byteOf_v {v:Int}(h:1≤v)(h':v≤12):((vax v).toNat:Int)=v:=by
 have w:IntKind.u8.wrap v=v:=by rw[IntKind.wrap_u8]; omega
 rw[vax,w,UInt8.toNat_ofNat']
 omega
theorem inB_eq (a1:Int){v:Int}(hv:v∈dnL 12):inB (((dnL 12).filter (bitB a1)).map vax) v=bitB a1 v:=by
 have hm:∀ x,x∈dnL 12→1≤x∧x≤12:=fun x hx=>by have:=upL_mem (List.mem_reverse.1 hx); omega
 cases hb:bitB a1 v with
 |true=>
  rw[inB,List.any_eq_true];exact⟨vax v,List.mem_map_of_mem (List.mem_filter.2 ⟨hv,hb⟩),decide_eq_true (byteOf_v (hm v hv).1 (hm v hv).2)⟩
 |false=>
  rw[inB,List.any_eq_false]
  intro b hbm hd
  obtain⟨u,hu,rfl⟩:=ut.1 hbm;obtain⟨u1,u2⟩:=List.mem_filter.1 hu;rw[decide_eq_true_eq,byteOf_v (hm u u1).1 (hm u u1).2] at hd;subst hd
  rw[u2] at hb; cases hb
theorem place_ok (a:Int){n:Int}(h0:0<n)(h1:n≤1000):∃ k,wz a n=some k∧0≤k∧k<n:=by
 unfold wz;rw[show grd (n≠0)=some () from if_pos (by omega),qQ];have hm:=Int.tmod_lt_of_pos a h0
 have hl : -n<a.tmod n:=by
  have:=Int.lt_tmod_of_pos a h0
  omega
 split
 · refine⟨a.tmod n+n,?_,by omega,by omega⟩
   show some (IntKind.i64.wrap _)=_
   rw[i64_id (by omega) (by omega)]
 exact⟨a.tmod n,rfl,by omega,by omega⟩
theorem law24_ServerCommon_true (a0 a1 a2:Int):law24_ServerCommon a0 a1 a2=some true:=by
 have h1:=l12_eq a0 a1 a2 xK 0 (by decide) (by omega);rw[law24_ServerCommon];refine h1.trans ?_;rw[afterN,cNew,qQ]
 show (if (0:Int)=0 then law24_ServerCommon.l82 a0 a1 a2 (cSv a0) xK 0 [] 12 else some false)=_
 rw[if_pos rfl];have h2:=l82_eq a0 a1 a2 (cSv a0) 12 xK (0,[]) (by decide) (by decide) (qv _);refine h2.trans ?_;rw[fold_eq a0 a1 (dnL 12) (0,[]) (fun v hv=>by have:=upL_mem (List.mem_reverse.1 hv); omega)];obtain⟨k,hk,_,_⟩:=place_ok a2 (n:=1000) (by decide) (by decide)
 have hB:(((dnL 12).filter (bitB a1)).map vax).length≤12:=by
  rw[uf];exact uF (List.length_filter_le _ _) (by decide)
 have ha:xU (cSv a0) (((dnL 12).filter (bitB a1)).map vax)=some (((dnL 12).find? fun v=>bitB a1 v&&hasB a0 v).getD 0):=by
  rw[xU,show grd (qa (((dnL 12).filter (bitB a1)).map vax)<9223372036854775807)=some () from if_pos (by omega),qQ]
  show some (((nsU a0 12).reverse.find? _).getD 0)=_
  rw[nsU,← List.filter_reverse]
  show some ((((dnL 12).filter (hasB a0)).find? _).getD 0)=_
  rw[find_eq (dnL 12) fun v hv=>inB_eq a1 hv]
 have hh:xy (cSv a0) ⟨1,2,7,k,0,[],0,((dnL 12).filter (bitB a1)).map vax⟩=some (⟨2,7,2,k,((dnL 12).find? fun v=>bitB a1 v&&hasB a0 v).getD 0,[],0,[]⟩,true,cSv a0):=by
  rw[xy]
  show (if (7:Int)=7 then (if (1:Int)=1 then (xU (cSv a0) _).bind _ else _) else _)=_
  rw[if_pos rfl,if_pos rfl,ha]
  rfl
 have he:xz (cSv a0)=some []:=by
  rw[xz]
  rfl
 rw[law24_ServerCommon.l82,if_neg (by decide),hk,qQ,if_pos rfl,qK,hh,qQ];simp only[decide_true,qE,if_true,he,qQ,awake24]
 rfl
end
section
open Go.ChangeShapes Go.WideShapes Go.ChangeAt Go.RowKit Go.Shelf Go.Lib AM
theorem own : ownKnob Tryz.prog.godebug=none:=by kernel_rfl
def listed : List (String×DataW Unit):=[("unicode/utf8.acceptRanges",Rows.laid_unicode_utf8_acceptRanges),("unicode/utf8.first",Rows.laid_unicode_utf8_first)]
noncomputable def laidWorld (os:Os):World:=
 let w0:=World.holding qg os ⟨#[],#[],[]⟩
 let put (h:Array Obj) (g:Nat) (cs:Array Value):Array Obj:=h.modify g fun
  |.cells _ t frozen=>.cells cs t frozen
  |o=>o
 let h1:=put w0.heap (vbs.g 3) (Lib.firstTab.map fun z=>Value.int .u8 z).toArray
 let h2:=put h1 (vbs.g 4) ((uE 16).flatMap fun i=>[Value.int .u8 (Lib.accLo i),Value.int .u8 (Lib.accHi i)]).toArray
 { w0 with heap:=h2 }
theorem laid_met (os:Os)(args:Array Value):laidMet qg listed ((laidWorld os).forCall (fun _ _=>0) ⟨#[],args,[]⟩).memory:=
 (LaidIn.of_run (l:=listed) [0,1] 8 (by kernel_rfl) (by kernel_rfl) (by kernel_rfl) (by kernel_rfl)).met
theorem laid_metH (os:Os)(args:Array Value):laidMetH qg listed ((laidWorld os).forCall (fun _ _=>0) ⟨#[],args,[]⟩).memory:=laid_met os args
theorem firstD : Rows.laid_unicode_utf8_first=Lib.firstData:=by kernel_rfl
theorem acceptD : (Rows.laid_unicode_utf8_acceptRanges:DataW Unit)=Lib.acceptData:=by kernel_rfl
theorem u8types : U8Types qg vbs:=⟨va1.t5,va1.t119,va1.t138,va1.t139⟩
theorem glb_of_laid {W:World}(hL:laidMetH qg listed W):Glb W fun b=>b<W.heap.size:=by
 have h':laidMet qg listed W:=hL;have r1:=Lib.laidMet.reads h' (.tail _ (.head _));have r2:=Lib.laidMet.reads h' (.head _);rw[firstD] at r1;rw[acceptD] at r2;have ht:Lib.Utf8Tabs (vbs.g 3) (vbs.g 4) W:=utf8Tabs_of_readsT u8types ⟨by kernel_rfl,by kernel_rfl,by kernel_rfl,by kernel_rfl,by kernel_rfl,by kernel_rfl,by kernel_rfl⟩ r1 r2;obtain⟨t1,t2⟩:=ht
 have lt:∀ {g o:Nat} {v:Value},W.cell? ⟨g,o,none⟩=some v→g<W.heap.size:=by
  intro g o v h
  refine Nat.lt_of_not_le fun hle=>?_
  unfold World.cell? at h;rw[Array.getElem?_eq_none hle] at h;cases h
 refine⟨fun g vs hm=>?_,fun g vs hm i v hv=>?_⟩
 · rcases uv.1 hm with e|hm
   · cases e; exact lt (t1 0 (by decide))
   rcases uv.1 hm with e|hm
   · cases e; exact lt (t2 0 (by decide)).1
   cases hm
 rcases uv.1 hm with e|hm
 · cases e
   have hi:i<256:=by
    have:=(qG.1 hv).1; simpa using this
   rw[u6,List.getElem?_range hi] at hv;cases hv;exact t1 i hi
 rcases uv.1 hm with e|hm
 · cases e
   have hi:i<32:=by
    have:=(qG.1 hv).1; simpa using this
   rw[u6,List.getElem?_range hi] at hv;cases hv;have h1:=t2 (i / 2) (by omega)
   have:i % 2=0∨i % 2=1:=by omega
   rcases this with h|h
   · have e:2*(i / 2)=i:=by omega
     rw[e] at h1
     simp only[h,if_true]; exact h1.1
   have e:2*(i / 2)+1=i:=by omega
   rw[e] at h1
   simp only[h]; exact h1.2
 cases hm
end
section
namespace AM
open Go.RowKit Go.ChangeShapes Go.WideShapes Go.Deep
section
variable {H:Type} {enc:TypeId×Value→H} {P:Program} {w:World} {base:Nat} {spare:Nat→Bool} {held:Bool}
def OpensS (enc:TypeId×Value→H)(P:Program)(w:World)(base:Nat)(spare:Nat→Bool)(held:Bool)(N:Nat)(t:TypeId)(A:List AV→Prop):Prop:=
 ∀ n cs y,DataW.trod enc P w base spare held n t cs=some y→SizeOf.sizeOf y.1<N→(∀ x∈y.1.weights P t,x≤reachBytes)→∃ avs,avs.length=cs.length∧A avs∧∀ i,i<avs.length→VR (Env.start w) (gc avs i) (cs.getD i undef)
variable {N:Nat}
theorem OpensS.mono {t:TypeId}{A B:List AV→Prop}(h:OpensS enc P w base spare held N t A)(k:∀ l,A l→B l):OpensS enc P w base spare held N t B:=fun n cs y hy hN hs=>by
 obtain⟨avs,h1,h2,h3⟩:=h n cs y hy hN hs;exact⟨avs,h1,k _ h2,h3⟩
theorem Opens.sized {t:TypeId}{A:List AV→Prop}(h:Opens enc P w base spare held t A):OpensS enc P w base spare held N t A:=fun n cs y hy _ _=>h n cs y hy
theorem OpensS.agg {t:TypeId}{A:List AV→Prop}(h:∀ N,OpensS enc P w base spare held N t A){vs:Array Value}{d:DataW H}{p:List MemPlace}(hv:DataW.Trod enc P w base spare held t (.agg vs) d p)(hw:∀ x∈d.weights P t,x≤reachBytes):∃ l,A l∧VR (Env.start w) (.agg l) (.agg vs):=by
 obtain⟨n,hn⟩:=hv;obtain⟨avs,e1,e2,e3⟩:=h _ _ _ _ hn (qx _) hw;refine⟨avs,e2,.agg _ _ (by simpa [Value.cells] using e1.symm) fun i hi=>?_⟩;have:=e3 i hi
 simpa [Value.cells,qy,uu] using this
end
end AM
open AM
section
variable {H:Type} {enc:TypeId×Value→H} {w:World} {base:Nat} {spare:Nat→Bool} {held:Bool} {N:Nat}
end
end
end Go.Proofs.YtaahlckibpiphaaGreatDoor
