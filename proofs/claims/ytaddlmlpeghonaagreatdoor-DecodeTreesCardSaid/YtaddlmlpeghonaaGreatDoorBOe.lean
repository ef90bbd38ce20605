/- Parts of the proof, cut down to what it needs. -/
import Derived.Test.YtaddlmlpeghonaaGreatDoorBRa
set_option linter.constructorNameAsVariable false
set_option linter.unusedSimpArgs false
set_option linter.unusedVariables false
namespace Go.Proofs.YtaddlmlpeghonaaGreatDoor
open _root_.List renaming length → qc, flatMap → qe, length_append → qi, length_cons → qj, length_nil → ql, mem_cons_of_mem → qm, mem_cons_self → qn, append_assoc → qp, getD_eq_getElem?_getD → qu, map_nil → qw, nil_append → qx, append_nil → qz, drop_zero → qA, map_append → qB, length_singleton → qC, map_cons → qD, mem_cons → qF, cons_append → qG, length_eq_zero_iff → qK, getElem?_append_left → qL, replicate → qO, flatMap_cons → qP, flatMap_append → qR, range_zero → qV, getElem?_set_ne → qY, getElem?_eq_getElem → qZ, all_cons → q1, range_succ → q2, mem_append_right → q5, length_map → q7, getElem?_eq_some_iff → ua, mem_map → ud, all_nil → uf, all_eq_true → ug, mem_append → ui, take_length → uj, set_cons_zero → ul, take_of_length_le → um, getElem?_append_right → un, flatMap_nil → uo, mem_append_left → uq, take_append_drop → ut, set_cons_succ → uu, pairwise_cons → uv, mem_singleton → uw, getElem?_set_self → uz, nodup_cons → uA, getElem?_eq_none → uB, length_set → uD, filter_cons → uH, range → uJ, getElem?_cons_zero → uK, getElem?_cons_succ → uL, length_take → uN, drop_eq_getElem_cons → uP, length_drop → uR, getD_cons_zero → uY, getD_cons_succ → uZ, reverse_cons → u4, set → u5, eq_nil_of_length_eq_zero → u9, drop_drop → vg
open _root_.Option renaming bind_some → qf, map_some → uF, getD_some → uS
open _root_.Nat renaming reduceEqDiff → qa, reduceLT → qb, reduceAdd → qd, reduceLeDiff → qg, zero_add → qq, reduceMul → qs, lt_succ_self → qt, le_refl → qv, reduceSub → qH, mul_le_mul_right → q3, reduceMod → ub, lt_of_lt_of_le → uk, zero_le → ux, le_trans → uy, zero_mul → uI, sub_self → uO, sub_zero → uQ, succ_mul → uV, add_zero → uW, add_assoc → uX, add_mul → u0, lt_or_ge → u6
open _root_.Bool renaming and_eq_true → qo, not_false → qy, or_eq_true → qJ, or_true → qM, not_true → qQ, and_true → qS, and_self → qT, and_false → qU, or_false → qW, false_eq_true → ue, true_and → uC, false_ne_true → uG, false_or → uM, not_eq_true' → uT
open _root_.Int renaming toNat → qI, toNat_natCast → qX, reduceEq → u7, le_refl → ve
open _root_.BitVec renaming ofInt → qE, toNat → ur
open _root_.Array renaming length_toList → uh, getD_eq_getD_getElem? → uE, getElem?_eq_getElem → uU, getElem?_setIfInBounds_ne → u3, getElem?_modify → vj
open _root_.UInt8 renaming ofNat → uc
open Result renaming andThen_ok → qk
open Sem renaming run_bind → qr, run_pure → qN
open _root_.Go.Proofs.Tryz renaming prog → qh
section
namespace AM
open Go.RowKit Go.ChangeShapes Go.WideShapes Go.Deep
section
variable {H:Type} {enc:TypeId×Value→H} {P:Program} {w:World} {base:Nat} {spare:Nat→Bool} {held:Bool}
def OpensS (enc:TypeId×Value→H)(P:Program)(w:World)(base:Nat)(spare:Nat→Bool)(held:Bool)(N:Nat)(t:TypeId)(A:List AV→Prop):Prop:=
 ∀ n cs y,DataW.trod enc P w base spare held n t cs=some y→SizeOf.sizeOf y.1<N→(∀ x∈y.1.weights P t,x≤reachBytes)→∃ avs,avs.length=cs.length∧A avs∧∀ i,i<avs.length→VR (Env.start w) (gc avs i) (cs.getD i undef)
variable {N:Nat}
theorem OpensS.mono {t:TypeId}{A B:List AV→Prop}(h:OpensS enc P w base spare held N t A)(k:∀ l,A l→B l):OpensS enc P w base spare held N t B:=fun n cs y hy hN hs=>by
 obtain⟨avs,h1,h2,h3⟩:=h n cs y hy hN hs;exact⟨avs,h1,k _ h2,h3⟩
theorem OpensS.less {t:TypeId}{A:List AV→Prop}(h:OpensS enc P w base spare held (N+1) t A):OpensS enc P w base spare held N t A:=fun n cs y hy hN hs=>h n cs y hy (by omega) hs
theorem Opens.sized {t:TypeId}{A:List AV→Prop}(h:Opens enc P w base spare held t A):OpensS enc P w base spare held N t A:=fun n cs y hy _ _=>h n cs y hy
theorem opensS_string {t:TypeId}(ht:P.underlying t=some .string):OpensS enc P w base spare held N t fun l=>∃ s,l=[.str s]∧s.length≤reachBytes:=by
 intro n cs y hy _ hs
 obtain⟨m,rfl,hy,hl⟩:=DataW.trod_string ht hy;refine⟨[.str m.data.toList],rfl,⟨_,rfl,?_⟩,fun i hi=>by simp at hi; subst hi; exact .str _ _ rfl⟩;have:=hs m.data.toList.length (by subst hy; simp[DataW.weights])
 simpa using this
def tiles (P:Program):List Field→Nat→Nat→Bool
 |[],o,e=>o==e
 |f::l,o,e=>f.offset==o&&tiles P l (o+P.cellsOf f.type) e
theorem tile {cs:List Value}{A:Nat→List AV→Prop}:∀ (l:List Field) (o k e:Nat),tiles P l o e=true→
 (∀ j f,l[j]?=some f→∃ avs:List AV,avs.length=P.cellsOf f.type∧A (k+j) avs∧∀ i,i<avs.length→VR (Env.start w) (gc avs i) (cs.getD (f.offset+i) undef))→
 ∃ parts:List (List AV),parts.length=l.length∧(∀ j,j<l.length→A (k+j) (parts.getD j []))∧o+parts.flatten.length=e∧∀ i,i<parts.flatten.length→VR (Env.start w) (gc parts.flatten i) (cs.getD (o+i) undef)
 |[],o,k,e,h,_=>⟨[],rfl,(fun j hj=>by simp at hj),by simpa [tiles] using h,(fun i hi=>by simp at hi)⟩
 |f::l,o,k,e,h,hA=>by
  simp only[tiles,qo,beq_iff_eq] at h;obtain⟨avs,a1,a2,a3⟩:=hA 0 f rfl
  obtain⟨parts,p1,p2,p3,p4⟩:=tile l (o+P.cellsOf f.type) (k+1) e h.2 fun j g hg=>by
   obtain⟨x,x1,x2,x3⟩:=hA (j+1) g (by simpa using hg);exact⟨x,x1,by rw[show k+1+j=k+(j+1) by omega]; exact x2,x3⟩
  refine⟨avs::parts,by simp[p1],?_,by rw[List.flatten_cons,qi]; omega,?_⟩
  · intro j hj
    cases j with
    |zero=>simpa using a2
    |succ j=>
     have:=p2 j (by simpa using hj);rw[show k+1+j=k+(j+1) by omega] at this
     simpa using this
  intro i hi
  rw[List.flatten_cons] at hi ⊢
  by_cases hlt:i<avs.length
  · have:=a3 i hlt;rw[h.1] at this;rw[gc,qu,qL hlt]
    simpa [gc,qu] using this
  rw[qi] at hi;have:=p4 (i-avs.length) (by omega);rw[show o+P.cellsOf f.type+(i-avs.length)=o+i by omega] at this;rw[gc,qu,un (by omega)]
  simpa [gc,qu] using this
theorem mem_weightsEach {x:Nat}:∀ {ts:List TypeId} {ds:List (DataW H)} (j:Nat) (t:TypeId) (d:DataW H),ts[j]?=some t→ds[j]?=some d→x∈d.weights P t→x∈DataW.weightsEach P ts ds
 |[],_,j,t,d,h,_,_=>by simp at h
 |_::_,[],j,t,d,_,h,_=>by simp at h
 |t'::ts,d'::ds,j,t,d,ht,hd,hx=>by
  rw[DataW.weightsEach,ui]
  cases j with
  |zero=>
   simp at ht hd; subst ht hd; exact Or.inl hx
  |succ j=>exact Or.inr (mem_weightsEach j t d (by simpa using ht) (by simpa using hd) hx)
theorem XY {x:Nat}{e:TypeId}:∀ {ds:List (DataW H)} {d:DataW H},d∈ds→x∈d.weights P e→x∈DataW.weightsAll P e ds
 |[],_,h,_=>by cases h
 |d'::ds,d,h,hx=>by
  rw[DataW.weightsAll,ui]
  rcases qF.1 h with rfl|h
  · exact Or.inl hx
  exact Or.inr (XY h hx)
theorem xY {t:TypeId}{fs:Array Field}(ht:P.underlying t=some (.struct fs))(hC:tiles P fs.toList 0 (P.cellsOf t)=true){A:Nat→List AV→Prop}
 (hA:∀ j f,fs[j]?=some f→OpensS enc P w base spare held N f.type (A j)):OpensS enc P w base spare held (N+1) t fun l=>∃ parts:List (List AV),l=parts.flatten∧parts.length=fs.size∧∀ j,j<fs.size→A j (parts.getD j []):=by
 intro n cs y hy hN hs
 obtain⟨ys,n',_,he,hlen,hyl,hf⟩:=DataW.trod_struct ht hy
 have hends:∀ (l:List Field) (o e:Nat),tiles P l o e=true→o≤e∧∀ (j:Nat) (f:Field),l[j]?=some f→f.offset+P.cellsOf f.type≤e:=by
  intro l
  induction l with
  |nil=>intro o e h; simp[tiles] at h; exact⟨by omega,fun j f h=>by simp at h⟩
  |cons f l ih=>
   intro o e h
   simp only[tiles,qo,beq_iff_eq] at h;obtain⟨h1,h2⟩:=ih _ _ h.2;refine⟨by omega,fun j g hg=>?_⟩
   cases j with
   |zero=>simp at hg; subst hg; omega
   |succ j=>exact h2 j g (by simpa using hg)
 obtain⟨parts,p1,p2,p3,p4⟩:=tile (w:=w) (cs:=cs) (A:=A) fs.toList 0 0 (P.cellsOf t) hC fun j f hj=>by
  have hfj:fs[j]?=some f:=by simpa using hj
  have hlt:j<fs.size:=(Array.getElem?_eq_some_iff.1 hfj).1;have h1:=hf j f hfj;rw[qZ (by omega)] at h1;have hend:=(hends _ _ _ hC).2 j f hj;have hm:ys[j]'(by omega)∈ys:=List.getElem_mem _
  have hsz:SizeOf.sizeOf (ys[j]'(by omega)).1<N:=by
   have h2:(ys[j]'(by omega)).1∈ys.map (·.1):=List.mem_map_of_mem hm;have h3:=List.sizeOf_lt_of_mem h2;rw[he] at hN;simp only[DataW.agg.sizeOf_spec] at hN
   omega
  obtain⟨avs,e1,e2,e3⟩:=hA j f hfj _ _ _ h1 hsz fun x hx=>hs x (by
   rw[he,DataW.weights,ht]
   exact mem_weightsEach j f.type _ (by simp[hj]) (by rw[List.getElem?_map,qZ (by omega)]; rfl) hx)
  have hl1:avs.length=P.cellsOf f.type:=by rw[e1,uN,uR]; omega
  refine⟨avs,hl1,by rw[qq]; exact e2,fun i hi=>?_⟩;have h4:=e3 i hi
  have h5:((cs.drop f.offset).take (P.cellsOf f.type)).getD i undef=cs.getD (f.offset+i) undef:=by
   simp only[qu];rw[List.getElem?_take_of_lt (by omega),List.getElem?_drop]
  rw[h5] at h4; exact h4
 refine⟨parts.flatten,by omega,⟨parts,rfl,by simpa using p1,fun j hj=>?_⟩,fun i hi=>?_⟩
 · have:=p2 j (by simpa using hj)
   rwa [qq] at this
 have:=p4 i hi
 rwa [qq] at this
theorem wB {t e:TypeId}(ht:P.underlying t=some (.slice e))(hpos:0<P.cellsOf e){A:List AV→Prop}(hA:OpensS enc P w base spare held N e A):
 OpensS enc P w base spare held (N+1) t fun l=>∃ es,l=[.ds true (List.flatten es) (qc es) false]∧(∀ x∈es,A x∧x.length=P.cellsOf e)∧es.length*P.bytesOf e≤reachBytes∧es.length≤maxLen:=by
 intro n cs y hy hN hs
 rcases open_slice ht hy with ⟨rfl,_⟩|⟨a,len,cap,m,n',D,Pl,rfl,_,hl,hm,hmm,hye,hi⟩
 · refine⟨[.ds true [] 0 false],rfl,⟨[],by simp,by simp,by simp,by simp⟩,fun i hi=>?_⟩
   simp at hi; subst hi; exact .dsn _
 have hlm:len≤m:=by rw[hmm]; split<;>omega
 have hlen:len*P.bytesOf e≤reachBytes:=by
  have:=hs ((((uJ len).map D).length+((uJ (m-len)).map fun j=>D (len+j)).length)*P.bytesOf e) (by rw[hye]; simp only[DataW.weights,ht]; exact qn ..);rw[q7,List.length_range] at this;exact uy (q3 _ (Nat.le_add_right _ _)) this
 have each:∀ i,i<len→∃ avs:List AV,avs.length=P.cellsOf e∧A avs∧∀ j,j<avs.length→∃ v,w.cell? ((a.add (i*P.cellsOf e)).add j)=some v∧VR (Env.start w) (gc avs j) v:=by
  intro i hil
  obtain⟨cs',h1,h2⟩:=hi i (by omega);obtain⟨_,hcl,hat⟩:=World.cells?_some h1;have hmem:D i∈(uJ len).map D:=List.mem_map_of_mem (List.mem_range.2 hil)
  have hsz:SizeOf.sizeOf (D i)<N:=by
   have h3:=List.sizeOf_lt_of_mem hmem;rw[hye] at hN;simp only[DataW.slice.sizeOf_spec] at hN
   omega
  obtain⟨avs,e1,e2,e3⟩:=hA _ _ _ h2 hsz fun x hx=>hs x (by
   rw[hye]; simp only[DataW.weights,ht]
   exact qm _ (uq _ (XY hmem hx)))
  refine⟨avs,by omega,e2,fun j hj=>⟨cs'.getD j undef,?_,e3 j hj⟩⟩
  rw[hat j (by omega),qu,qZ (by omega)]; rfl
 obtain⟨g,hg⟩:=Classical.axiomOfChoice (r:=fun (i:Fin len) (avs:List AV)=>avs.length=P.cellsOf e∧A avs∧∀ j,j<avs.length→∃ v,w.cell? ((a.add (i.1*P.cellsOf e)).add j)=some v∧VR (Env.start w) (gc avs j) v) (fun i=>each i.1 i.2)
 have hes:∀ x∈List.ofFn g,A x∧x.length=P.cellsOf e:=by
  intro x hx
  obtain⟨i,rfl⟩:=List.mem_ofFn.1 hx;exact⟨(hg i).2.1,(hg i).1⟩
 refine⟨[.ds true (List.ofFn g).flatten (List.ofFn g).length false],rfl,⟨_,rfl,hes,by simpa using hlen,by simp; omega⟩,fun i hi=>?_⟩
 simp at hi; subst hi
 have hfl:=length_flat (es:=List.ofFn g) (sz:=P.cellsOf e) fun x hx=>(hes x hx).2
 have hsp:(List.ofFn g).flatten.length≠0→a.spot=none:=by
  intro h0
  rw[hfl] at h0
  have hl0:0<len:=by
   rcases Nat.eq_zero_or_pos len with h|h
   · subst h; simp at h0
   exact h
  obtain⟨v,h1,_⟩:=(hg ⟨0,hl0⟩).2.2 0 (by rw[(hg ⟨0,hl0⟩).1]; exact hpos);have:=World.cell?_spot h1
  simpa [Addr.add] using this
 have hcell:∀ k,k<(List.ofFn g).flatten.length→∃ v,w.cell? ⟨a.block,a.off+k,none⟩=some v∧VR (Env.start w) (gc (List.ofFn g).flatten k) v:=by
  intro k hk
  have hs:=hsp (by omega);rw[hfl] at hk;simp only[List.length_ofFn] at hk;have hd:k / P.cellsOf e<len:=Nat.div_lt_of_lt_mul (by rw[Nat.mul_comm]; exact hk);have hmd:k % P.cellsOf e<P.cellsOf e:=Nat.mod_lt _ hpos
  have hsplit:k / P.cellsOf e*P.cellsOf e+k % P.cellsOf e=k:=by rw[Nat.mul_comm]; exact Nat.div_add_mod _ _
  obtain⟨v,h1,h2⟩:=(hg ⟨_,hd⟩).2.2 (k % P.cellsOf e) (by rw[(hg ⟨_,hd⟩).1]; exact hmd);refine⟨v,?_,?_⟩
  · rw[add_spot hs,add_spot rfl] at h1;simp only at h1
    rw[uX,hsplit] at h1; exact h1
  have:=gc_flat (es:=List.ofFn g) (fun x hx=>(hes x hx).2) (k / P.cellsOf e) (k % P.cellsOf e) hmd (by simpa using hd);rw[hsplit] at this
  rw[this]; simpa using h2
 obtain⟨vs,hvs⟩:∃ vs:Nat→Value,∀ k,k<(List.ofFn g).flatten.length→w.cell? ⟨a.block,a.off+k,none⟩=some (vs k)∧VR (Env.start w) (gc (List.ofFn g).flatten k) (vs k):=by
  refine⟨fun k=>(w.cell? ⟨a.block,a.off+k,none⟩).getD undef,fun k hk=>?_⟩;obtain⟨v,h1,h2⟩:=hcell k hk
  simp only[h1,uS]; exact⟨trivial,h2⟩
 show VR (Env.start w) (.ds true _ _ false) (.slice (some a) len cap)
 rw[List.length_ofFn];refine .ds _ _ _ _ a cap vs ?_ ?_ (fun k hk=>(hvs k hk).2) hl (fun h=>by cases h) ?_
 · by_cases h0:(List.ofFn g).flatten.length=0
   · exact .inl (qK.1 h0)
   exact .inr (hsp h0)
 · by_cases h0:(List.ofFn g).flatten.length=0
   · exact .inl h0
   refine .inr ⟨?_,fun k hk=>(hvs k hk).1⟩;obtain⟨_,h,_⟩:=hcell 0 (by omega);exact cell_lt (a:=⟨a.block,a.off+0,none⟩) h
 unfold maxLen at *; omega
theorem OpensS.arg {t:TypeId}{A:List AV→Prop}(h:∀ N,OpensS enc P w base spare held N t A){v:Value}{d:DataW H}{p:List MemPlace}(hv:DataW.Trod enc P w base spare held t v d p)(hw:∀ x∈d.weights P t,x≤reachBytes)(h1:v.cells.toList=[v]):∃ a,A [a]∧VR (Env.start w) a v:=by
 obtain⟨n,hn⟩:=hv;obtain⟨avs,e1,e2,e3⟩:=h _ _ _ _ hn (qt _) hw;rw[h1] at e1 e3
 match avs,e1 with
 |[a],_=>exact⟨a,e2,by simpa [gc] using e3 0 (by simp)⟩
theorem OpensS.agg {t:TypeId}{A:List AV→Prop}(h:∀ N,OpensS enc P w base spare held N t A){vs:Array Value}{d:DataW H}{p:List MemPlace}(hv:DataW.Trod enc P w base spare held t (.agg vs) d p)(hw:∀ x∈d.weights P t,x≤reachBytes):∃ l,A l∧VR (Env.start w) (.agg l) (.agg vs):=by
 obtain⟨n,hn⟩:=hv;obtain⟨avs,e1,e2,e3⟩:=h _ _ _ _ hn (qt _) hw;refine⟨avs,e2,.agg _ _ (by simpa [Value.cells] using e1.symm) fun i hi=>?_⟩;have:=e3 i hi
 simpa [Value.cells,qu,uE] using this
end
end AM
open AM
theorem Xe {α:Type}{e:α→List AV}{p:α→Prop}{es:List (List AV)}(h:∀ x∈es,∃ y:α,x=e y∧p y):∃ zs:List α,es.flatten=zs.flatMap e∧zs.length=es.length∧∀ z∈zs,p z:=by
 induction es with
 |nil=>exact⟨[],rfl,rfl,fun z hz=>by cases hz⟩
 |cons x es ih=>
  obtain⟨zs,h1,h2,h3⟩:=ih fun y hy=>h y (by simp[hy])
  obtain⟨y,rfl,hp⟩:=h x (by simp);refine⟨y::zs,by simp[h1],by simp[h2],fun z hz=>?_⟩
  rcases qF.1 hz with rfl|hz
  · exact hp
  exact h3 z hz
def vbf (n:Int):Prop := -9223372036854775808≤n∧n<9223372036854775808
theorem wf64 {n:Int}(h:(Lit.int .i64 n).wf=true):vbf n:=by
 simp only[Lit.wf,IntKind.min,IntKind.max,IntKind.signed,IntKind.bits,qo,decide_eq_true_eq,if_true] at h
 unfold vbf; omega
section
variable {H:Type} {enc:TypeId×Value→H} {w:World} {base:Nat} {spare:Nat→Bool} {held:Bool} {N:Nat}
theorem wS : OpensS enc qh w base spare held N 3 fun x=>∃ n,x=[.int .i64 n]∧vbf n:=
 ((opens_int Tryz.underlying3).mono fun x ⟨n,h1,h2⟩=>⟨n,h1,wf64 h2⟩).sized
theorem opens_str : OpensS enc qh w base spare held N 9 fun x=>∃ s,x=[.str s]∧s.length≤140737488351232:=opensS_string Tryz.underlying9
theorem opens_ints (N:Nat):OpensS enc qh w base spare held N 45 fun x=>∃ zs:List Int,x=[AV.ds true (zs.flatMap encI) zs.length false]∧zs.length*8≤140737488351232∧∀ z∈zs,vbf z:=by
 refine ((wB (N:=N) Tryz.underlying45 (by decide +kernel) wS).mono ?_).less;rintro x ⟨es,rfl,h1,h2,_⟩
 obtain⟨l,e1,e2,e3⟩:=Xe (e:=encI) (p:=vbf) fun y hy=>(h1 y hy).1
 rw[show Tryz.prog.bytesOf 3=8 by kernel_rfl] at h2;exact⟨l,by rw[e1,e2],by rw[e2]; exact h2,e3⟩
end
end
section
open AM
section
variable {H:Type} {enc:TypeId×Value→H} {w:World} {base:Nat} {spare:Nat→Bool} {held:Bool}
def okRaw (y:GRaw):Prop:=vbf y.fTag∧vbf y.fWire∧vbf y.fN∧y.fB.length≤140737488351232
theorem opens_raw (N:Nat):OpensS enc qh w base spare held N 62 fun x=>∃ y:GRaw,x=encGRaw y∧okRaw y:=by
 refine ((xY (N:=N) (A:=fun j x=>if j<3 then ∃ n,x=[.int .i64 n]∧vbf n else ∃ s,x=[.str s]∧s.length≤140737488351232) Tryz.underlying62 (by decide +kernel) ?_).mono ?_).less
 · intro j f hf
   match j with
   |0=>cases hf; exact wS
   |1=>cases hf; exact wS
   |2=>cases hf; exact wS
   |3=>cases hf; exact opens_str
   |j+4=>simp at hf
 rintro x ⟨parts,rfl,hl,hx⟩;obtain⟨a,e0,w0⟩:=hx 0 (by decide);obtain⟨b,e1,w1⟩:=hx 1 (by decide);obtain⟨c,e2,w2⟩:=hx 2 (by decide);obtain⟨d,e3,w3⟩:=hx 3 (by decide);refine⟨⟨a,b,c,d⟩,?_,w0,w1,w2,w3⟩
 match parts,hl with
 |[p,q,r,s],_=>
  simp only[uY,uZ] at e0 e1 e2 e3
  subst e0 e1 e2 e3; rfl
theorem opens_raws (N:Nat):OpensS enc qh w base spare held N 28 fun x=>∃ zs:List GRaw,x=[AV.ds true (zs.flatMap encGRaw) zs.length false]∧zs.length*40≤140737488351232∧∀ y∈zs,okRaw y:=by
 refine ((wB (N:=N) Tryz.underlying28 (by decide +kernel) (opens_raw N)).mono ?_).less;rintro x ⟨es,rfl,h1,h2,_⟩
 obtain⟨l,e1,e2,e3⟩:=Xe fun y hy=>(h1 y hy).1
 rw[show Tryz.prog.bytesOf 62=40 by kernel_rfl] at h2;exact⟨l,by rw[e1,e2],by rw[e2]; exact h2,e3⟩
end
end
section
open AM
def okType (y:GType):Prop:=vbf y.fKind∧y.fName.length≤140737488351232
def okField (y:GField):Prop:=y.fName.length≤140737488351232∧vbf y.fTag∧vbf y.fLabel∧okType y.fType
def vao (y:GMessage):Prop:=y.fName.length≤140737488351232∧(y.fFields.length*56≤140737488351232∧∀ v∈y.fFields,okField v)∧(y.fReserved.length*8≤140737488351232∧∀ v∈y.fReserved,vbf v)
def okNamed (y:GNamed):Prop:=y.fName.length≤140737488351232∧vbf y.fN
def Yj (y:GEnumeration):Prop:=y.fName.length≤140737488351232∧(y.fValues.length*24≤140737488351232∧∀ v∈y.fValues,okNamed v)
def vbn (y:GMethod):Prop:=y.fName.length≤140737488351232∧y.fIn.length≤140737488351232∧y.fOut.length≤140737488351232
def okSchema (y:GSchema):Prop:=y.fName.length≤140737488351232∧(y.fMessages.length*64≤140737488351232∧∀ v∈y.fMessages,vao v)∧(y.fEnums.length*40≤140737488351232∧∀ v∈y.fEnums,Yj v)∧(y.fMethods.length*48≤140737488351232∧∀ v∈y.fMethods,vbn v)
section
variable {H:Type} {enc:TypeId×Value→H} {w:World} {base:Nat} {spare:Nat→Bool} {held:Bool}
theorem opens_Type (N:Nat):OpensS enc qh w base spare held N 55 fun x=>∃ y:GType,x=encGType y∧okType y:=by
 refine ((xY (N:=N) (A:=fun j x=>if j=0 then ∃ z:Int,x=[.int .i64 z]∧vbf z else if j=1 then ∃ z:List UInt8,x=[.str z]∧z.length≤140737488351232 else False) Tryz.underlying55 (by decide +kernel) ?_).mono ?_).less
 · intro j f hf
   match j with
   |0=>cases hf; exact wS
   |1=>cases hf; exact opens_str
   |j+2=>simp at hf
 rintro x ⟨parts,rfl,hl,hx⟩;obtain⟨a0,e0,w0⟩:=hx 0 (by decide);obtain⟨a1,e1,w1⟩:=hx 1 (by decide);refine⟨⟨a0,a1⟩,?_,w0,w1⟩
 match parts,hl with
 |[p0,p1],_=>
  simp only[uY,uZ] at e0 e1
  subst e0 e1; rfl
theorem opens_Field (N:Nat):OpensS enc qh w base spare held N 57 fun x=>∃ y:GField,x=encGField y∧okField y:=by
 refine ((xY (N:=N) (A:=fun j x=>if j=0 then ∃ z:List UInt8,x=[.str z]∧z.length≤140737488351232 else if j=1 then ∃ z:Int,x=[.int .i64 z]∧vbf z else if j=2 then ∃ z:Int,x=[.int .i64 z]∧vbf z else if j=3 then ∃ z:GType,x=encGType z∧okType z else False) Tryz.underlying57 (by decide +kernel) ?_).mono ?_).less
 · intro j f hf
   match j with
   |0=>cases hf; exact opens_str
   |1=>cases hf; exact wS
   |2=>cases hf; exact wS
   |3=>cases hf; exact opens_Type N
   |j+4=>simp at hf
 rintro x ⟨parts,rfl,hl,hx⟩;obtain⟨a0,e0,w0⟩:=hx 0 (by decide);obtain⟨a1,e1,w1⟩:=hx 1 (by decide);obtain⟨a2,e2,w2⟩:=hx 2 (by decide);obtain⟨a3,e3,w3⟩:=hx 3 (by decide);refine⟨⟨a0,a1,a2,a3⟩,?_,w0,w1,w2,w3⟩
 match parts,hl with
 |[p0,p1,p2,p3],_=>
  simp only[uY,uZ] at e0 e1 e2 e3
  subst e0 e1 e2 e3; rfl
theorem opens_Fields (N:Nat):OpensS enc qh w base spare held N 47 fun x=>∃ zs:List GField,x=[AV.ds true (zs.flatMap encGField) zs.length false]∧zs.length*56≤140737488351232∧∀ y∈zs,okField y:=by
 refine ((wB (N:=N) Tryz.underlying47 (by decide +kernel) (opens_Field N)).mono ?_).less;rintro x ⟨es,rfl,h1,h2,_⟩
 obtain⟨l,e1,e2,e3⟩:=Xe fun y hy=>(h1 y hy).1
 rw[show Tryz.prog.bytesOf 57=56 by kernel_rfl] at h2;exact⟨l,by rw[e1,e2],by rw[e2]; exact h2,e3⟩
theorem opens_Message (N:Nat):OpensS enc qh w base spare held N 49 fun x=>∃ y:GMessage,x=encGMessage y∧vao y:=by
 refine ((xY (N:=N) (A:=fun j x=>if j=0 then ∃ z:List UInt8,x=[.str z]∧z.length≤140737488351232 else if j=1 then ∃ z:List GField,x=[AV.ds true (qe encGField z) (qc z) false]∧(z.length*56≤140737488351232∧∀ v∈z,okField v) else if j=2 then ∃ z:List Int,x=[AV.ds true (qe encI z) (qc z) false]∧(z.length*8≤140737488351232∧∀ v∈z,vbf v) else False) Tryz.underlying49 (by decide +kernel) ?_).mono ?_).less
 · intro j f hf
   match j with
   |0=>cases hf; exact opens_str
   |1=>cases hf; exact opens_Fields N
   |2=>cases hf; exact opens_ints N
   |j+3=>simp at hf
 rintro x ⟨parts,rfl,hl,hx⟩;obtain⟨a0,e0,w0⟩:=hx 0 (by decide);obtain⟨a1,e1,w1⟩:=hx 1 (by decide);obtain⟨a2,e2,w2⟩:=hx 2 (by decide);refine⟨⟨a0,a1,a2⟩,?_,w0,w1,w2⟩
 match parts,hl with
 |[p0,p1,p2],_=>
  simp only[uY,uZ] at e0 e1 e2
  subst e0 e1 e2; rfl
theorem opens_Messages (N:Nat):OpensS enc qh w base spare held N 22 fun x=>∃ zs:List GMessage,x=[AV.ds true (zs.flatMap encGMessage) zs.length false]∧zs.length*64≤140737488351232∧∀ y∈zs,vao y:=by
 refine ((wB (N:=N) Tryz.underlying22 (by decide +kernel) (opens_Message N)).mono ?_).less;rintro x ⟨es,rfl,h1,h2,_⟩
 obtain⟨l,e1,e2,e3⟩:=Xe fun y hy=>(h1 y hy).1
 rw[show Tryz.prog.bytesOf 49=64 by kernel_rfl] at h2;exact⟨l,by rw[e1,e2],by rw[e2]; exact h2,e3⟩
theorem opens_Named (N:Nat):OpensS enc qh w base spare held N 86 fun x=>∃ y:GNamed,x=encGNamed y∧okNamed y:=by
 refine ((xY (N:=N) (A:=fun j x=>if j=0 then ∃ z:List UInt8,x=[.str z]∧z.length≤140737488351232 else if j=1 then ∃ z:Int,x=[.int .i64 z]∧vbf z else False) Tryz.underlying86 (by decide +kernel) ?_).mono ?_).less
 · intro j f hf
   match j with
   |0=>cases hf; exact opens_str
   |1=>cases hf; exact wS
   |j+2=>simp at hf
 rintro x ⟨parts,rfl,hl,hx⟩;obtain⟨a0,e0,w0⟩:=hx 0 (by decide);obtain⟨a1,e1,w1⟩:=hx 1 (by decide);refine⟨⟨a0,a1⟩,?_,w0,w1⟩
 match parts,hl with
 |[p0,p1],_=>
  simp only[uY,uZ] at e0 e1
  subst e0 e1; rfl
theorem opens_Nameds (N:Nat):OpensS enc qh w base spare held N 82 fun x=>∃ zs:List GNamed,x=[AV.ds true (zs.flatMap encGNamed) zs.length false]∧zs.length*24≤140737488351232∧∀ y∈zs,okNamed y:=by
 refine ((wB (N:=N) Tryz.underlying82 (by decide +kernel) (opens_Named N)).mono ?_).less;rintro x ⟨es,rfl,h1,h2,_⟩
 obtain⟨l,e1,e2,e3⟩:=Xe fun y hy=>(h1 y hy).1
 rw[show Tryz.prog.bytesOf 86=24 by kernel_rfl] at h2;exact⟨l,by rw[e1,e2],by rw[e2]; exact h2,e3⟩
theorem vaM (N:Nat):OpensS enc qh w base spare held N 84 fun x=>∃ y:GEnumeration,x=encGEnumeration y∧Yj y:=by
 refine ((xY (N:=N) (A:=fun j x=>if j=0 then ∃ z:List UInt8,x=[.str z]∧z.length≤140737488351232 else if j=1 then ∃ z:List GNamed,x=[AV.ds true (qe encGNamed z) (qc z) false]∧(z.length*24≤140737488351232∧∀ v∈z,okNamed v) else False) Tryz.underlying84 (by decide +kernel) ?_).mono ?_).less
 · intro j f hf
   match j with
   |0=>cases hf; exact opens_str
   |1=>cases hf; exact opens_Nameds N
   |j+2=>simp at hf
 rintro x ⟨parts,rfl,hl,hx⟩;obtain⟨a0,e0,w0⟩:=hx 0 (by decide);obtain⟨a1,e1,w1⟩:=hx 1 (by decide);refine⟨⟨a0,a1⟩,?_,w0,w1⟩
 match parts,hl with
 |[p0,p1],_=>
  simp only[uY,uZ] at e0 e1
  subst e0 e1; rfl
theorem van (N:Nat):OpensS enc qh w base spare held N 23 fun x=>∃ zs:List GEnumeration,x=[AV.ds true (zs.flatMap encGEnumeration) zs.length false]∧zs.length*40≤140737488351232∧∀ y∈zs,Yj y:=by
 refine ((wB (N:=N) Tryz.underlying23 (by decide +kernel) (vaM N)).mono ?_).less;rintro x ⟨es,rfl,h1,h2,_⟩
 obtain⟨l,e1,e2,e3⟩:=Xe fun y hy=>(h1 y hy).1
 rw[show Tryz.prog.bytesOf 84=40 by kernel_rfl] at h2;exact⟨l,by rw[e1,e2],by rw[e2]; exact h2,e3⟩
theorem opens_Method (N:Nat):OpensS enc qh w base spare held N 75 fun x=>∃ y:GMethod,x=encGMethod y∧vbn y:=by
 refine ((xY (N:=N) (A:=fun j x=>if j=0 then ∃ z:List UInt8,x=[.str z]∧z.length≤140737488351232 else if j=1 then ∃ z:List UInt8,x=[.str z]∧z.length≤140737488351232 else if j=2 then ∃ z:List UInt8,x=[.str z]∧z.length≤140737488351232 else False) Tryz.underlying75 (by decide +kernel) ?_).mono ?_).less
 · intro j f hf
   match j with
   |0=>cases hf; exact opens_str
   |1=>cases hf; exact opens_str
   |2=>cases hf; exact opens_str
   |j+3=>simp at hf
 rintro x ⟨parts,rfl,hl,hx⟩;obtain⟨a0,e0,w0⟩:=hx 0 (by decide);obtain⟨a1,e1,w1⟩:=hx 1 (by decide);obtain⟨a2,e2,w2⟩:=hx 2 (by decide);refine⟨⟨a0,a1,a2⟩,?_,w0,w1,w2⟩
 match parts,hl with
 |[p0,p1,p2],_=>
  simp only[uY,uZ] at e0 e1 e2
  subst e0 e1 e2; rfl
theorem opens_Methods (N:Nat):OpensS enc qh w base spare held N 24 fun x=>∃ zs:List GMethod,x=[AV.ds true (zs.flatMap encGMethod) zs.length false]∧zs.length*48≤140737488351232∧∀ y∈zs,vbn y:=by
 refine ((wB (N:=N) Tryz.underlying24 (by decide +kernel) (opens_Method N)).mono ?_).less;rintro x ⟨es,rfl,h1,h2,_⟩
 obtain⟨l,e1,e2,e3⟩:=Xe fun y hy=>(h1 y hy).1
 rw[show Tryz.prog.bytesOf 75=48 by kernel_rfl] at h2;exact⟨l,by rw[e1,e2],by rw[e2]; exact h2,e3⟩
theorem opens_Schema (N:Nat):OpensS enc qh w base spare held N 26 fun x=>∃ y:GSchema,x=encGSchema y∧okSchema y:=by
 refine ((xY (N:=N) (A:=fun j x=>if j=0 then ∃ z:List UInt8,x=[.str z]∧z.length≤140737488351232 else if j=1 then ∃ z:List GMessage,x=[AV.ds true (qe encGMessage z) (qc z) false]∧(z.length*64≤140737488351232∧∀ v∈z,vao v) else if j=2 then ∃ z:List GEnumeration,x=[AV.ds true (qe encGEnumeration z) (qc z) false]∧(z.length*40≤140737488351232∧∀ v∈z,Yj v) else if j=3 then ∃ z:List GMethod,x=[AV.ds true (qe encGMethod z) (qc z) false]∧(z.length*48≤140737488351232∧∀ v∈z,vbn v) else False) Tryz.underlying26 (by decide +kernel) ?_).mono ?_).less
 · intro j f hf
   match j with
   |0=>cases hf; exact opens_str
   |1=>cases hf; exact opens_Messages N
   |2=>cases hf; exact van N
   |3=>cases hf; exact opens_Methods N
   |j+4=>simp at hf
 rintro x ⟨parts,rfl,hl,hx⟩;obtain⟨a0,e0,w0⟩:=hx 0 (by decide);obtain⟨a1,e1,w1⟩:=hx 1 (by decide);obtain⟨a2,e2,w2⟩:=hx 2 (by decide);obtain⟨a3,e3,w3⟩:=hx 3 (by decide);refine⟨⟨a0,a1,a2,a3⟩,?_,w0,w1,w2,w3⟩
 match parts,hl with
 |[p0,p1,p2,p3],_=>
  simp only[uY,uZ] at e0 e1 e2 e3
  subst e0 e1 e2 e3; rfl
end
end
section
open AM
section
variable {H:Type} {enc:TypeId×Value→H} {w:World} {base:Nat} {spare:Nat→Bool} {held:Bool}
end
theorem szS_of {s:GSchema}(h:okSchema s):szS s:=
 ⟨⟨h.1,fun m hm=>⟨(h.2.1.2 m hm).1,fun f hf=>((h.2.1.2 m hm).2.1.2 f hf).1⟩,fun e he=>⟨(h.2.2.1.2 e he).1,fun v hv=>((h.2.2.1.2 e he).2.2 v hv).1⟩,fun x hx=>(h.2.2.2.2 x hx).1⟩,
  h.2.1.1,h.2.2.1.1,h.2.2.2.1,fun m hm=>⟨(h.2.1.2 m hm).2.1.1,(h.2.1.2 m hm).2.2.1⟩,fun e he=>(h.2.2.1.2 e he).2.1⟩
end
section
open AM
def okOwn (y:GTree):Prop:=vbf y.fKind∧vbf y.fN∧y.fS.length≤140737488351232∧(y.fEntries.length*32≤140737488351232∧∀ e∈y.fEntries,vbf e.fTag∧e.fTrees.length*80≤140737488351232)∧(y.fRest.length*40≤140737488351232∧∀ r∈y.fRest,okRaw r)
def okDeep : Nat→GTree→Prop
 |0,t=>okOwn t
 |d+1,t=>okOwn t∧∀ x∈kids t,okDeep d x
def okTree (t:GTree):Prop:=∀ d,okDeep d t
def okEntry (e:GEntry):Prop:=vbf e.fTag∧e.fTrees.length*80≤140737488351232∧∀ x∈e.fTrees,okTree x
section
variable {H:Type} {enc:TypeId×Value→H} {w:World} {base:Nat} {spare:Nat→Bool} {held:Bool}
theorem opens_Entry {N:Nat}(ih:OpensS enc qh w base spare held N 30 fun x=>∃ y:GTree,x=encGTree y∧okTree y):OpensS enc qh w base spare held N 92 fun x=>∃ y:GEntry,x=encGEntry y∧okEntry y:=by
 have ts:OpensS enc qh w base spare held N 90 fun x=>∃ zs:List GTree,x=[AV.ds true (zs.flatMap encGTree) zs.length false]∧zs.length*80≤140737488351232∧∀ y∈zs,okTree y:=by
  refine ((wB (N:=N) Tryz.underlying90 (by decide +kernel) ih).mono ?_).less;rintro x ⟨es,rfl,h1,h2,_⟩
  obtain⟨l,e1,e2,e3⟩:=Xe fun y hy=>(h1 y hy).1
  rw[show Tryz.prog.bytesOf 30=80 by kernel_rfl] at h2;exact⟨l,by rw[e1,e2],by rw[e2]; exact h2,e3⟩
 refine ((xY (N:=N) (A:=fun j x=>if j=0 then ∃ z:Int,x=[.int .i64 z]∧vbf z else ∃ zs:List GTree,x=[AV.ds true (zs.flatMap encGTree) zs.length false]∧zs.length*80≤140737488351232∧∀ y∈zs,okTree y) Tryz.underlying92 (by decide +kernel) ?_).mono ?_).less
 · intro j f hf
   match j with
   |0=>cases hf; exact wS
   |1=>cases hf; exact ts
   |j+2=>simp at hf
 rintro x ⟨parts,rfl,hl,hx⟩;obtain⟨a0,e0,w0⟩:=hx 0 (by decide);obtain⟨a1,e1,w1⟩:=hx 1 (by decide);refine⟨⟨a0,a1⟩,?_,w0,w1⟩
 match parts,hl with
 |[p0,p1],_=>
  simp only[uY,uZ] at e0 e1
  subst e0 e1; rw[zU]; rfl
theorem opens_Tree : ∀ N:Nat,OpensS enc qh w base spare held N 30 fun x=>∃ y:GTree,x=encGTree y∧okTree y
 |0=>fun n cs y hy hN hs=>absurd hN (Nat.not_lt_zero _)
 |N+1=>by
  have es:OpensS enc qh w base spare held N 27 fun x=>∃ zs:List GEntry,x=[AV.ds true (zs.flatMap encGEntry) zs.length false]∧zs.length*32≤140737488351232∧∀ y∈zs,okEntry y:=by
   refine ((wB (N:=N) Tryz.underlying27 (by decide +kernel) (opens_Entry (opens_Tree N))).mono ?_).less;rintro x ⟨es,rfl,h1,h2,_⟩
   obtain⟨l,e1,e2,e3⟩:=Xe fun y hy=>(h1 y hy).1
   rw[show Tryz.prog.bytesOf 92=32 by kernel_rfl] at h2;exact⟨l,by rw[e1,e2],by rw[e2]; exact h2,e3⟩
  refine ((xY (N:=N) (A:=fun j x=>if j<2 then ∃ z:Int,x=[.int .i64 z]∧vbf z else if j=2 then ∃ z:List UInt8,x=[.str z]∧z.length≤140737488351232 else if j=3 then ∃ zs:List GEntry,x=[AV.ds true (zs.flatMap encGEntry) zs.length false]∧zs.length*32≤140737488351232∧∀ y∈zs,okEntry y else ∃ zs:List GRaw,x=[AV.ds true (zs.flatMap encGRaw) zs.length false]∧zs.length*40≤140737488351232∧∀ y∈zs,okRaw y) Tryz.underlying30 (by decide +kernel) ?_).mono ?_)
  · intro j f hf
    match j with
    |0=>cases hf; exact wS
    |1=>cases hf; exact wS
    |2=>cases hf; exact opens_str
    |3=>cases hf; exact es
    |4=>cases hf; exact opens_raws N
    |j+5=>simp at hf
  rintro x ⟨parts,rfl,hl,hx⟩;obtain⟨a0,e0,w0⟩:=hx 0 (by decide);obtain⟨a1,e1,w1⟩:=hx 1 (by decide);obtain⟨a2,e2,w2⟩:=hx 2 (by decide);obtain⟨a3,e3,w3,w3'⟩:=hx 3 (by decide);obtain⟨a4,e4,w4⟩:=hx 4 (by decide);have own:okOwn (⟨a0,a1,a2,a3,a4⟩:GTree):=⟨w0,w1,w2,⟨w3,fun e he=>⟨(w3' e he).1,(w3' e he).2.1⟩⟩,w4⟩;refine⟨⟨a0,a1,a2,a3,a4⟩,?_,fun d=>?_⟩
  · match parts,hl with
    |[p0,p1,p2,p3,p4],_=>
     simp only[uY,uZ] at e0 e1 e2 e3 e4
     subst e0 e1 e2 e3 e4; rw[yV]; rfl
  cases d with
  |zero=>exact own
  |succ d=>
   refine⟨own,fun x hx=>?_⟩;obtain⟨e,he,hxe⟩:=List.mem_flatMap.1 hx;exact (w3' e he).2.2 x hxe d
theorem opens_Tree' (N:Nat):OpensS enc qh w base spare held N 30 fun x=>∃ y:GTree,x=cellsGTree y∧okTree y:=(opens_Tree N).mono fun x ⟨y,h1,h2⟩=>⟨y,by rw[h1,yV],h2⟩
end
theorem szT_of : ∀ (d:Nat) (t:GTree),okDeep d t→(∀ e,restT e t)→szT d t
 |0,t,h,hr=>⟨h.2.1,uy (hr 0) (by decide),fun r hm=>(h.2.2.2.2.2 r hm).2.2.1⟩
 |d+1,t,h,hr=>⟨⟨h.1.2.1,uy (hr 1).1 (by decide),fun r hm=>(h.1.2.2.2.2.2 r hm).2.2.1⟩,fun x hx=>szT_of d x (h.2 x hx) fun e=>(hr (e+1)).2 x hx⟩
end
end Go.Proofs.YtaddlmlpeghonaaGreatDoor
