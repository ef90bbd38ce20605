/- Parts of the proof, cut down to what it needs. -/
import Derived.Test.YtaahlckibpiphaaGreatDoorXT
import Derived.Shelf.Unicode.DecodeAny
import Derived.KernelRfl
import Derived.Shelf.Spec.SlicesInsert
import Derived.Lib.AppendZerosOnto
import Derived.RangeFuncRecord
set_option linter.constructorNameAsVariable false
set_option linter.unusedSimpArgs false
set_option linter.unusedVariables false
namespace Go.Proofs.YtaahlckibpiphaaGreatDoor
open _root_.List renaming length → qa, flatMap → qb, length_append → qj, length_cons → qp, drop_zero → qq, map_nil → qr, map_append → qs, map_cons → qu, append_assoc → qA, length_nil → qB, getD_eq_getElem?_getD → qC, append_nil → qD, flatMap_cons → qE, nil_append → qG, flatMap_append → qH, cons_append → qI, mem_cons_of_mem → qL, flatMap_nil → qO, mem_cons_self → qP, getElem?_eq_some_iff → qQ, length_eq_zero_iff → qS, replicate → qV, range_zero → qW, getElem?_eq_getElem → qX, getElem?_append_left → qY, all_cons → qZ, mem_cons → q9, all_nil → ua, getElem?_set_ne → ue, range_succ → ug, take_length → uk, length_map → ul, eq_nil_of_length_eq_zero → um, all_eq_true → un, getElem?_append_right → uo, getElem?_set_self → uv, getElem?_eq_none → uw, take_append_drop → uA, mem_map → uH, mem_append → uI, range → uJ, set_cons_zero → uK, getElem?_cons_zero → uL, length_take → uR, mem_append_left → uT, length_drop → uU, set_cons_succ → uV, mem_append_right → uW, nodup_cons → vg, drop_drop → vo
open _root_.Option renaming bind_some → qk
open _root_.Nat renaming reduceEqDiff → qc, reduceLeDiff → qd, reduceAdd → qe, reduceMul → qf, reduceSub → qg, reduceLT → qh, zero_add → qn, le_refl → qx, add_zero → qF, lt_succ_self → qK, zero_le → qU, mul_le_mul_right → ud, lt_of_lt_of_le → ui, reduceMod → uj, add_assoc → ux, zero_mul → uy, le_trans → uB, sub_self → uQ, sub_zero → uZ, add_mul → u6, le_of_not_lt → u7
open _root_.Bool renaming not_false → qm, and_true → qo, or_true → qt, not_true → qv, and_false → qw, or_false → qz, and_self → qN, true_and → uh, true_or → uC, false_or → uF, false_and → u0
open _root_.Int renaming toNat → qT, toNat_natCast → uc
open _root_.BitVec renaming ofInt → qM, toNat → uz
open _root_.Array renaming getElem?_setIfInBounds_ne → uS, replicate → u5
open _root_.UInt8 renaming ofNat → ur
open Result renaming andThen_ok → ql
open Sem renaming run_bind → qy, run_pure → qR
open _root_.Go.Proofs.Tryz renaming prog → qi
section
open AM
def optV {α:Type}(enc:α→List AV):Option α→AV
 |none=>.nilp
 |some x=>.dp (enc x) 0
theorem optV_none {α:Type}{enc:α→List AV}:optV enc none=.nilp:=rfl
theorem optV_some {α:Type}{enc:α→List AV}{x:α}:optV enc (some x)=.dp (enc x) 0:=rfl
theorem vcB {α:Type}{enc:α→List AV} [hc:wj enc]{s:Bool}{x:Option α}:(optV enc x).canon s=true:=by
 cases x with
 |none=>rfl
 |some x=>exact hc.h s x
theorem one_optV {α:Type}{enc:α→List AV}{x:Option α}:(optV enc x).one=true:=by cases x<;>rfl
structure yC where
 fTag:Int
 fWire:Int
 fN:Int
 fB:List UInt8
 deriving DecidableEq
def zy (x:yC):List AV:=[.int .i64 x.fTag,.int .i64 x.fWire,.int .i64 x.fN,.str x.fB]
instance : wj zy := ⟨fun _ _ => rfl⟩
instance : vah zy := ⟨fun _ => rfl⟩
instance : X2 zy 4 := ⟨fun _ => rfl⟩
mutual
inductive zp where
 |mk (fKind fN:Int) (fS:List UInt8) (fEntries:List zv) (fRest:List yC)
inductive zv where
 |mk (fTag:Int) (fTrees:List zp)
end
def zp.fKind : zp→Int|.mk a _ _ _ _=>a
def zp.fN : zp→Int|.mk _ a _ _ _=>a
def zp.fS : zp→List UInt8|.mk _ _ a _ _=>a
def zp.fEntries : zp→List zv|.mk _ _ _ a _=>a
def zp.fRest : zp→List yC|.mk _ _ _ _ a=>a
def zv.fTag : zv→Int|.mk a _=>a
def zv.fTrees : zv→List zp|.mk _ a=>a
mutual
def yj : zp→List AV
 |.mk k n s es rs=>[.int .i64 k,.int .i64 n,.str s,.ds true (XT es) (qa es) false,.ds true (qb zy rs) (qa rs) false]
def zD : zv→List AV
 |.mk t ts=>[.int .i64 t,.ds true (vat ts) (qa ts) false]
def XT : List zv→List AV
 |[]=>[]
 |e::l=>zD e++XT l
def vat : List zp→List AV
 |[]=>[]
 |e::l=>yj e++vat l
end
theorem encGEntryL_eq (l:List zv):XT l=qb zD l:=by
 induction l with
 |nil=>rfl
 |cons e l ih=>rw[XT,ih]; rfl
theorem encGTreeL_eq (l:List zp):vat l=qb yj l:=by
 induction l with
 |nil=>rfl
 |cons e l ih=>rw[vat,ih]; rfl
abbrev zb (x:zp):List AV:=[.int .i64 x.fKind,.int .i64 x.fN,.str x.fS,.ds true (qb zD x.fEntries) (qa x.fEntries) false,.ds true (qb zy x.fRest) (qa x.fRest) false]
abbrev zU (x:zv):List AV:=[.int .i64 x.fTag,.ds true (qb yj x.fTrees) (qa x.fTrees) false]
theorem zf (x:zp):yj x=zb x:=by
 cases x; rw[yj,encGEntryL_eq]; rfl
theorem yD (x:zv):zD x=zU x:=by
 cases x; rw[zD,encGTreeL_eq]; rfl
mutual
theorem vcD (s:Bool):∀ x:zp,xl s (yj x)=true
 |.mk k n t es rs=>by
  simp only[yj,xl,AV.canon,vcP s es,xv,qN,qm,qt]
theorem vbS (s:Bool):∀ x:zv,xl s (zD x)=true
 |.mk t ts=>by simp only[zD,xl,AV.canon,vdE s ts,qN,qm,qt]
theorem vcP (s:Bool):∀ l:List zv,xl s (XT l)=true
 |[]=>rfl
 |e::l=>by rw[XT,XN,vbS s e,vcP s l]; rfl
theorem vdE (s:Bool):∀ l:List zp,xl s (vat l)=true
 |[]=>rfl
 |e::l=>by rw[vat,XN,vcD s e,vdE s l]; rfl
end
instance : wj yj := ⟨vcD⟩
instance : wj zD := ⟨vbS⟩
instance : wj zb := ⟨fun s x => by rw [← zf]; exact vcD s x⟩
instance : wj zU := ⟨fun s x => by rw [← yD]; exact vbS s x⟩
instance : vah yj := ⟨fun x => by rw [zf]; rfl⟩
instance : vah zD := ⟨fun x => by rw [yD]; rfl⟩
instance : X2 yj 5 := ⟨fun x => by rw [zf]; rfl⟩
instance : X2 zD 2 := ⟨fun x => by rw [yD]; rfl⟩
mutual
inductive zo where
 |nil
 |num (n:Int)
 |str (s:List UInt8)
 |node (es:List yF) (rs:List yC)
inductive yF where
 |mk (ftag:Int) (fl:List zo)
end
def yF.ftag : yF→Int|.mk a _=>a
def yF.fl : yF→List zo|.mk _ a=>a
structure zZ where
 fentries:List yF
 frest:List yC
mutual
def vc3 : zo→AV
 |.nil=>.nilI
 |.num n=>.ifc 348 (.int .i64 n)
 |.str s=>.ifc 349 (.str s)
 |.node es rs=>.ifc 232 (.dp [.ds true (ZX es) (qa es) false,.ds true (qb zy rs) (qa rs) false] 0)
def yV : yF→List AV
 |.mk t l=>[.int .i64 t,.ds true (ZW l) (qa l) false]
def ZX : List yF→List AV
 |[]=>[]
 |e::l=>yV e++ZX l
def ZW : List zo→List AV
 |[]=>[]
 |e::l=>vc3 e::ZW l
end
def zi (v:zo):List AV:=[vc3 v]
theorem vcf (l:List yF):ZX l=qb yV l:=by
 induction l with
 |nil=>rfl
 |cons e l ih=>rw[ZX,ih]; rfl
theorem vce (l:List zo):ZW l=qb zi l:=by
 induction l with
 |nil=>rfl
 |cons e l ih=>rw[ZW,ih]; rfl
abbrev yJ (x:yF):List AV:=[.int .i64 x.ftag,.ds true (qb zi x.fl) (qa x.fl) false]
theorem yH (x:yF):yV x=yJ x:=by
 cases x; rw[yV,vce]; rfl
abbrev zI (x:zZ):List AV:=[.ds true (qb yV x.fentries) (qa x.fentries) false,.ds true (qb zy x.frest) (qa x.frest) false]
theorem Xp : vc3 .nil=.nilI:=by rw[vc3]
theorem Xo {n:Int}:vc3 (.num n)=.ifc 348 (.int .i64 n):=by rw[vc3]
theorem Xn {s:List UInt8}:vc3 (.str s)=.ifc 349 (.str s):=by rw[vc3]
theorem Yz {es:List yF}{rs:List yC}:vc3 (.node es rs)=.ifc 232 (.dp [.ds true (qb yV es) (qa es) false,.ds true (qb zy rs) (qa rs) false] 0):=by
 rw[vc3,vcf]
mutual
theorem ZJ (s:Bool):∀ x:zo,(vc3 x).canon s=true
 |.nil=>by simp only[vc3,AV.canon]
 |.num n=>by simp only[vc3,AV.canon]
 |.str n=>by simp only[vc3,AV.canon]
 |.node es rs=>by simp only[vc3,AV.canon,xl,vaz s es,xv,qN,qm,qt]
theorem XF (s:Bool):∀ x:yF,xl s (yV x)=true
 |.mk t ts=>by simp only[yV,xl,AV.canon,vay s ts,qN,qm,qt]
theorem vaz (s:Bool):∀ l:List yF,xl s (ZX l)=true
 |[]=>rfl
 |e::l=>by rw[ZX,XN,XF s e,vaz s l]; rfl
theorem vay (s:Bool):∀ l:List zo,xl s (ZW l)=true
 |[]=>rfl
 |e::l=>by rw[ZW,xl,ZJ s e,vay s l]; rfl
end
theorem Ye (x:zo):(vc3 x).one=true:=by cases x<;>simp only[vc3,AV.one]
instance : X3 vc3 := ⟨ZJ⟩
theorem tell_ifcV {σ:ze}{keep:List Nat}{ls:Bool}{f:Nat}{x:zo}:tell σ keep ls f (vc3 x)=vc3 x:=XR _ _ _ _ _ (ZJ ls x)
instance : wj zi := ⟨fun s x => by simp only [zi, xl, ZJ, qN]⟩
instance : wj yV := ⟨XF⟩
instance : wj yJ := ⟨fun s x => by rw [← yH]; exact XF s x⟩
theorem wE (s:Bool)(x:zZ):xl s (zI x)=true:=by simp only[zI,xl,AV.canon,xv,qN,qm,qt]
instance : wj zI := ⟨wE⟩
instance : vah zi := ⟨fun x => by simp only [zi, qZ, Ye, ua, qN]⟩
instance : vah yV := ⟨fun x => by rw [yH]; rfl⟩
instance : vah zI := ⟨fun x => rfl⟩
instance : X2 zi 1 := ⟨fun x => rfl⟩
instance : X2 yV 2 := ⟨fun x => by rw [yH]; rfl⟩
instance : X2 zI 2 := ⟨fun x => rfl⟩
def anyV : zo→AV
 |.nil=>.nilI
 |.num n=>.ifc 3 (.int .i64 n)
 |.str s=>.ifc 9 (.str s)
 |.node es rs=>vc3 (.node es rs)
theorem XQ : anyV .nil=.nilI:=rfl
theorem XP {n:Int}:anyV (.num n)=.ifc 3 (.int .i64 n):=rfl
theorem XO {s:List UInt8}:anyV (.str s)=.ifc 9 (.str s):=rfl
theorem Y8 {es:List yF}{rs:List yC}:anyV (.node es rs)=.ifc 232 (.dp [.ds true (qb yV es) (qa es) false,.ds true (qb zy rs) (qa rs) false] 0):=Yz
theorem YB (s:Bool)(x:zo):(anyV x).canon s=true:=by
 cases x with
 |nil=>rfl
 |num n=>rfl
 |str t=>rfl
 |node es rs=>exact ZJ s (.node es rs)
instance : X3 anyV := ⟨YB⟩
theorem tell_anyV {σ:ze}{keep:List Nat}{ls:Bool}{f:Nat}{x:zo}:tell σ keep ls f (anyV x)=anyV x:=XR _ _ _ _ _ (YB ls x)
structure YH where
 fKind:Int
 fName:List UInt8
 deriving DecidableEq
def xp (x:YH):List AV:=[.int .i64 x.fKind,.str x.fName]
instance : wj xp := ⟨fun _ _ => rfl⟩
instance : vah xp := ⟨fun _ => rfl⟩
instance : X2 xp 2 := ⟨fun _ => rfl⟩
structure ZB where
 fName:List UInt8
 fTag:Int
 fLabel:Int
 fType:YH
 deriving DecidableEq
abbrev yB (x:ZB):List AV:=[.str x.fName,.int .i64 x.fTag,.int .i64 x.fLabel,.int .i64 x.fType.fKind,.str x.fType.fName]
instance : wj yB := ⟨fun _ _ => rfl⟩
instance : vah yB := ⟨fun _ => rfl⟩
instance : X2 yB 5 := ⟨fun _ => rfl⟩
structure z8 where
 fName:List UInt8
 fFields:List ZB
 fReserved:List Int
 deriving DecidableEq
abbrev zh (x:z8):List AV:=[.str x.fName,.ds true (qb yB x.fFields) (qa x.fFields) false,.ds true (qb wJ x.fReserved) (qa x.fReserved) false]
instance : wj zh := ⟨fun s x => by simp only [zh, xl, AV.canon, xv, qN, qm, qt]⟩
instance : vah zh := ⟨fun _ => rfl⟩
instance : X2 zh 3 := ⟨fun _ => rfl⟩
structure vdH where
 fName:List UInt8
 fN:Int
 deriving DecidableEq
def Zv (x:vdH):List AV:=[.str x.fName,.int .i64 x.fN]
instance : wj Zv := ⟨fun _ _ => rfl⟩
instance : vah Zv := ⟨fun _ => rfl⟩
instance : X2 Zv 2 := ⟨fun _ => rfl⟩
structure wv where
 fName:List UInt8
 fValues:List vdH
 deriving DecidableEq
abbrev zk (x:wv):List AV:=[.str x.fName,.ds true (qb Zv x.fValues) (qa x.fValues) false]
instance : wj zk := ⟨fun s x => by simp only [zk, xl, AV.canon, xv, qN, qm, qt]⟩
instance : vah zk := ⟨fun _ => rfl⟩
instance : X2 zk 2 := ⟨fun _ => rfl⟩
structure wT where
 fName:List UInt8
 fIn:List UInt8
 fOut:List UInt8
 deriving DecidableEq
def zr (x:wT):List AV:=[.str x.fName,.str x.fIn,.str x.fOut]
instance : wj zr := ⟨fun _ _ => rfl⟩
instance : vah zr := ⟨fun _ => rfl⟩
instance : X2 zr 3 := ⟨fun _ => rfl⟩
structure zB where
 fName:List UInt8
 fMessages:List z8
 fEnums:List wv
 fMethods:List wT
 deriving DecidableEq
abbrev za (x:zB):List AV:=[.str x.fName,.ds true (qb zh x.fMessages) (qa x.fMessages) false,.ds true (qb zk x.fEnums) (qa x.fEnums) false,.ds true (qb zr x.fMethods) (qa x.fMethods) false]
instance : wj za := ⟨fun s x => by simp only [za, xl, AV.canon, xv, qN, qm, qt]⟩
instance : vah za := ⟨fun _ => rfl⟩
instance : X2 za 4 := ⟨fun _ => rfl⟩
structure y3 where
 fKind:Int
 fFrom:Int
 fTo:Int
 fID:Int
 fVersion:Int
 fMethod:List UInt8
 fErr:Int
 fBody:List UInt8
 deriving DecidableEq
abbrev zn (x:y3):List AV:=[.int .i64 x.fKind,.int .i64 x.fFrom,.int .i64 x.fTo,.int .i64 x.fID,.int .i64 x.fVersion,.str x.fMethod,.int .i64 x.fErr,.str x.fBody]
instance : wj zn := ⟨fun _ _ => rfl⟩
instance : vah zn := ⟨fun _ => rfl⟩
instance : X2 zn 8 := ⟨fun _ => rfl⟩
structure GR23Set where
 fN:List Int
 fS:List zB
 deriving DecidableEq
abbrev YG (x:GR23Set):List AV:=[.ds true (qb wJ x.fN) (qa x.fN) false,.ds true (qb za x.fS) (qa x.fS) false]
instance : wj YG := ⟨fun s x => by simp only [YG, xl, AV.canon, xv, qN, qm, qt]⟩
instance : vah YG := ⟨fun _ => rfl⟩
instance : X2 YG 2 := ⟨fun _ => rfl⟩
structure GL23Op where
 fKind:Int
 fMethod:List UInt8
 fT:zp
 fL:List Int
 fP:y3
 fMine:Bool
abbrev Y6 (x:GL23Op):List AV:=[.int .i64 x.fKind,.str x.fMethod,.int .i64 x.fT.fKind,.int .i64 x.fT.fN,.str x.fT.fS,.ds true (qb zD x.fT.fEntries) (qa x.fT.fEntries) false,.ds true (qb zy x.fT.fRest) (qa x.fT.fRest) false,.ds true (qb wJ x.fL) (qa x.fL) false,.int .i64 x.fP.fKind,.int .i64 x.fP.fFrom,.int .i64 x.fP.fTo,.int .i64 x.fP.fID,.int .i64 x.fP.fVersion,.str x.fP.fMethod,.int .i64 x.fP.fErr,.str x.fP.fBody,.bool x.fMine]
instance : wj Y6 := ⟨fun s x => by simp only [Y6, xl, AV.canon, xv, qN, qm, qt]⟩
instance : vah Y6 := ⟨fun _ => rfl⟩
instance : X2 Y6 17 := ⟨fun _ => rfl⟩
structure yc where
 fFrom:Int
 fID:Int
 fMethod:List UInt8
 fIn:zp
abbrev zj (x:yc):List AV:=[.int .i64 x.fFrom,.int .i64 x.fID,.str x.fMethod,.int .i64 x.fIn.fKind,.int .i64 x.fIn.fN,.str x.fIn.fS,.ds true (qb zD x.fIn.fEntries) (qa x.fIn.fEntries) false,.ds true (qb zy x.fIn.fRest) (qa x.fIn.fRest) false]
instance : wj zj := ⟨fun s x => by simp only [zj, xl, AV.canon, xv, qN, qm, qt]⟩
instance : vah zj := ⟨fun _ => rfl⟩
instance : X2 zj 8 := ⟨fun _ => rfl⟩
structure GRow where
 fMethod:List UInt8
 fIn:zp
 fOut:zp
abbrev yE (x:GRow):List AV:=[.str x.fMethod,.int .i64 x.fIn.fKind,.int .i64 x.fIn.fN,.str x.fIn.fS,.ds true (qb zD x.fIn.fEntries) (qa x.fIn.fEntries) false,.ds true (qb zy x.fIn.fRest) (qa x.fIn.fRest) false,.int .i64 x.fOut.fKind,.int .i64 x.fOut.fN,.str x.fOut.fS,.ds true (qb zD x.fOut.fEntries) (qa x.fOut.fEntries) false,.ds true (qb zy x.fOut.fRest) (qa x.fOut.fRest) false]
instance : wj yE := ⟨fun s x => by simp only [yE, xl, AV.canon, xv, qN, qm, qt]⟩
instance : vah yE := ⟨fun _ => rfl⟩
instance : X2 yE 11 := ⟨fun _ => rfl⟩
structure GL24Op where
 fKind:Int
 fP:y3
 fL:List Int
 fN:List Int
 fS:List zB
 deriving DecidableEq
abbrev Y5 (x:GL24Op):List AV:=[.int .i64 x.fKind,.int .i64 x.fP.fKind,.int .i64 x.fP.fFrom,.int .i64 x.fP.fTo,.int .i64 x.fP.fID,.int .i64 x.fP.fVersion,.str x.fP.fMethod,.int .i64 x.fP.fErr,.str x.fP.fBody,.ds true (qb wJ x.fL) (qa x.fL) false,.ds true (qb wJ x.fN) (qa x.fN) false,.ds true (qb za x.fS) (qa x.fS) false]
instance : wj Y5 := ⟨fun s x => by simp only [Y5, xl, AV.canon, xv, qN, qm, qt]⟩
instance : vah Y5 := ⟨fun _ => rfl⟩
instance : X2 Y5 12 := ⟨fun _ => rfl⟩
structure GR22K where
 fFrom:Int
 fID:Int
 fP:y3
 deriving DecidableEq
abbrev Xr (x:GR22K):List AV:=[.int .i64 x.fFrom,.int .i64 x.fID,.int .i64 x.fP.fKind,.int .i64 x.fP.fFrom,.int .i64 x.fP.fTo,.int .i64 x.fP.fID,.int .i64 x.fP.fVersion,.str x.fP.fMethod,.int .i64 x.fP.fErr,.str x.fP.fBody]
instance : wj Xr := ⟨fun _ _ => rfl⟩
instance : vah Xr := ⟨fun _ => rfl⟩
instance : X2 Xr 10 := ⟨fun _ => rfl⟩
structure GR22C where
 fSize:Int
 fL:List GR22K
 fMost:List GR22K
 deriving DecidableEq
abbrev Xs (x:GR22C):List AV:=[.int .i64 x.fSize,.ds true (qb Xr x.fL) (qa x.fL) false,.ds true (qb Xr x.fMost) (qa x.fMost) false]
instance : wj Xs := ⟨fun s x => by simp only [Xs, xl, AV.canon, xv, qN, qm, qt]⟩
instance : vah Xs := ⟨fun _ => rfl⟩
instance : X2 Xs 3 := ⟨fun _ => rfl⟩
structure GR24Effect where
 fFrom:Int
 fID:Int
 fMethod:List UInt8
 fIn:zp
abbrev wZ (x:GR24Effect):List AV:=[.int .i64 x.fFrom,.int .i64 x.fID,.str x.fMethod,.int .i64 x.fIn.fKind,.int .i64 x.fIn.fN,.str x.fIn.fS,.ds true (qb zD x.fIn.fEntries) (qa x.fIn.fEntries) false,.ds true (qb zy x.fIn.fRest) (qa x.fIn.fRest) false]
instance : wj wZ := ⟨fun s x => by simp only [wZ, xl, AV.canon, xv, qN, qm, qt]⟩
instance : vah wZ := ⟨fun _ => rfl⟩
instance : X2 wZ 8 := ⟨fun _ => rfl⟩
structure GR24S where
 fSelf:Int
 fX:GR23Set
 fNewest:zB
 fRows:List GRow
 fC:Option GR22C
 fL:List GR24Effect
abbrev Xq (x:GR24S):List AV:=[.int .i64 x.fSelf,.ds true (qb wJ x.fX.fN) (qa x.fX.fN) false,.ds true (qb za x.fX.fS) (qa x.fX.fS) false,.str x.fNewest.fName,.ds true (qb zh x.fNewest.fMessages) (qa x.fNewest.fMessages) false,.ds true (qb zk x.fNewest.fEnums) (qa x.fNewest.fEnums) false,.ds true (qb zr x.fNewest.fMethods) (qa x.fNewest.fMethods) false,.ds true (qb yE x.fRows) (qa x.fRows) false,optV Xs x.fC,.ds true (qb wZ x.fL) (qa x.fL) false]
instance : wj Xq := ⟨fun s x => by simp only [Xq, xl, AV.canon, xv, vcB, qN, qm, qt]⟩
instance : vah Xq := ⟨fun x => by simp only [Xq, qZ, ua, one_optV]; rfl⟩
instance : X2 Xq 10 := ⟨fun _ => rfl⟩
structure vcm where
 fid:Int
 ft:zp
 ferr:Int
abbrev ww (x:vcm):List AV:=[.int .i64 x.fid,.int .i64 x.ft.fKind,.int .i64 x.ft.fN,.str x.ft.fS,.ds true (qb zD x.ft.fEntries) (qa x.ft.fEntries) false,.ds true (qb zy x.ft.fRest) (qa x.ft.fRest) false,.int .i64 x.ferr]
instance : wj ww := ⟨fun s x => by simp only [ww, xl, AV.canon, xv, qN, qm, qt]⟩
instance : vah ww := ⟨fun _ => rfl⟩
instance : X2 ww 7 := ⟨fun _ => rfl⟩
structure GClientClient where
 fself:Int
 fserver:Int
 fnumbers:List Int
 fschemas:List zB
 fid:Int
 fwaits:Int
 fmethod:List UInt8
 ft:zp
 fagreed:Int
 fsent:y3
 fresult:Option vcm
abbrev wx (x:GClientClient):List AV:=[.int .i64 x.fself,.int .i64 x.fserver,.ds true (qb wJ x.fnumbers) (qa x.fnumbers) false,.ds true (qb za x.fschemas) (qa x.fschemas) false,.int .i64 x.fid,.int .i64 x.fwaits,.str x.fmethod,.int .i64 x.ft.fKind,.int .i64 x.ft.fN,.str x.ft.fS,.ds true (qb zD x.ft.fEntries) (qa x.ft.fEntries) false,.ds true (qb zy x.ft.fRest) (qa x.ft.fRest) false,.int .i64 x.fagreed,.int .i64 x.fsent.fKind,.int .i64 x.fsent.fFrom,.int .i64 x.fsent.fTo,.int .i64 x.fsent.fID,.int .i64 x.fsent.fVersion,.str x.fsent.fMethod,.int .i64 x.fsent.fErr,.str x.fsent.fBody,optV ww x.fresult]
instance : wj wx := ⟨fun s x => by simp only [wx, xl, AV.canon, xv, vcB, qN, qm, qt]⟩
instance : vah wx := ⟨fun x => by simp only [wx, qZ, ua, one_optV]; rfl⟩
instance : X2 wx 22 := ⟨fun _ => rfl⟩
structure GR23C where
 fSelf:Int
 fServer:Int
 fX:GR23Set
 fID:Int
 fStep:Int
 fMethod:List UInt8
 fT:zp
 fLast:y3
 fHas:Bool
 fOut:zp
 fErr:Int
abbrev XL (x:GR23C):List AV:=[.int .i64 x.fSelf,.int .i64 x.fServer,.ds true (qb wJ x.fX.fN) (qa x.fX.fN) false,.ds true (qb za x.fX.fS) (qa x.fX.fS) false,.int .i64 x.fID,.int .i64 x.fStep,.str x.fMethod,.int .i64 x.fT.fKind,.int .i64 x.fT.fN,.str x.fT.fS,.ds true (qb zD x.fT.fEntries) (qa x.fT.fEntries) false,.ds true (qb zy x.fT.fRest) (qa x.fT.fRest) false,.int .i64 x.fLast.fKind,.int .i64 x.fLast.fFrom,.int .i64 x.fLast.fTo,.int .i64 x.fLast.fID,.int .i64 x.fLast.fVersion,.str x.fLast.fMethod,.int .i64 x.fLast.fErr,.str x.fLast.fBody,.bool x.fHas,.int .i64 x.fOut.fKind,.int .i64 x.fOut.fN,.str x.fOut.fS,.ds true (qb zD x.fOut.fEntries) (qa x.fOut.fEntries) false,.ds true (qb zy x.fOut.fRest) (qa x.fOut.fRest) false,.int .i64 x.fErr]
instance : wj XL := ⟨fun s x => by simp only [XL, xl, AV.canon, xv, qN, qm, qt]⟩
instance : vah XL := ⟨fun _ => rfl⟩
instance : X2 XL 27 := ⟨fun _ => rfl⟩
structure yK where
 ffrom:Int
 fid:Int
 deriving DecidableEq
def zl (x:yK):List AV:=[.int .i64 x.ffrom,.int .i64 x.fid]
instance : wj zl := ⟨fun _ _ => rfl⟩
instance : vah zl := ⟨fun _ => rfl⟩
instance : X2 zl 2 := ⟨fun _ => rfl⟩
structure wO where
 fOp:Int
 fTag:Int
 fSub:Int
 deriving DecidableEq
def yu (x:wO):List AV:=[.int .i64 x.fOp,.int .i64 x.fTag,.int .i64 x.fSub]
instance : wj yu := ⟨fun _ _ => rfl⟩
instance : vah yu := ⟨fun _ => rfl⟩
instance : X2 yu 3 := ⟨fun _ => rfl⟩
structure xW where
 fParts:List (List wO)
 deriving DecidableEq
abbrev zt (x:xW):List AV:=[.ds true (qb (XW yu) x.fParts) (qa x.fParts) false]
instance : wj zt := ⟨fun s x => by simp only [zt, xl, AV.canon, xv, qN, qm, qt]⟩
instance : vah zt := ⟨fun _ => rfl⟩
instance : X2 zt 1 := ⟨fun _ => rfl⟩
structure YQ where
 fschema:zB
 fown:wT
 ftheirs:wT
 fin:zp
abbrev yn (x:YQ):List AV:=[.str x.fschema.fName,.ds true (qb zh x.fschema.fMessages) (qa x.fschema.fMessages) false,.ds true (qb zk x.fschema.fEnums) (qa x.fschema.fEnums) false,.ds true (qb zr x.fschema.fMethods) (qa x.fschema.fMethods) false,.str x.fown.fName,.str x.fown.fIn,.str x.fown.fOut,.str x.ftheirs.fName,.str x.ftheirs.fIn,.str x.ftheirs.fOut,.int .i64 x.fin.fKind,.int .i64 x.fin.fN,.str x.fin.fS,.ds true (qb zD x.fin.fEntries) (qa x.fin.fEntries) false,.ds true (qb zy x.fin.fRest) (qa x.fin.fRest) false]
instance : wj yn := ⟨fun s x => by simp only [yn, xl, AV.canon, xv, qN, qm, qt]⟩
instance : vah yn := ⟨fun _ => rfl⟩
instance : X2 yn 15 := ⟨fun _ => rfl⟩
structure yO where
 ffrom:List UInt8
 fto:List UInt8
 deriving DecidableEq
def zJ (x:yO):List AV:=[.str x.ffrom,.str x.fto]
instance : wj zJ := ⟨fun _ _ => rfl⟩
instance : vah zJ := ⟨fun _ => rfl⟩
instance : X2 zJ 2 := ⟨fun _ => rfl⟩
structure zP where
 fp:xW
 flooks:Int
 deriving DecidableEq
abbrev zA (x:zP):List AV:=[.ds true (qb (XW yu) x.fp.fParts) (qa x.fp.fParts) false,.int .i64 x.flooks]
instance : wj zA := ⟨fun s x => by simp only [zA, xl, AV.canon, xv, qN, qm, qt]⟩
instance : vah zA := ⟨fun _ => rfl⟩
instance : X2 zA 2 := ⟨fun _ => rfl⟩
structure GR14Pair where
 fA:List UInt8
 fB:List UInt8
 deriving DecidableEq
def YA (x:GR14Pair):List AV:=[.str x.fA,.str x.fB]
instance : wj YA := ⟨fun _ _ => rfl⟩
instance : vah YA := ⟨fun _ => rfl⟩
instance : X2 YA 2 := ⟨fun _ => rfl⟩
structure GR16R where
 fP:List (List wO)
 fN:Int
 deriving DecidableEq
abbrev XM (x:GR16R):List AV:=[.ds true (qb (XW yu) x.fP) (qa x.fP) false,.int .i64 x.fN]
instance : wj XM := ⟨fun s x => by simp only [XM, xl, AV.canon, xv, qN, qm, qt]⟩
instance : vah XM := ⟨fun _ => rfl⟩
instance : X2 XM 2 := ⟨fun _ => rfl⟩
structure xX where
 fsize:Int
 forder:List yK
 vorder:Nat
 freplies:YJ (yK) (y3)
 flast:YJ (Int) (Int)
structure Zy where
 ffrom:zB
 fto:zB
 fl:List yO
 vl:Nat
 fplace:List (yO×Int)
structure xy where
 fself:Int
 fnumbers:List Int
 fschemas:List zB
 fnewest:zB
 frows:List GRow
 fcache:xX
 feffects:List yc
 veffects:Nat
def zT (k:y3):AV:=.agg (zn k)
instance : X3 zT := ⟨fun s k => wj.h s k⟩
def zC (k:yK):AV:=.agg (zl k)
instance : X3 zC := ⟨fun s k => wj.h s k⟩
def yL (k:yO):AV:=.agg (zJ k)
instance : X3 yL := ⟨fun s k => wj.h s k⟩
theorem E26 : Enc tab 26 3 1 wJ:=⟨⟨_,rfl,rfl⟩,⟨_,rfl,rfl⟩,by decide,fun _=>rfl⟩
theorem E27 : Enc tab 27 129 3 zh:=⟨⟨_,rfl,rfl⟩,⟨_,rfl,rfl⟩,by decide,fun _=>rfl⟩
theorem E28 : Enc tab 28 142 2 zk:=⟨⟨_,rfl,rfl⟩,⟨_,rfl,rfl⟩,by decide,fun _=>rfl⟩
theorem E29 : Enc tab 29 61 3 zr:=⟨⟨_,rfl,rfl⟩,⟨_,rfl,rfl⟩,by decide,fun _=>rfl⟩
theorem E33 : Enc tab 33 31 4 za:=⟨⟨_,rfl,rfl⟩,⟨_,rfl,rfl⟩,by decide,fun _=>rfl⟩
theorem E34 : Enc tab 34 40 2 zD:=⟨⟨_,rfl,rfl⟩,⟨_,rfl,rfl⟩,by decide,fun x=>by rw[yD]; rfl⟩
theorem E35 : Enc tab 35 139 4 zy:=⟨⟨_,rfl,rfl⟩,⟨_,rfl,rfl⟩,by decide,fun _=>rfl⟩
theorem E38 : Enc tab 38 37 5 yj:=⟨⟨_,rfl,rfl⟩,⟨_,rfl,rfl⟩,by decide,fun x=>by rw[zf]; rfl⟩
theorem E48 : Enc tab 48 5 1 Ym:=⟨⟨_,rfl,rfl⟩,⟨_,rfl,rfl⟩,by decide,fun _=>rfl⟩
theorem E82 : Enc tab 82 98 11 yE:=⟨⟨_,rfl,rfl⟩,⟨_,rfl,rfl⟩,by decide,fun _=>rfl⟩
theorem E88 : Enc tab 88 43 8 zn:=⟨⟨_,rfl,rfl⟩,⟨_,rfl,rfl⟩,by decide,fun _=>rfl⟩
theorem E92 : Enc tab 92 95 8 zj:=⟨⟨_,rfl,rfl⟩,⟨_,rfl,rfl⟩,by decide,fun _=>rfl⟩
theorem E127 : Enc tab 127 126 5 yB:=⟨⟨_,rfl,rfl⟩,⟨_,rfl,rfl⟩,by decide,fun _=>rfl⟩
theorem E140 : Enc tab 140 144 2 Zv:=⟨⟨_,rfl,rfl⟩,⟨_,rfl,rfl⟩,by decide,fun _=>rfl⟩
theorem E176 : Enc tab 176 246 1 (XW yu):=⟨⟨_,rfl,rfl⟩,⟨_,rfl,rfl⟩,by decide,fun _=>rfl⟩
theorem E207 : Enc tab 207 268 2 zl:=⟨⟨_,rfl,rfl⟩,⟨_,rfl,rfl⟩,by decide,fun _=>rfl⟩
theorem E240 : Enc tab 240 245 2 zJ:=⟨⟨_,rfl,rfl⟩,⟨_,rfl,rfl⟩,by decide,fun _=>rfl⟩
theorem E246 : Enc tab 246 248 3 yu:=⟨⟨_,rfl,rfl⟩,⟨_,rfl,rfl⟩,by decide,fun _=>rfl⟩
theorem E282 : Enc tab 282 228 1 zi:=⟨⟨_,rfl,rfl⟩,⟨_,rfl,rfl⟩,by decide,fun _=>rfl⟩
theorem E324 : Enc tab 324 328 2 yV:=⟨⟨_,rfl,rfl⟩,⟨_,rfl,rfl⟩,by decide,fun x=>by rw[yH]; rfl⟩
theorem KA268 : vc8 tab 268 zC:=vc8.agg (enc:=zl) (l:=[.int .i64,.int .i64]) rfl rfl rfl (fun _=>rfl) (fun a b=>by cases a; cases b; simp[zl,vab,ceq,yK.mk.injEq,Bool.decide_and])
theorem KA245 : vc8 tab 245 yL:=vc8.agg (enc:=zJ) (l:=[.string,.string]) rfl rfl rfl (fun _=>rfl) (fun a b=>by cases a; cases b; simp[zJ,vab,ceq,yO.mk.injEq,Bool.decide_and])
attribute [push_cast] osE1 osE2 tell_u tell_bool vbn vbm tell_nilp tell_nilm tell_nilI tell_nilF tell_agg tell_tup tell_ifc Xa tell_dp tell_op ZC tell_mp wU Yl Xu YR Yr tellO_map tellO_iter tellO_dead encM_tell YT YS zw TLS AV.canon xl xv qN qo uh qw u0 qt qz uF uC qm qv if_true qq qn qu qr qs decide_true decide_false and_self optV_none optV_some vcB vaH tell_ifcV tell_anyV XQ XP XO Y8 Xp Xo Xn Yz ZJ YB wE zy zi zI xp yB zh Zv zk zr za zn YG Y6 zj yE Y5 Xr Xs wZ Xq ww wx XL zl yu zt yn zJ zA YA XM zb zU yJ zf yD yH
section
variable {k:Nat} {F:Fr} {σ τ:ze} {L:List (Nat×AV)} {P:Program} {f:FuncId} {args:List AV} {x:AV}
theorem AM.TellS.t (keep:List Nat)(ls:Bool)(h1:keep.Nodup:=by decide)(h2:∀ id∈keep,id<σ.length:=by simp)(h3:keep.take k=uJ k:=by first|rfl|simp)(h4:vbF σ keep ls 12=τ:=by first|rfl|(simp only[← qH,← qj]; simp only[go_sem,qh,qd,qc,qe,qf,qg,reduceIte,reduceCtorEq,push_cast]; done)|(simp only[go_sem,qh,qd,qc,qe,qf,qg,reduceIte,reduceCtorEq,push_cast,Ym,wJ,encS,encBo,encK,ym,qH,qE,qO,qD,qG,qj,qp,qB,qn,qA,qI,ux]<;>first|rfl|(and_intros<;>rfl)))(h5:TLS σ keep ls F L:=by first|rfl|(simp only[← qH,← qj]; simp only[go_sem,qh,qd,qc,qe,qf,qg,reduceIte,reduceCtorEq,push_cast]; done)|(simp only[go_sem,qh,qd,qc,qe,qf,qg,reduceIte,reduceCtorEq,push_cast,Ym,wJ,encS,encBo,encK,ym,qH,qE,qO,qD,qG,qj,qp,qB,qn,qA,qI,ux]<;>first|rfl|(and_intros<;>rfl))):TellS k F σ L τ:=.told keep ls h1 h2 h3 h4 h5
theorem AM.TellS.s (h:vbt F L:=by first|(and_intros<;>first|rfl|trivial)|simp only[go_sem,qh,qd,qc,qe,qf,qg,reduceIte,reduceCtorEq,vbt,push_cast,ym,qH,qE,qO,qD,qG,qj,qp,qB,qn,qA,qI,ux])(e:σ=τ:=by first|rfl|(simp only[go_sem,qh,qd,qc,qe,qf,qg,reduceIte,reduceCtorEq,push_cast,Ym,wJ,encS,encK,ym,qH,qE,qO,qD,qG,qj,qp,qB,qn,qA,qI,ux]<;>rfl)):TellS k F σ L τ:=.same h e
theorem AM.TellS.p {p q:Prop}(hp:p=q)(h:p=q→vbt F L:=by intro hp; simp only[go_sem,qh,qd,qc,qe,qf,qg,reduceIte,reduceCtorEq,vbt,hp,decide_true,decide_false,uh,u0,uC,uF,qv,qm,and_self]<;>rfl)(e:σ=τ:=by rfl):TellS k F σ L τ:=.same (h hp) e
theorem AM.TellS.b {a b:Bool}(hp:a=b)(h:a=b→vbt F L:=by intro hp; simp only[go_sem,qh,qd,qc,qe,qf,qg,reduceIte,reduceCtorEq,vbt,hp,decide_true,decide_false,uh,u0,uC,uF,qv,qm,and_self]<;>rfl)(e:σ=τ:=by rfl):TellS k F σ L τ:=.same (h hp) e
theorem retA {Q:Exit→Fr→ze→Prop}{e:Exit}{F:Fr}{σ:ze}(h:Q e F σ:=by simp only[ZA,yQ,y5,xN,exists_eq_left',go_sem,qh,qd,qc,qe,qf,qg,reduceIte,reduceCtorEq,push_cast]<;>first|rfl|(and_intros<;>rfl)):Q e F σ:=h
theorem cut {Φ:Ctx}{n:Nat}{Q:Exit→Fr→ze→Prop}{ops:Array Oper}{l:List Oper}(N t d:Nat)(m:List Nat)(c:Bool){b:Bool}{p q W:Prop}(w:W) [hb:vbv b p q](ht:F t=.bool b)(h:Zg Φ qi n k ops (l.drop N) Q (fs L) σ)(e:vbL F m++[(d,.bool c)]=L:=by simp only[Zn,upd,qc,reduceIte,xh,xO,ye,yx,qI,qG]<;>rfl)(h1:W→p→Run (vaq tab n ops (l.take N) (upd F t (.bool true)) σ) (fun l' F' τ=>l'=[]∧τ=σ∧vbt F' L):=by intro w hg; first|(have t:=eq_false hg; simp only[go_sem,qh,qd,qc,qe,qf,qg,reduceIte,reduceCtorEq,Zp,vbt,w,t,decide_true,decide_false,uh,u0,uC,uF,qo,qw,qt,qz,qv,qm,and_self]<;>rfl)|(have t:=eq_true hg; simp only[go_sem,qh,qd,qc,qe,qf,qg,reduceIte,reduceCtorEq,Zp,vbt,w,t,decide_true,decide_false,uh,u0,uC,uF,qo,qw,qt,qz,qv,qm,and_self]<;>rfl)|(simp only[go_sem,qh,qd,qc,qe,qf,qg,reduceIte,reduceCtorEq,Zp,vbt,w,hg,decide_true,decide_false,uh,u0,uC,uF,qo,qw,qt,qz,qv,qm,and_self]<;>rfl))(h0:W→q→Run (vaq tab n ops (l.take N) (upd F t (.bool false)) σ) (fun l' F' τ=>l'=[]∧τ=σ∧vbt F' L):=by intro w hg; first|(have t:=eq_false hg; simp only[go_sem,qh,qd,qc,qe,qf,qg,reduceIte,reduceCtorEq,Zp,vbt,w,t,decide_true,decide_false,uh,u0,uC,uF,qo,qw,qt,qz,qv,qm,and_self]<;>rfl)|(have t:=eq_true hg; simp only[go_sem,qh,qd,qc,qe,qf,qg,reduceIte,reduceCtorEq,Zp,vbt,w,t,decide_true,decide_false,uh,u0,uC,uF,qo,qw,qt,qz,qv,qm,and_self]<;>rfl)|(simp only[go_sem,qh,qd,qc,qe,qf,qg,reduceIte,reduceCtorEq,Zp,vbt,w,hg,decide_true,decide_false,uh,u0,uC,uF,qo,qw,qt,qz,qv,qm,and_self]<;>rfl)):Zg Φ qi n k ops l Q F σ:=ops_cut U N t L ht (h1 w) (h0 w) h
theorem AM.ACalls.c (h:ACalls P f args [] fun r _=>r=x)(σ:ze)(ha:xl false args=true:=by simp only[push_cast])(hx:x.canon false=true:=by simp only[push_cast]):ACalls P f args σ fun r σ'=>r=x∧σ'=σ:=h.pureAt ha hx σ
theorem AM.ACalls.i {σs τs:ze}(h:ACalls P f args σs fun r' σ'=>r'=x∧σ'=τs)(ids:List Nat){args':List AV}(hn:ids.Nodup:=by decide)(hlt:∀ id∈ids,id<σ.length:=by simp)(hobj:ids.map (fun id=>σ[id]?)=σs.map some:=by rfl)(hs:σs.all vbD=true:=by simp only[qZ,ua,vcC,vcO,push_cast])(ht:τs.all vbD=true:=by simp only[qZ,ua,vcC,vcO,push_cast])(hl:ids.length=τs.length:=by rfl)(hx:x.canon true=true:=by simp only[push_cast])(ha:vbx (vbj ids σ.length) args=args':=by first|rfl|(simp only[vbx,AV.ren,vb4,XH,vbj]; rfl)):ACalls P f args' σ fun r' σ'=>r'=x∧σ'=putI ids τs σ:=h.io ids hn hlt hobj hs ht hl hx ha
theorem AM.renO_cells {g:Nat→Nat}{v:Nat}{cs:List AV}:vdo g (.cells v cs)=.cells v (vbx g cs):=rfl
theorem AM.renO_dead {g:Nat→Nat}:vdo g .dead=.dead:=rfl
theorem AM.renO_iter {g:Nat→Nat}{s:List UInt8}{p:Nat}:vdo g (.iter s p)=.iter s p:=rfl
theorem AM.renO_mapE {K V:Type}{ek:K→AV}{ev:V→AV} [X3 ek] [X3 ev](g:Nat→Nat)(M:List (K×V)){gh:Option (List Nat×Nat)}:vdo g (.map (y0 ek ev M) gh)=.map (y0 ek ev M) gh:=vcs g _ (vcC M)
theorem AM.ACalls.ix {σs τs τ':ze}{x':AV}(h:ACalls P f args σs fun r' σ'=>r'=x∧σ'=τs)(ids:List Nat){args':List AV}(hn:ids.Nodup:=by decide)(hlt:∀ id∈ids,id<σ.length:=by simp)(hobj:ids.map (fun id=>σ[id]?)=σs.map (fun o=>some (vdo (vbj ids σ.length) o)):=by first|rfl|(simp only[qu,qr,renO_mapE,renO_cells,renO_dead,renO_iter,vbx,AV.ren,vb4,XH,YZ,zy,zi,zI,xp,yB,zh,Zv,zk,zr,za,zn,YG,Y6,zj,yE,Y5,Xr,Xs,wZ,Xq,ww,wx,XL,zl,yu,zt,yn,zJ,zA,YA,XM,zb,zU,yJ,zf,yD,yH]<;>first|rfl|(and_intros<;>rfl)))(hx:x.ren (vbj ids σ.length)=x':=by first|rfl|(simp only[qu,qr,renO_mapE,renO_cells,renO_dead,renO_iter,vbx,AV.ren,vb4,XH,YZ,zy,zi,zI,xp,yB,zh,Zv,zk,zr,za,zn,YG,Y6,zj,yE,Y5,Xr,Xs,wZ,Xq,ww,wx,XL,zl,yu,zt,yn,zJ,zA,YA,XM,zb,zU,yJ,zf,yD,yH]<;>first|rfl|(and_intros<;>rfl)))(ha:vbx (vbj ids σ.length) args=args':=by first|rfl|(simp only[qu,qr,renO_mapE,renO_cells,renO_dead,renO_iter,vbx,AV.ren,vb4,XH,YZ,zy,zi,zI,xp,yB,zh,Zv,zk,zr,za,zn,YG,Y6,zj,yE,Y5,Xr,Xs,wZ,Xq,ww,wx,XL,zl,yu,zt,yn,zJ,zA,YA,XM,zb,zU,yJ,zf,yD,yH]<;>first|rfl|(and_intros<;>rfl)))(ht:YZ (vbj ids σ.length) ids τs σ=τ':=by first|rfl|(simp only[qu,qr,renO_mapE,renO_cells,renO_dead,renO_iter,vbx,AV.ren,vb4,XH,YZ,zy,zi,zI,xp,yB,zh,Zv,zk,zr,za,zn,YG,Y6,zj,yE,Y5,Xr,Xs,wZ,Xq,ww,wx,XL,zl,yu,zt,yn,zJ,zA,YA,XM,zb,zU,yJ,zf,yD,yH]<;>first|rfl|(and_intros<;>rfl))):ACalls P f args' σ fun r' σ'=>r'=x'∧σ'=τ':=(h.embed ids hn hlt hobj ha).mono (by rintro r σ' ⟨r0,τ,⟨rfl,rfl⟩,rfl,rfl⟩; exact⟨hx,ht⟩)
end
section
variable {Φ:Ctx} {n k:Nat} {Q:Exit→Fr→ze→Prop} {F F':Fr} {σ σ':ze} {L:List (Nat×AV)} {l l':List Oper} {y:Code}
theorem O (m:List Nat){id:Nat}(h:awp Φ qi n k y Q (fs L) σ')(e:∀ K:List (Nat×AV)→ze→Prop,Run (vaq tab n l.toArray l F σ) (fun l' F' τ=>l'=[]∧K (vbL F' m) τ)=K L σ':=by intro K; simp only[go_sem,qh,qd,qc,qe,qf,qg,reduceIte,reduceCtorEq]; exact rfl):awp Φ qi n k (.seq (.region id l.toArray false) y) Q F σ:=rg U m fun K J=>by rw[e K]; exact J _ _ h
theorem aI {a b:Prop}(x:a)(y:b):a∧b:=⟨x,y⟩
theorem rgW (m:List Nat){W:Prop}(w:W){id:Nat}(h:awp Φ qi n k y Q (fs L) σ')(e:W→∀ K:List (Nat×AV)→ze→Prop,Run (vaq tab n l.toArray l F σ) (fun l' F' τ=>l'=[]∧K (vbL F' m) τ)=K L σ':=by intro w K; simp only[go_sem,qh,qd,qc,qe,qf,qg,reduceIte,reduceCtorEq,Zp,w]; exact rfl):awp Φ qi n k (.seq (.region id l.toArray false) y) Q F σ:=rg U m fun K J=>by rw[e w K]; exact J _ _ h
theorem rnW (N:Nat){W:Prop}(w:W){ops:Array Oper}(h:Zg Φ qi n k ops l' Q F' σ')(e:W→∀ K:List Oper→Fr→ze→Prop,Run (vaq tab n ops (l.take N) F σ) (fun a F' τ=>a=[]∧K (l.drop N) F' τ)=K l' F' σ':=by intro w K; simp only[go_sem,qh,qd,qc,qe,qf,qg,reduceIte,reduceCtorEq,Zp,w]; exact rfl):Zg Φ qi n k ops l Q F σ:=xE U N (by
 have:=e w (fun a F' τ=>Zg Φ qi n k ops a Q F' τ)
 rw[this]; exact h)
theorem rnN (N:Nat){ops:Array Oper}(h:Zg Φ qi n k ops l' Q F' σ')(e:∀ K:List Oper→Fr→ze→Prop,Run (vaq tab n ops (l.take N) F σ) (fun a F' τ=>a=[]∧K (l.drop N) F' τ)=K l' F' σ':=by intro K; simp only[go_sem,qh,qd,qc,qe,qf,qg,reduceIte,reduceCtorEq]; exact rfl):Zg Φ qi n k ops l Q F σ:=xE U N (by
 have:=e (fun a F' τ=>Zg Φ qi n k ops a Q F' τ)
 rw[this]; exact h)
theorem nkN {K A:List (Nat×AV)→ze→Prop}{g:Fr→List (Nat×AV)}{ops:Array Oper}(J:∀ L σ,A L σ→K L σ)(h:A L σ)(e:g F=L:=by first|(simp only[Zn,upd,qc,reduceIte,xh,xO,ye,yx]; exact rfl)|exact rfl):Zg Φ qi n k ops [] (vac (fun F σ=>K (g F) σ) Q) F σ:=zz (by subst e; exact J _ _ h)
theorem clN {ops:Array Oper}{o:Oper}{f:FuncId}{args:List AV}{x:AV}{τ:ze}(hg:Yo ops F o=some true)(hc:callee F o=some (f,args))(hd:X4 n o.dst=true)(hf:ACalls qi f args σ fun r s=>r=x∧s=τ)(h:Zg Φ qi n k ops l Q (Zn F o.dst x) τ):Zg Φ qi n k ops (o::l) Q F σ:=ZL hg hc hd hf (by rintro _ _ ⟨rfl,rfl⟩; exact h)
theorem rtA (h:Q .ret F σ:=by simp only[ZA,yQ,y5,xN,exists_eq_left',go_sem,qh,qd,qc,qe,qf,qg,reduceIte,reduceCtorEq,push_cast]<;>first|rfl|(and_intros<;>rfl)):awp Φ qi n k .ret Q F σ:=yg h
end
end
section
open Go.Shelf Go.RowKit
def vco : Go.Shelf.Ren:=⟨fun|197=>242|260=>251|n=>n,fun|0=>0|3=>3|4=>4|5=>5|9=>9|21=>21|46=>100|105=>346|119=>360|138=>362|139=>363|n=>n,fun|3=>0|4=>1|n=>n⟩
theorem vbX : Lays.n197 qi vco where
 mixed:=by kernel_rfl
 f197:=Tryz.func242.trans (congrArg some (by kernel_rfl))
 f260:=Tryz.func251.trans (congrArg some (by kernel_rfl))
 t0:=Tryz.underlying0
 a0:=Tryz.isAgg0
 z0:=Tryz.sizeOf0
 v0:=Tryz.zeroValue0
 t3:=Tryz.underlying3
 a3:=Tryz.isAgg3
 z3:=Tryz.sizeOf3
 v3:=Tryz.zeroValue3
 t4:=Tryz.underlying4
 a4:=Tryz.isAgg4
 z4:=Tryz.sizeOf4
 v4:=Tryz.zeroValue4
 t5:=Tryz.underlying5
 a5:=Tryz.isAgg5
 z5:=Tryz.sizeOf5
 v5:=Tryz.zeroValue5
 t9:=Tryz.underlying9
 a9:=Tryz.isAgg9
 z9:=Tryz.sizeOf9
 v9:=Tryz.zeroValue9
 t21:=Tryz.underlying21
 a21:=Tryz.isAgg21
 z21:=Tryz.sizeOf21
 v21:=Tryz.zeroValue21
 t46:=Tryz.underlying100
 a46:=Tryz.isAgg100
 z46:=Tryz.sizeOf100
 v46:=Tryz.zeroValue100
 t105:=Tryz.underlying346
 a105:=Tryz.isAgg346
 z105:=Tryz.sizeOf346
 v105:=Tryz.zeroValue346
 t119:=Tryz.underlying360
 a119:=Tryz.isAgg360
 z119:=Tryz.sizeOf360
 t138:=Tryz.underlying362
 a138:=Tryz.isAgg362
 z138:=Tryz.sizeOf362
 v138:=Tryz.zeroValue362
 t139:=Tryz.underlying363
 a139:=Tryz.isAgg363
 z139:=Tryz.sizeOf363
 v139:=Tryz.zeroValue363
 g3:=by kernel_rfl
 g4:=by kernel_rfl
namespace AM
def dec0 (s:List UInt8):Nat×Nat:=if s=[] then (65533,0) else vdA s 0
theorem dec0_eq (s:List UInt8):Lib.decodeGo ⟨s.toArray⟩=dec0 s:=by
 unfold Lib.decodeGo dec0 vdA
 by_cases h:s=[]
 · subst h; rfl
 rw[if_neg h,if_neg]
 intro h0
 exact h (um (by simpa [ByteArray.size] using h0))
theorem decode_ev (s:List UInt8)(σ:ze):ACalls qi 242 [.str s] σ (fun r σ'=>r=.tup [.int .i32 ((dec0 s).1:Int),.int .i64 ((dec0 s).2:Int)]∧σ'=σ):=by
 refine⟨Tryz.call242,fun E vs hS hl=>?_⟩
 obtain⟨v,e⟩:∃ v,vs = #[v]:=by
  have h1:vs.toList.length=1:=hl.1
  obtain⟨l⟩:=vs
  match l,h1 with
  |[v],_=>exact⟨v,rfl⟩
 subst e
 have h2:VR E (.str s) v:=hl.2 0 (by simp)
 cases h2 with|str _ b hb=>
 subst hb
 refine (Any.utf8_DecodeRuneInString vbX b E.w hS.glb.utf8).mono ?_
 rintro e w' ⟨rfl,hb⟩
 obtain⟨hS',hx⟩:=hS.grew (w':=w') ⟨hb.os,hb.tape,hb.output,hb.size,hb.block⟩
 refine⟨_,.tup [.int .i32 ((dec0 b.data.toList).1:Int),.int .i64 ((dec0 b.data.toList).2:Int)],σ,{ E with w:=w' },rfl,rfl,?_,hS',hx,rfl,rfl⟩
 rw[← dec0_eq]
 refine .tup _ _ rfl fun i hi=>?_
 match i,hi with
 |0,_=>exact .int _ _
 |1,_=>exact .int _ _
def vaG (a0:List UInt8):Int×Int:=(((dec0 a0).1:Int),((dec0 a0).2:Int))
theorem vaG.ev (a0:List UInt8)(r:Int×Int)(h:vaG a0=r)(σ:ze):ACalls qi 242 [.str a0] σ (fun r' σ'=>r'=.tup [.int .i32 r.1,.int .i64 r.2]∧σ'=σ):=by subst h; exact decode_ev a0 σ
end AM
end
section
set_option maxRecDepth 4000
set_option maxHeartbeats 1000000
open AM
def Xc (a0:List UInt8)(a1:Int):Option (Int×Int×Bool):=
 (if ((decide (a1<0))||(decide ((qa a0:Int)≤a1)))=true then some (0,0,false) else (grd ((0:Int)≤a1∧a1≤(qa a0:Int)∧(qa a0:Int)≤(qa a0:Int))).bind fun _u5=>bnd (vaG (vbV a0 a1 (qa a0:Int))) fun r7=>(if ((decide (r7.1=65533))&&(decide (r7.2<2)))=true then some (0,0,false) else some (r7.1,r7.2,true)))
theorem Xc.ok {a0 a1 r}(h:Xc a0 a1=some r):ACalls qi 224 [.str a0,.int .i64 a1] [] (fun r' _=>r'=.tup [.int .i32 r.1,.int .i64 r.2.1,.bool r.2.2]):=by
 refine zx (rs:=[.tmp 4,.tmp 5,.tmp 6]) U Tryz.func224 rfl Tryz.ntmps224 rfl Tryz.call224 (by simp) ?_;refine zK [(0,.str a0),(1,.int .i64 a1)] ⟨rfl,rfl,trivial⟩ ?_;unfold Xc at h;refine O [0,1] ?_
 refine zd fun Z1 hZ1=>?_
 refine rc [0,1,16] fun K J=>?_
 refine rnN 3 ?_;refine xi 5 (fun L τ=>L=[(0,.str a0),(1,.int .i64 a1),(16,.bool ((decide (a1<0))||(decide ((qa a0:Int)≤a1))))]∧τ=([]:ze)) ?_ ?_
 · refine Yw 11 rfl (fun hg11=>?_) (fun hg11=>?_)
   · have t2:=eq_true hg11;refine rnN 5 ?_;refine zz ⟨rfl,_,_,⟨rfl,rfl⟩,.p t2⟩
   have t3:=eq_false hg11;refine rnN 5 ?_;refine zz ⟨rfl,_,_,⟨rfl,rfl⟩,.p t3⟩
 rintro _ _ ⟨rfl,rfl⟩;refine nkN J ?_;refine zY (b:=((decide (a1<0))||(decide ((qa a0:Int)≤a1)))) rfl (fun hc4=>?_) (fun hc4=>?_)
 · rw[if_pos hc4] at h;refine O [4,5,6] ?_;cases h;exact rtA
 rw[Zc hc4] at h;apply zm;apply hZ1
 refine rc [7,8] fun K J=>?_
 obtain⟨_u5,hu5,h⟩:=bind_some h;have gu5:=ZP hu5;have f6:=str_lo (T:=tab) (t:=9) rfl rfl gu5;obtain⟨r7,hr7,h⟩:=yq h;refine rnW 3 f6 ?_;refine clN rfl rfl rfl (vaG.ev (vbV a0 a1 (qa a0:Int)) r7 hr7 _) ?_;refine rnN 5 ?_;refine nkN J ?_
 refine zd fun Z8 hZ8=>?_
 refine rc [7,8,29] fun K J=>?_
 refine rnN 3 ?_;refine xi 3 (fun L τ=>L=[(7,.int .i32 r7.1),(8,.int .i64 r7.2),(29,.bool ((decide (r7.1=65533))&&(decide (r7.2<2))))]∧τ=([]:ze)) ?_ ?_
 · refine Yw 26 rfl (fun hg26=>?_) (fun hg26=>?_)
   · have t9:=eq_true hg26;refine rnN 3 ?_;refine zz ⟨rfl,_,_,⟨rfl,rfl⟩,.p t9⟩
   have t10:=eq_false hg26;refine rnN 3 ?_;refine zz ⟨rfl,_,_,⟨rfl,rfl⟩,.p t10⟩
 rintro _ _ ⟨rfl,rfl⟩;refine nkN J ?_;refine zY (b:=((decide (r7.1=65533))&&(decide (r7.2<2)))) rfl (fun hc11=>?_) (fun hc11=>?_)
 · rw[if_pos hc11] at h;refine O [4,5,6] ?_;cases h;exact rtA
 rw[Zc hc11] at h;apply zm;apply hZ8;refine O [4,5,6] ?_;cases h;exact rtA
def wh.l4 (a0:List UInt8):Nat→Nat→Option Bool
 |0,_=>none
 |k4+1,p2=>(if p2<qa a0 then (if ((vdA a0 p2).1:Int)=65533 then (Xc a0 ((p2:Nat):Int)).bind fun r12=>(if (!r12.2.2)=true then some false else ((wh.l4 a0 k4) (p2+(vdA a0 p2).2))) else ((wh.l4 a0 k4) (p2+(vdA a0 p2).2))) else some true)
def wh (a0:List UInt8):Option Bool:=
 (wh.l4 a0 xz 0)
theorem wh.ok {a0 r}(h:wh a0=some r):ACalls qi 184 [.str a0] [] (fun r' _=>r'=.bool r):=by
 refine zx (rs:=[.tmp 2]) U Tryz.func184 rfl Tryz.ntmps184 rfl Tryz.call184 (by simp) ?_;refine zK [(0,.str a0)] ⟨rfl,trivial⟩ ?_;unfold wh at h;refine O [0] ?_
 refine zd fun Z1 hZ1=>?_
 refine O [0,9] ?_;apply zq;refine yp (fun m L τ=>∃ (k4:Nat) (p2:Nat),m=0+k4∧L=[(0,.str a0),(9,.it 0)]∧τ=([.iter a0 p2]:ze)∧wh.l4 a0 k4 p2=some r) _ ⟨xz,0,rfl,rfl,rfl,h⟩ .s ?_;rintro m L τ ⟨k4,p2,rfl,rfl,rfl,h⟩
 rcases k4 with _|k4
 · cases h
 simp only[wh.l4] at h
 by_cases hn5:p2<qa a0
 · rw[if_pos hn5] at h;have t6:=eq_true hn5
   refine rg U [0,9,10,11] fun K J=>?_
   simp only[go_sem,qh,qc,qe,reduceCtorEq,vb9,if_true,if_false,t6];apply J
   refine zd fun Z7 hZ7=>?_
   refine zS rfl ?_;apply zm;apply hZ7;apply zq;refine O [0,3,4,9] ?_
   refine zd fun Z8 hZ8=>?_
   refine O [0,3,9,15] ?_;refine yv rfl (fun hc9=>?_) (fun hc9=>?_)
   · rw[if_neg hc9] at h;have t10:=eq_false hc9;apply yl;exact⟨_,_,_,qK (0+k4),⟨k4,p2+(vdA a0 p2).2,rfl,rfl,rfl,h⟩,.s⟩
   rw[if_pos hc9] at h;have t11:=eq_true hc9;apply zm;apply hZ8
   refine rc [0,7,9] fun K J=>?_
   obtain⟨r12,hr12,h⟩:=bind_some h;refine rnW 2 t11 ?_;refine clN rfl rfl rfl ((Xc.ok hr12).c _) ?_;refine rnN 7 ?_;refine nkN J ?_;refine O [0,9,24] ?_;refine zY (b:=(!r12.2.2)) rfl (fun hc13=>?_) (fun hc13=>?_)
   · rw[if_pos hc13] at h;refine O [2] ?_;cases h;exact rtA
   rw[Zc hc13] at h;apply zm;exact⟨_,_,_,qK (0+k4),⟨k4,p2+(vdA a0 p2).2,rfl,rfl,rfl,h⟩,.s⟩
 rw[if_neg hn5] at h;have t14:=eq_false hn5
 refine rg U [0,9,10,11] fun K J=>?_
 simp only[go_sem,qh,qc,reduceCtorEq,vb9,if_true,if_false,t14];apply J
 refine zd fun Z15 hZ15=>?_
 refine zQ rfl ?_;apply yl;apply hZ1;refine O [2] ?_;cases h;exact rtA
def yw.l4 (a1:List UInt8):List z8→Int→z8×Bool
 |[],x2=>((⟨[],([]:List ZB),([]:List Int)⟩:z8),false)
 |y4::q4,x2=>(if y4.fName=a1 then (y4,true) else ((yw.l4 a1 q4) (x2+1)))
def yw (a0:zB)(a1:List UInt8):z8×Bool:=
 (yw.l4 a1 a0.fMessages 0)
theorem yw.ok {a0 a1 r}(h:yw a0 a1=r):ACalls qi 92 [.agg (za a0),.str a1] [] (fun r' _=>r'=.tup [.agg (zh r.1),.bool r.2]):=by
 refine zx (rs:=[.cell 4 129,.tmp 5]) U Tryz.func92 rfl Tryz.ntmps92 rfl Tryz.call92 (by simp) ?_;refine zK [(0,.agg (za a0)),(1,.str a1)] ⟨rfl,rfl,trivial⟩ ?_;unfold yw at h;refine rgW [1,2,4] @za.eq_1 ?_
 refine zd fun Z1 hZ1=>?_
 refine O [1,4,9,10,11] ?_;apply zq
 refine xr 9 fun hb4=>?_
 replace hb4:qa a0.fMessages≤9223372036854775807:=hb4.1;refine yp (fun m L τ=>∃ (p4 q4:List z8) (x2:Int),m=qa q4∧L=[(1,.str a1),(4,.op 0 0 0),(9,.ds true (qb zh a0.fMessages) (qa a0.fMessages) false),(10,.int .i64 (qa a0.fMessages:Int)),(11,.int .i64 x2)]∧τ=([.cells 0 [.str [],.ds true [] 0 true,.ds true [] 0 true]]:ze)∧a0.fMessages=p4++q4∧x2=(qa p4:Int)∧yw.l4 a1 q4 x2=r) _ ⟨[],a0.fMessages,0,rfl,rfl,rfl,rfl,rfl,h⟩ (.t [1] false) ?_;rintro m L τ ⟨p4,q4,x2,rfl,rfl,rfl,hE4,hi4,h⟩
 rcases q4 with _|⟨y4,q4⟩
 · have hz4:=xM hE4 hi4;simp only[yw.l4] at h;refine rgW [1,4,9,10,11,12] hz4 ?_
   refine zd fun Z5 hZ5=>?_
   refine zQ rfl ?_;apply yl;apply hZ1;refine O [4,5] ?_;cases h;exact rtA
 obtain⟨hz4,hw4,hx4,hE'4,hi'4⟩:=xq hE4 hi4 hb4;simp only[yw.l4] at h;refine rgW [1,4,9,10,11,12] hz4 ?_
 refine zd fun Z6 hZ6=>?_
 refine zS rfl ?_;apply zm;apply hZ6
 refine zd fun Z7 hZ7=>?_
 apply zq;have f8:=E27.idxS hx4;have f9:=E27.loadS rfl rfl hx4;refine rgW [1,4,7,9,10,11] (aI @zh.eq_1 (aI f8 f9)) ?_;refine O [1,4,7,9,10,11,18] ?_;refine yv rfl (fun hc10=>?_) (fun hc10=>?_)
 · rw[if_pos hc10] at h;have t11:=eq_true hc10;refine rgW [4,5] t11 ?_;cases h;exact rtA
 rw[if_neg hc10] at h;have t12:=eq_false hc10;apply zm;apply hZ7
 refine rgE U [1,4,9,10,11] fun K J=>?_
 simp only[go_sem,qh,qc,hw4,t12];apply J
 exact⟨_,_,_,qK q4.length,⟨p4++[y4],q4,x2+1,rfl,rfl,rfl,hE'4,hi'4,h⟩,(.t [0] false)⟩
def zW.l4 (a1:Int):List ZB→Int→ZB×Bool
 |[],x2=>((⟨[],0,0,(⟨0,[]⟩:YH)⟩:ZB),false)
 |y4::q4,x2=>(if y4.fTag=a1 then (y4,true) else ((zW.l4 a1 q4) (x2+1)))
def zW (a0:z8)(a1:Int):ZB×Bool:=
 (zW.l4 a1 a0.fFields 0)
theorem zW.ok {a0 a1 r}(h:zW a0 a1=r):ACalls qi 141 [.agg (zh a0),.int .i64 a1] [] (fun r' _=>r'=.tup [.agg (yB r.1),.bool r.2]):=by
 refine zx (rs:=[.cell 4 126,.tmp 5]) U Tryz.func141 rfl Tryz.ntmps141 rfl Tryz.call141 (by simp) ?_;refine zK [(0,.agg (zh a0)),(1,.int .i64 a1)] ⟨rfl,rfl,trivial⟩ ?_;unfold zW at h;refine rgW [1,2,4] @zh.eq_1 ?_
 refine zd fun Z1 hZ1=>?_
 refine O [1,4,9,10,11] ?_;apply zq
 refine xr 9 fun hb4=>?_
 replace hb4:qa a0.fFields≤9223372036854775807:=hb4.1;refine yp (fun m L τ=>∃ (p4 q4:List ZB) (x2:Int),m=qa q4∧L=[(1,.int .i64 a1),(4,.op 0 0 0),(9,.ds true (qb yB a0.fFields) (qa a0.fFields) false),(10,.int .i64 (qa a0.fFields:Int)),(11,.int .i64 x2)]∧τ=([.cells 0 [.str [],.int .i64 0,.int .i64 0,.int .i64 0,.str []]]:ze)∧a0.fFields=p4++q4∧x2=(qa p4:Int)∧zW.l4 a1 q4 x2=r) _ ⟨[],a0.fFields,0,rfl,rfl,rfl,rfl,rfl,h⟩ (.t [1] false) ?_;rintro m L τ ⟨p4,q4,x2,rfl,rfl,rfl,hE4,hi4,h⟩
 rcases q4 with _|⟨y4,q4⟩
 · have hz4:=xM hE4 hi4;simp only[zW.l4] at h;refine rgW [1,4,9,10,11,12] hz4 ?_
   refine zd fun Z5 hZ5=>?_
   refine zQ rfl ?_;apply yl;apply hZ1;refine O [4,5] ?_;cases h;exact rtA
 obtain⟨hz4,hw4,hx4,hE'4,hi'4⟩:=xq hE4 hi4 hb4;simp only[zW.l4] at h;refine rgW [1,4,9,10,11,12] hz4 ?_
 refine zd fun Z6 hZ6=>?_
 refine zS rfl ?_;apply zm;apply hZ6
 refine zd fun Z7 hZ7=>?_
 apply zq;have f8:=E127.idxS hx4;have f9:=E127.loadS rfl rfl hx4;refine rgW [1,4,7,9,10,11] (aI @yB.eq_1 (aI f8 f9)) ?_;refine O [1,4,7,9,10,11,18] ?_;refine yv rfl (fun hc10=>?_) (fun hc10=>?_)
 · rw[if_pos hc10] at h;have t11:=eq_true hc10;refine rgW [4,5] t11 ?_;cases h;exact rtA
 rw[if_neg hc10] at h;have t12:=eq_false hc10;apply zm;apply hZ7
 refine rgE U [1,4,9,10,11] fun K J=>?_
 simp only[go_sem,qh,qc,hw4,t12];apply J
 exact⟨_,_,_,qK q4.length,⟨p4++[y4],q4,x2+1,rfl,rfl,rfl,hE'4,hi'4,h⟩,(.t [0] false)⟩
def wR (a0:YH)(a1:Int):Bool:=
 (if a0.fKind=1 then ((decide ((-2147483648)≤a1))&&(decide (a1≤2147483647))) else (if a0.fKind=3 then ((decide (a1=0))||(decide (a1=1))) else (if a0.fKind=6 then ((decide (0≤a1))&&(decide (a1≤2147483647))) else decide (a0.fKind=2))))
theorem wR.ok {a0 a1 r}(h:wR a0 a1=r):ACalls qi 183 [.agg (xp a0),.int .i64 a1] [] (fun r' _=>r'=.bool r):=by
 refine zx (rs:=[.tmp 4]) U Tryz.func183 rfl Tryz.ntmps183 rfl Tryz.call183 (by simp) ?_;refine zK [(0,.agg (xp a0)),(1,.int .i64 a1)] ⟨rfl,rfl,trivial⟩ ?_;unfold wR at h;refine rgW [1,2] @xp.eq_1 ?_
 refine zd fun Z1 hZ1=>?_
 refine O [1,2,6] ?_;apply zq;refine O [1,2,6,7] ?_;refine yv rfl (fun hc2=>?_) (fun hc2=>?_)
 · rw[if_pos hc2] at h;have t3:=eq_true hc2
   refine rc [4] fun K J=>?_
   refine rnW 3 t3 ?_;refine xi 3 (fun L τ=>L=[(14,.bool ((decide ((-2147483648)≤a1))&&(decide (a1≤2147483647))))]∧τ=([.cells 0 [.int .i64 a0.fKind,.str a0.fName]]:ze)) ?_ ?_
   · refine Yw 11 rfl (fun hg11=>?_) (fun hg11=>?_)
     · have t4:=eq_true hg11;refine rnN 3 ?_;refine zz ⟨rfl,_,_,⟨rfl,rfl⟩,.p t4⟩
     have t5:=eq_false hg11;refine rnN 3 ?_;refine zz ⟨rfl,_,_,⟨rfl,rfl⟩,.p t5⟩
   rintro _ _ ⟨rfl,rfl⟩;refine rnN 1 ?_;refine nkN J ?_;cases h;exact rtA
 rw[if_neg hc2] at h;have t6:=eq_false hc2;refine rgW [1,2,6,15] t6 ?_;refine yv rfl (fun hc7=>?_) (fun hc7=>?_)
 · rw[if_pos hc7] at h;have t8:=eq_true hc7
   refine rc [4] fun K J=>?_
   refine rnW 3 t8 ?_;refine xi 3 (fun L τ=>L=[(22,.bool ((decide (a1=0))||(decide (a1=1))))]∧τ=([.cells 0 [.int .i64 a0.fKind,.str a0.fName]]:ze)) ?_ ?_
   · refine Yw 19 rfl (fun hg19=>?_) (fun hg19=>?_)
     · have t9:=eq_true hg19;refine rnN 3 ?_;refine zz ⟨rfl,_,_,⟨rfl,rfl⟩,.p t9⟩
     have t10:=eq_false hg19;refine rnN 3 ?_;refine zz ⟨rfl,_,_,⟨rfl,rfl⟩,.p t10⟩
   rintro _ _ ⟨rfl,rfl⟩;refine rnN 1 ?_;refine nkN J ?_;cases h;exact rtA
 rw[if_neg hc7] at h;have t11:=eq_false hc7;refine rgW [1,2,23] t11 ?_;refine yv rfl (fun hc12=>?_) (fun hc12=>?_)
 · rw[if_pos hc12] at h;have t13:=eq_true hc12
   refine rc [4] fun K J=>?_
   refine rnW 3 t13 ?_;refine xi 3 (fun L τ=>L=[(30,.bool ((decide (0≤a1))&&(decide (a1≤2147483647))))]∧τ=([.cells 0 [.int .i64 a0.fKind,.str a0.fName]]:ze)) ?_ ?_
   · refine Yw 27 rfl (fun hg27=>?_) (fun hg27=>?_)
     · have t14:=eq_true hg27;refine rnN 3 ?_;refine zz ⟨rfl,_,_,⟨rfl,rfl⟩,.p t14⟩
     have t15:=eq_false hg27;refine rnN 3 ?_;refine zz ⟨rfl,_,_,⟨rfl,rfl⟩,.p t15⟩
   rintro _ _ ⟨rfl,rfl⟩;refine rnN 1 ?_;refine nkN J ?_;cases h;exact rtA
 rw[if_neg hc12] at h;have t16:=eq_false hc12;apply zm;apply hZ1;refine rgW [4] t16 ?_;cases h;exact rtA
def YD (a0:zp):Bool:=
 ((((((decide (1≤a0.fKind))&&(decide (a0.fKind≤3)))&&(decide (a0.fN=0)))&&(decide (a0.fS=[])))&&(decide ((qa a0.fEntries:Int)=0)))&&(decide ((qa a0.fRest:Int)=0)))
theorem YD.ok {a0 r}(h:YD a0=r):ACalls qi 143 [.agg (zb a0)] [] (fun r' _=>r'=.bool r):=by
 refine zx (rs:=[.tmp 2]) U Tryz.func143 rfl Tryz.ntmps143 rfl Tryz.call143 (by simp) ?_;refine zK [(0,.agg (zb a0))] ⟨rfl,trivial⟩ ?_;unfold YD at h;refine rgW [1] @zb.eq_1 ?_
 refine rc [2] fun K J=>?_
 refine rnN 4 ?_;refine xi 4 (fun L τ=>L=[(1,.op 0 0 0),(10,.bool ((decide (1≤a0.fKind))&&(decide (a0.fKind≤3))))]∧τ=([.cells 0 (zb a0)]:ze)) ?_ ?_
 · refine Yw 6 rfl (fun hg6=>?_) (fun hg6=>?_)
   · have t1:=eq_true hg6;refine rnN 4 ?_;refine zz ⟨rfl,_,_,⟨rfl,rfl⟩,.p t1⟩
   have t2:=eq_false hg6;refine rnN 4 ?_;refine zz ⟨rfl,_,_,⟨rfl,rfl⟩,.p t2⟩
 rintro _ _ ⟨rfl,rfl⟩;refine rnN 1 ?_;refine xi 4 (fun L τ=>L=[(1,.op 0 0 0),(15,.bool (((decide (1≤a0.fKind))&&(decide (a0.fKind≤3)))&&(decide (a0.fN=0))))]∧τ=([.cells 0 (zb a0)]:ze)) ?_ ?_
 · refine wA (b:=((decide (1≤a0.fKind))&&(decide (a0.fKind≤3)))) 11 rfl (fun hg11=>?_) (fun hg11=>?_)
   · refine rnN 4 ?_;refine zz ⟨rfl,_,_,⟨rfl,rfl⟩,.b hg11⟩
   refine rnN 4 ?_;refine zz ⟨rfl,_,_,⟨rfl,rfl⟩,.b hg11⟩
 rintro _ _ ⟨rfl,rfl⟩;refine rnN 1 ?_;refine xi 4 (fun L τ=>L=[(1,.op 0 0 0),(20,.bool ((((decide (1≤a0.fKind))&&(decide (a0.fKind≤3)))&&(decide (a0.fN=0)))&&(decide (a0.fS=[]))))]∧τ=([.cells 0 (zb a0)]:ze)) ?_ ?_
 · refine wA (b:=(((decide (1≤a0.fKind))&&(decide (a0.fKind≤3)))&&(decide (a0.fN=0)))) 16 rfl (fun hg16=>?_) (fun hg16=>?_)
   · refine rnN 4 ?_;refine zz ⟨rfl,_,_,⟨rfl,rfl⟩,.b hg16⟩
   refine rnN 4 ?_;refine zz ⟨rfl,_,_,⟨rfl,rfl⟩,.b hg16⟩
 rintro _ _ ⟨rfl,rfl⟩;refine rnN 1 ?_;refine xi 5 (fun L τ=>L=[(1,.op 0 0 0),(26,.bool (((((decide (1≤a0.fKind))&&(decide (a0.fKind≤3)))&&(decide (a0.fN=0)))&&(decide (a0.fS=[])))&&(decide ((qa a0.fEntries:Int)=0))))]∧τ=([.cells 0 (zb a0)]:ze)) ?_ ?_
 · refine wA (b:=((((decide (1≤a0.fKind))&&(decide (a0.fKind≤3)))&&(decide (a0.fN=0)))&&(decide (a0.fS=[])))) 21 rfl (fun hg21=>?_) (fun hg21=>?_)
   · refine rnN 5 ?_;refine zz ⟨rfl,_,_,⟨rfl,rfl⟩,.b hg21⟩
   refine rnN 5 ?_;refine zz ⟨rfl,_,_,⟨rfl,rfl⟩,.b hg21⟩
 rintro _ _ ⟨rfl,rfl⟩;refine rnN 1 ?_;refine xi 5 (fun L τ=>L=[(32,.bool ((((((decide (1≤a0.fKind))&&(decide (a0.fKind≤3)))&&(decide (a0.fN=0)))&&(decide (a0.fS=[])))&&(decide ((qa a0.fEntries:Int)=0)))&&(decide ((qa a0.fRest:Int)=0))))]∧τ=([.cells 0 (zb a0)]:ze)) ?_ ?_
 · refine wA (b:=(((((decide (1≤a0.fKind))&&(decide (a0.fKind≤3)))&&(decide (a0.fN=0)))&&(decide (a0.fS=[])))&&(decide ((qa a0.fEntries:Int)=0)))) 27 rfl (fun hg27=>?_) (fun hg27=>?_)
   · refine rnN 5 ?_;refine zz ⟨rfl,_,_,⟨rfl,rfl⟩,.b hg27⟩
   refine rnN 5 ?_;refine zz ⟨rfl,_,_,⟨rfl,rfl⟩,.b hg27⟩
 rintro _ _ ⟨rfl,rfl⟩;refine rnN 1 ?_;refine nkN J ?_;cases h;exact rtA
def yz.j20 (x5:Int)(l4:List yC)(rec8:Int→List yC→Option (List yC))(y8:yC)(x15:Int)(rec17:Int→Option (List yC))(x19:Bool):Option (List yC):=
 (if x19=true then (rec17 (IntKind.i64.wrap (x15-1))) else (grd ((0:Int)≤IntKind.i64.wrap (x15+1)∧IntKind.i64.wrap (x15+1)≤x5+1∧x5+1≤(qa l4:Int))).bind fun _u22=>(grd ((0:Int)≤x15∧x15≤x5∧x5≤(qa l4:Int))).bind fun _u24=>(YI (vbu l4 (qT (IntKind.i64.wrap (x15+1))) (qT x15) (min (qT x5-qT x15) (qT (x5+1)-qT (IntKind.i64.wrap (x15+1))))) x15).bind fun y28=>(rec8 (x5+1) (setI (vbu l4 (qT (IntKind.i64.wrap (x15+1))) (qT x15) (min (qT x5-qT x15) (qT (x5+1)-qT (IntKind.i64.wrap (x15+1))))) x15 y8)))
def yz.l17 (x5:Int)(l4:List yC)(rec8:Int→List yC→Option (List yC))(y8:yC):Nat→Int→Option (List yC)
 |0,_=>none
 |k17+1,x15=>(if 0<x15 then (YI l4 (IntKind.i64.wrap (x15-1))).bind fun y33=>(yz.j20 x5 l4 rec8 y8 x15 (yz.l17 x5 l4 rec8 y8 k17) (decide (y8.fTag<y33.fTag))) else (yz.j20 x5 l4 rec8 y8 x15 (yz.l17 x5 l4 rec8 y8 k17) false))
def yz.l8 : List yC→Int→List yC→Option (List yC)
 |[],x5,l4=>some l4
 |y8::q8,x5,l4=>(yz.l17 x5 l4 (yz.l8 q8) y8 xz x5)
def yz (a0:List yC):Option (List yC):=
 (grd ((0:Int)≤(qa a0:Int)∧(40:Int)*(qa a0:Int)≤281474976710656∧(qa a0:Int)<9223372036854775807)).bind fun _u1=>(yz.l8 a0 0 (qV (qT (qa a0:Int)) ((⟨0,0,0,[]⟩:yC):yC)))
theorem yz.ok {a0 r}(h:yz a0=some r):ACalls qi 190 [.ds true (qb zy a0) (qa a0) false] [] (fun r' _=>r'=.ds true (qb zy r) (qa r) false):=by
 refine zx (rs:=[.tmp 2]) U Tryz.func190 rfl Tryz.ntmps190 rfl Tryz.call190 (by simp) ?_;refine zK [(0,.ds true (qb zy a0) (qa a0) false)] ⟨rfl,trivial⟩ ?_;unfold yz at h;refine O [0] ?_;obtain⟨_u1,hu1,h⟩:=bind_some h;have gu1:=ZP hu1;have f2:=E35.mk0 rfl (z:=((⟨0,0,0,[]⟩:yC):yC)) rfl rfl gu1 .i64 .i64;refine rgW [0,3] f2 ?_;refine xB (L:=[(0,.ds true (qb zy a0) (qa a0) false),(3,.os true 4 0 0 0 (qa (qV (qT (qa a0:Int)) ((⟨0,0,0,[]⟩:yC):yC))) true)]) (τ:=[.cells 0 (qb zy (qV (qT (qa a0:Int)) ((⟨0,0,0,[]⟩:yC):yC)))]) .s ?_
 refine zd fun Z3 hZ3=>?_
 refine O [3,10,11,12] ?_;apply zq
 refine xr 10 fun hb8=>?_
 replace hb8:qa a0≤9223372036854775807:=hb8.1;refine yp (fun m L τ=>∃ (p8 q8:List yC) (x5:Int) (l4:List yC),m=qa q8∧L=[(3,.os true 4 0 0 0 (qa l4) true),(10,.ds true (qb zy a0) (qa a0) false),(11,.int .i64 (qa a0:Int)),(12,.int .i64 x5)]∧τ=([.cells 0 (qb zy l4)]:ze)∧a0=p8++q8∧x5=(qa p8:Int)∧yz.l8 q8 x5 l4=some r) _ ⟨[],a0,0,qV (qT (qa a0:Int)) ((⟨0,0,0,[]⟩:yC):yC),rfl,rfl,rfl,rfl,rfl,h⟩ .s ?_;rintro m L τ ⟨p8,q8,x5,l4,rfl,rfl,rfl,hE8,hi8,h⟩
 rcases q8 with _|⟨y8,q8⟩
 · have hz8:=xM hE8 hi8;simp only[yz.l8] at h;refine rgW [3,10,11,12,13] hz8 ?_
   refine zd fun Z9 hZ9=>?_
   refine zQ rfl ?_;apply yl;apply hZ3;refine O [2] ?_;cases h;exact rtA
 obtain⟨hz8,hw8,hx8,hE'8,hi'8⟩:=xq hE8 hi8 hb8;simp only[yz.l8] at h;refine rgW [3,10,11,12,13] hz8 ?_
 refine zd fun Z10 hZ10=>?_
 refine zS rfl ?_;apply zm;apply hZ10
 refine zd fun Z11 hZ11=>?_
 apply zq;have f12:=E35.idxS hx8;have f13:=E35.loadS rfl rfl hx8;refine rgW [3,4,5,10,11,12] (aI @zy.eq_1 (aI f12 f13)) ?_;refine O [3,4,5,6,10,11,12] ?_
 refine zd fun Z14 hZ14=>?_
 apply zq;refine yp (fun m L τ=>∃ (k17:Nat) (x15:Int),m=0+k17∧L=[(3,.os true 4 0 0 0 (qa l4) true),(4,.int .i64 x5),(5,.op 1 0 0),(6,.int .i64 x15),(10,.ds true (qb zy a0) (qa a0) false),(11,.int .i64 (qa a0:Int)),(12,.int .i64 x5)]∧τ=([.cells 0 (qb zy l4),.cells 0 [.int .i64 y8.fTag,.int .i64 y8.fWire,.int .i64 y8.fN,.str y8.fB]]:ze)∧yz.l17 x5 l4 (yz.l8 q8) y8 k17 x15=some r) _ ⟨xz,x5,rfl,rfl,rfl,h⟩ .s ?_;rintro m L τ ⟨k17,x15,rfl,rfl,rfl,h⟩
 rcases k17 with _|k17
 · cases h
 simp only[yz.l17] at h
 refine zd fun Z18 hZ18=>?_
 refine xV (fun L τ=>∃ (x19:Bool),L=[(3,.os true 4 0 0 0 (qa l4) true),(4,.int .i64 x5),(5,.op 1 0 0),(6,.int .i64 x15),(10,.ds true (qb zy a0) (qa a0) false),(11,.int .i64 (qa a0:Int)),(12,.int .i64 x5),(30,.bool x19)]∧τ=([.cells 0 (qb zy l4),.cells 0 [.int .i64 y8.fTag,.int .i64 y8.fWire,.int .i64 y8.fN,.str y8.fB]]:ze)∧yz.j20 x5 l4 (yz.l8 q8) y8 x15 (yz.l17 x5 l4 (yz.l8 q8) y8 k17) x19=some r) ?_ ?_
 · refine rdE [3,4,5,6,10,11,12,30] fun K J=>?_
   refine DW.start (T:=tab) [.any,.any,.any,.any,.any,.any,.any,.any,.at [],.any,.at [],.any,.any] [] ?_;refine DW.runN U 3 ?_;simp only[go_sem,qh,qc]
   refine DW.if 20 rfl (fun hg20=>?_) (fun hg20=>?_)
   · rw[if_pos hg20] at h;have t32:=eq_true hg20;obtain⟨y33,hy33,h⟩:=bind_some h;have f34:=E35.idxO hy33;have f35:=E35.rdfO0 hy33;refine DW.runN U 8 ?_;simp only[go_sem,qh,qc,qe,zy,t32,f34,f35];refine DW.runN U 2 ?_;simp only[go_sem,qh,qc];refine DW.fin U (by decide +kernel) rfl ?_;simp only[zH,upd,qc,reduceIte,xh,xO];apply J
     exact⟨_,_,⟨decide (y8.fTag<y33.fTag),rfl,rfl,h⟩,.s⟩
   rw[if_neg hg20] at h;have t36:=eq_false hg20;refine DW.runN U 8 ?_;simp only[go_sem,qh,qc,t36];refine DW.runN U 2 ?_;simp only[go_sem,qh,qc];refine DW.fin U (by decide +kernel) rfl ?_;simp only[zH,upd,qc,reduceIte,xh,xO];apply J
   exact⟨_,_,⟨false,rfl,rfl,h⟩,.s⟩
 rintro _ _ ⟨x19,rfl,rfl,h⟩;unfold yz.j20 at h;refine zY (b:=x19) rfl (fun hc21=>?_) (fun hc21=>?_)
 · rw[if_pos hc21] at h;apply zm;apply hZ18;apply zq
   refine rgE U [3,4,5,6,10,11,12] fun K J=>?_
   simp only[go_sem,qh,qc];apply J
   exact⟨_,_,_,qK (0+k17),⟨k17,IntKind.i64.wrap (x15-1),rfl,rfl,rfl,h⟩,.s⟩
 rw[Zc hc21] at h;apply yl;apply hZ14;obtain⟨_u22,hu22,h⟩:=bind_some h;have gu22:=ZP hu22
 have f23:=fun id ver=>E35.slO gu22 .i64 .i64 id ver true
 obtain⟨_u24,hu24,h⟩:=bind_some h;have gu24:=ZP hu24
 have f25:=fun id ver=>E35.slO gu24 .i64 .i64 id ver true
 have f26:=fun (τ:ze) (t1 t2:Bool)=>E35.cpO vah.h gu22 gu24 t1 t2 (.cells 0 (qb zy l4)::τ) 0 0 (by simp only[ze.at_hd,if_true]) rfl
 have f27:qa (vbu l4 (qT (IntKind.i64.wrap (x15+1))) (qT x15) (min (qT x5-qT x15) (qT (x5+1)-qT (IntKind.i64.wrap (x15+1)))))=qa l4:=copyI_length (by omega) (by omega)
 refine rd [3,5,6,10,11,12] fun K J=>?_
 refine DW.start (T:=tab) [.any,.any,.any,.any,.any,.any,.any,.any,.any,.any,.eff] [] ?_;refine DW.runN U 8 ?_;simp only[go_sem,qh,qc,hw8,f23];refine DW.runN U 3 ?_;simp only[go_sem,qh,qc,f25,f26];refine DW.fin U (by decide +kernel) rfl ?_;simp only[zH,upd,qc,reduceIte,xh,xO];apply J
 refine xB (L:=[(3,.os true 4 0 0 0 (qa (vbu l4 (qT (IntKind.i64.wrap (x15+1))) (qT x15) (min (qT x5-qT x15) (qT (x5+1)-qT (IntKind.i64.wrap (x15+1)))))) true),(5,.op 1 0 0),(6,.int .i64 x15),(10,.ds true (qb zy a0) (qa a0) false),(11,.int .i64 (qa a0:Int)),(12,.int .i64 x5)]) (τ:=[.cells 0 (qb zy (vbu l4 (qT (IntKind.i64.wrap (x15+1))) (qT x15) (min (qT x5-qT x15) (qT (x5+1)-qT (IntKind.i64.wrap (x15+1)))))),.cells 0 [.int .i64 y8.fTag,.int .i64 y8.fWire,.int .i64 y8.fN,.str y8.fB]]) (.same (by first|exact⟨rfl,rfl,rfl,rfl,rfl,rfl,trivial⟩|rfl|(simp only[go_sem,qc,vbt,f27,and_self]<;>rfl)) (by first|exact⟨rfl,rfl,rfl,rfl,rfl,rfl,trivial⟩|rfl|(simp only[go_sem,qh,qd,qc,qe,qf,qg,reduceIte,reduceCtorEq,vbt,Ym,wJ,encS,encK,ym,qH,qE,qO,qD,qG,qj,qp,qB,qn,qA,qI,ux,zy,f27,and_self]<;>rfl))) ?_;obtain⟨y28,hy28,h⟩:=bind_some h;have f29:=E35.idxO hy28;have f30:=E35.stOc hy28;have f31:=E35.stOr hy28 (y:=y8) (cs:=[.int .i64 y8.fTag,.int .i64 y8.fWire,.int .i64 y8.fN,.str y8.fB]) rfl;simp only[wk] at f31
 refine rgE U [3,10,11,12] fun K J=>?_
 simp only[go_sem,qh,qd,qc,qe,f29,f30,f31];apply J
 apply hZ11
 refine rgE U [3,10,11,12] fun K J=>?_
 simp only[go_sem,qh,qc,hw8];apply J
 exact⟨_,_,_,qK q8.length,⟨p8++[y8],q8,x5+1,setI (vbu l4 (qT (IntKind.i64.wrap (x15+1))) (qT x15) (min (qT x5-qT x15) (qT (x5+1)-qT (IntKind.i64.wrap (x15+1))))) x15 y8,rfl,rfl,rfl,hE'8,hi'8,h⟩,(.t [0] false)⟩
def wN.l12 (a1:Int):List UInt8→Int→Int→Option (Int×Int×Int)
 |[],x9,x8=>some (0,0,2)
 |y12::q12,x9,x8=>(if ((decide (x9=9))&&(decide (1<(y12.toNat:Int))))=true then some (0,0,3) else (grd (0≤IntKind.i64.wrap (7*x9))).bind fun _u23=>(if 128≤(y12.toNat:Int) then ((wN.l12 a1 q12) (x9+1) (IntKind.u64.wrap ((uz (qM 64 x8 ||| qM 64 (IntKind.u64.wrap ((IntKind.u64.wrap (IntKind.u8.wrap ((uz (qM 8 (y12.toNat:Int) &&& ~~~(qM 8 128)):Nat):Int)))*2^(min (qT (IntKind.i64.wrap (7*x9))) 64)))):Nat):Int))) else (if ((decide ((y12.toNat:Int)=0))&&(decide (0<x9)))=true then some (0,0,3) else some (IntKind.u64.wrap ((uz (qM 64 x8 ||| qM 64 (IntKind.u64.wrap ((IntKind.u64.wrap (IntKind.u8.wrap ((uz (qM 8 (y12.toNat:Int) &&& ~~~(qM 8 128)):Nat):Int)))*2^(min (qT (IntKind.i64.wrap (7*x9))) 64)))):Nat):Int),IntKind.i64.wrap ((IntKind.i64.wrap (a1+x9))+1),0))))
def wN (a0:List UInt8)(a1:Int):Option (Int×Int×Int):=
 (if ((decide (a1<0))||(decide ((qa a0:Int)<a1)))=true then some (0,0,1) else (grd ((0:Int)≤a1∧a1≤IntKind.i64.wrap (a1+(if 10<IntKind.i64.wrap ((qa a0:Int)-a1) then 10 else IntKind.i64.wrap ((qa a0:Int)-a1)))∧IntKind.i64.wrap (a1+(if 10<IntKind.i64.wrap ((qa a0:Int)-a1) then 10 else IntKind.i64.wrap ((qa a0:Int)-a1)))≤(qa a0:Int))).bind fun _u6=>(wN.l12 a1 (vbV a0 a1 (IntKind.i64.wrap (a1+(if 10<IntKind.i64.wrap ((qa a0:Int)-a1) then 10 else IntKind.i64.wrap ((qa a0:Int)-a1))))) 0 0))
theorem wN.ok {a0 a1 r}(h:wN a0 a1=some r):ACalls qi 245 [.ds true (qb Ym a0) (qa a0) false,.int .i64 a1] [] (fun r' _=>r'=.tup [.int .u64 r.1,.int .i64 r.2.1,.int .i64 r.2.2]):=by
 refine zx (rs:=[.tmp 4,.tmp 5,.tmp 6]) U Tryz.func245 rfl Tryz.ntmps245 rfl Tryz.call245 (by simp) ?_;refine zK [(0,.ds true (qb Ym a0) (qa a0) false),(1,.int .i64 a1)] ⟨rfl,rfl,trivial⟩ ?_;unfold wN at h;refine O [0,1] ?_
 refine zd fun Z1 hZ1=>?_
 refine rc [0,1,17] fun K J=>?_
 refine rnN 3 ?_;refine xi 5 (fun L τ=>L=[(0,.ds true (qb Ym a0) (qa a0) false),(1,.int .i64 a1),(17,.bool ((decide (a1<0))||(decide ((qa a0:Int)<a1))))]∧τ=([]:ze)) ?_ ?_
 · refine Yw 12 rfl (fun hg12=>?_) (fun hg12=>?_)
   · have t2:=eq_true hg12;refine rnN 5 ?_;refine zz ⟨rfl,_,_,⟨rfl,rfl⟩,.p t2⟩
   have t3:=eq_false hg12;refine rnN 5 ?_;refine zz ⟨rfl,_,_,⟨rfl,rfl⟩,.p t3⟩
 rintro _ _ ⟨rfl,rfl⟩;refine nkN J ?_;refine zY (b:=((decide (a1<0))||(decide ((qa a0:Int)<a1)))) rfl (fun hc4=>?_) (fun hc4=>?_)
 · rw[if_pos hc4] at h;refine O [4,5,6] ?_;cases h;exact rtA
 rw[Zc hc4] at h;apply zm;apply hZ1;refine O [0,1,7] ?_
 refine zd fun Z5 hZ5=>?_
 obtain⟨_u6,hu6,h⟩:=bind_some h;have gu6:=ZP hu6;have f7:=E48.sl_lh gu6
 refine rg U [1,7,27,28,29] fun K J=>?_
 simp only[go_sem,qh,qc,reduceCtorEq,vcb,foldO,vcM,f7];apply J
 apply zq
 refine xr 27 fun hb12=>?_
 replace hb12:qa (vbV a0 a1 (IntKind.i64.wrap (a1+(if 10<IntKind.i64.wrap ((qa a0:Int)-a1) then 10 else IntKind.i64.wrap ((qa a0:Int)-a1)))))≤9223372036854775807:=hb12.1;refine yp (fun m L τ=>∃ (p12 q12:List UInt8) (x9:Int) (x8:Int),m=qa q12∧L=[(1,.int .i64 a1),(7,.int .u64 x8),(27,.ds true (qb Ym (vbV a0 a1 (IntKind.i64.wrap (a1+(if 10<IntKind.i64.wrap ((qa a0:Int)-a1) then 10 else IntKind.i64.wrap ((qa a0:Int)-a1)))))) (qa (vbV a0 a1 (IntKind.i64.wrap (a1+(if 10<IntKind.i64.wrap ((qa a0:Int)-a1) then 10 else IntKind.i64.wrap ((qa a0:Int)-a1)))))) false),(28,.int .i64 (qa (vbV a0 a1 (IntKind.i64.wrap (a1+(if 10<IntKind.i64.wrap ((qa a0:Int)-a1) then 10 else IntKind.i64.wrap ((qa a0:Int)-a1))))):Int)),(29,.int .i64 x9)]∧τ=([]:ze)∧vbV a0 a1 (IntKind.i64.wrap (a1+(if 10<IntKind.i64.wrap ((qa a0:Int)-a1) then 10 else IntKind.i64.wrap ((qa a0:Int)-a1))))=p12++q12∧x9=(qa p12:Int)∧wN.l12 a1 q12 x9 x8=some r) _ ⟨[],vbV a0 a1 (IntKind.i64.wrap (a1+(if 10<IntKind.i64.wrap ((qa a0:Int)-a1) then 10 else IntKind.i64.wrap ((qa a0:Int)-a1)))),0,0,rfl,rfl,rfl,rfl,rfl,h⟩ .s ?_;rintro m L τ ⟨p12,q12,x9,x8,rfl,rfl,rfl,hE12,hi12,h⟩
 rcases q12 with _|⟨y12,q12⟩
 · have hz12:=xM hE12 hi12;simp only[wN.l12] at h;refine rgW [1,7,27,28,29,30] hz12 ?_
   refine zd fun Z13 hZ13=>?_
   refine zQ rfl ?_;apply yl;apply hZ5;refine O [4,5,6] ?_;cases h;exact rtA
 obtain⟨hz12,hw12,hx12,hE'12,hi'12⟩:=xq hE12 hi12 hb12;simp only[wN.l12] at h;refine rgW [1,7,27,28,29,30] hz12 ?_
 refine zd fun Z14 hZ14=>?_
 refine zS rfl ?_;apply zm;apply hZ14
 refine zd fun Z15 hZ15=>?_
 apply zq;have f16:=E48.idxS hx12;have f17:=E48.fldS0 (f:=5) rfl rfl hx12
 refine rg U [1,7,8,9,27,28,29] fun K J=>?_
 simp only[go_sem,qh,qc,Ym,f16,f17];apply J
 refine zd fun Z18 hZ18=>?_
 refine rc [1,7,8,9,27,28,29,39] fun K J=>?_
 refine rnN 3 ?_;refine xi 3 (fun L τ=>L=[(1,.int .i64 a1),(7,.int .u64 x8),(8,.int .i64 x9),(9,.int .u8 (y12.toNat:Int)),(27,.ds true (qb Ym (vbV a0 a1 (IntKind.i64.wrap (a1+(if 10<IntKind.i64.wrap ((qa a0:Int)-a1) then 10 else IntKind.i64.wrap ((qa a0:Int)-a1)))))) (qa (vbV a0 a1 (IntKind.i64.wrap (a1+(if 10<IntKind.i64.wrap ((qa a0:Int)-a1) then 10 else IntKind.i64.wrap ((qa a0:Int)-a1)))))) false),(28,.int .i64 (qa (vbV a0 a1 (IntKind.i64.wrap (a1+(if 10<IntKind.i64.wrap ((qa a0:Int)-a1) then 10 else IntKind.i64.wrap ((qa a0:Int)-a1))))):Int)),(29,.int .i64 x9),(39,.bool ((decide (x9=9))&&(decide (1<(y12.toNat:Int)))))]∧τ=([]:ze)) ?_ ?_
 · refine Yw 36 rfl (fun hg36=>?_) (fun hg36=>?_)
   · have t19:=eq_true hg36;refine rnN 3 ?_;refine zz ⟨rfl,_,_,⟨rfl,rfl⟩,.p t19⟩
   have t20:=eq_false hg36;refine rnN 3 ?_;refine zz ⟨rfl,_,_,⟨rfl,rfl⟩,.p t20⟩
 rintro _ _ ⟨rfl,rfl⟩;refine nkN J ?_;refine zY (b:=((decide (x9=9))&&(decide (1<(y12.toNat:Int))))) rfl (fun hc21=>?_) (fun hc21=>?_)
 · rw[if_pos hc21] at h;refine O [4,5,6] ?_;cases h;exact rtA
 rw[Zc hc21] at h;apply zm;apply hZ18;have f22:=Zz (T:=tab) (src:=5) (dst:=287) rfl rfl rfl;obtain⟨_u23,hu23,h⟩:=bind_some h;have gu23:=ZP hu23;have gu23n:(IntKind.i64.wrap (7*x9)<0)=False:=eq_false (by omega)
 refine rg U [1,7,8,9,27,28,29] fun K J=>?_
 simp only[go_sem,qh,qc,f22,gu23n,vag];apply J
 refine zd fun Z24 hZ24=>?_
 refine O [1,7,8,9,27,28,29,49] ?_;refine yv rfl (fun hc25=>?_) (fun hc25=>?_)
 · rw[if_pos hc25] at h;have t26:=eq_true hc25;apply yl;apply hZ15
   refine rgE U [1,7,27,28,29] fun K J=>?_
   simp only[go_sem,qh,qc,hw12,t26];apply J
   exact⟨_,_,_,qK q12.length,⟨p12++[y12],q12,x9+1,IntKind.u64.wrap ((uz (qM 64 x8 ||| qM 64 (IntKind.u64.wrap ((IntKind.u64.wrap (IntKind.u8.wrap ((uz (qM 8 (y12.toNat:Int) &&& ~~~(qM 8 128)):Nat):Int)))*2^(min (qT (IntKind.i64.wrap (7*x9))) 64)))):Nat):Int),rfl,rfl,rfl,hE'12,hi'12,h⟩,.s⟩
 rw[if_neg hc25] at h;have t27:=eq_false hc25;apply zm;apply hZ24
 refine zd fun Z28 hZ28=>?_
 refine rc [1,7,8,55] fun K J=>?_
 refine rnW 3 t27 ?_;refine xi 3 (fun L τ=>L=[(1,.int .i64 a1),(7,.int .u64 (IntKind.u64.wrap ((uz (qM 64 x8 ||| qM 64 (IntKind.u64.wrap ((IntKind.u64.wrap (IntKind.u8.wrap ((uz (qM 8 (y12.toNat:Int) &&& ~~~(qM 8 128)):Nat):Int)))*2^(min (qT (IntKind.i64.wrap (7*x9))) 64)))):Nat):Int))),(8,.int .i64 x9),(55,.bool ((decide ((y12.toNat:Int)=0))&&(decide (0<x9))))]∧τ=([]:ze)) ?_ ?_
 · refine Yw 52 rfl (fun hg52=>?_) (fun hg52=>?_)
   · have t29:=eq_true hg52;refine rnN 3 ?_;refine zz ⟨rfl,_,_,⟨rfl,rfl⟩,.p t29⟩
   have t30:=eq_false hg52;refine rnN 3 ?_;refine zz ⟨rfl,_,_,⟨rfl,rfl⟩,.p t30⟩
 rintro _ _ ⟨rfl,rfl⟩;refine nkN J ?_;refine zY (b:=((decide ((y12.toNat:Int)=0))&&(decide (0<x9)))) rfl (fun hc31=>?_) (fun hc31=>?_)
 · rw[if_pos hc31] at h;refine O [4,5,6] ?_;cases h;exact rtA
 rw[Zc hc31] at h;apply zm;apply hZ28;refine O [4,5,6] ?_;cases h;exact rtA
end
section
set_option maxRecDepth 4000
set_option maxHeartbeats 1000000
open AM
def vaE (a0:Int):Int:=
 IntKind.i64.wrap ((uz (qM 64 (IntKind.i64.wrap (Int.fdiv a0 (2^(min (qT 1) 64)))) ^^^ qM 64 (IntKind.i64.wrap (0-(IntKind.i64.wrap (IntKind.u64.wrap ((uz (qM 64 a0 &&& qM 64 1):Nat):Int)))))):Nat):Int)
theorem vaE.ok {a0 r}(h:vaE a0=r):ACalls qi 246 [.int .u64 a0] [] (fun r' _=>r'=.int .i64 r):=by
 refine zx (rs:=[.tmp 2]) U Tryz.func246 rfl Tryz.ntmps246 rfl Tryz.call246 (by simp) ?_;refine zK [(0,.int .u64 a0)] ⟨rfl,trivial⟩ ?_;unfold vaE at h;refine O [0] ?_;have f1:=Zz (T:=tab) (src:=287) (dst:=3) rfl rfl rfl;have f2:=Zz (T:=tab) (src:=287) (dst:=3) rfl rfl rfl
 refine rg U [2] fun K J=>?_
 simp only[go_sem,qh,qc,reduceCtorEq,f1,vag,Int.reduceLT];apply J
 cases h;exact rtA
def YM (a0:List UInt8)(a1:Int):Option (yC×Int×Int):=
 (wN a0 a1).bind fun r1=>(if r1.2.2=0 then (if ((decide (r1.1<2))||(decide (500<IntKind.u64.wrap ((r1.1).tdiv 2))))=true then some ((⟨0,0,0,[]⟩:yC),0,7) else (wN a0 r1.2.1).bind fun r11=>(if r11.2.2=0 then (if IntKind.i64.wrap ((r1.1).tmod 2)=0 then bnd (vaE r11.1) fun r18=>some ((⟨IntKind.i64.wrap (IntKind.u64.wrap ((r1.1).tdiv 2)),IntKind.i64.wrap ((r1.1).tmod 2),r18,[]⟩:yC),r11.2.1,0) else (if IntKind.u64.wrap (IntKind.i64.wrap ((qa a0:Int)-r11.2.1))<r11.1 then some ((⟨0,0,0,[]⟩:yC),0,2) else (grd ((0:Int)≤r11.2.1∧r11.2.1≤IntKind.i64.wrap (r11.2.1+(IntKind.i64.wrap r11.1))∧IntKind.i64.wrap (r11.2.1+(IntKind.i64.wrap r11.1))≤(qa a0:Int))).bind fun _u25=>some ((⟨IntKind.i64.wrap (IntKind.u64.wrap ((r1.1).tdiv 2)),IntKind.i64.wrap ((r1.1).tmod 2),0,vbV a0 r11.2.1 (IntKind.i64.wrap (r11.2.1+(IntKind.i64.wrap r11.1)))⟩:yC),IntKind.i64.wrap (r11.2.1+(IntKind.i64.wrap r11.1)),0))) else some ((⟨0,0,0,[]⟩:yC),0,r11.2.2))) else some ((⟨0,0,0,[]⟩:yC),0,r1.2.2))
theorem YM.ok {a0 a1 r}(h:YM a0 a1=some r):ACalls qi 231 [.ds true (qb Ym a0) (qa a0) false,.int .i64 a1] [] (fun r' _=>r'=.tup [.agg (zy r.1),.int .i64 r.2.1,.int .i64 r.2.2]):=by
 refine zx (rs:=[.cell 4 139,.tmp 5,.tmp 6]) U Tryz.func231 rfl Tryz.ntmps231 rfl Tryz.call231 (by simp) ?_;refine zK [(0,.ds true (qb Ym a0) (qa a0) false),(1,.int .i64 a1)] ⟨rfl,rfl,trivial⟩ ?_;unfold YM at h;refine O [0,1,4] ?_
 refine rc [0,1,4,7,8] fun K J=>?_
 obtain⟨r1,hr1,h⟩:=bind_some h;refine rnN 2 ?_;refine clN rfl rfl rfl ((wN.ok hr1).c _) ?_;refine rnN 7 ?_;refine nkN J ?_
 refine zd fun Z2 hZ2=>?_
 apply zq;refine O [0,1,4,7,8,19] ?_;refine yv rfl (fun hc3=>?_) (fun hc3=>?_)
 · rw[if_neg hc3] at h;have t4:=eq_false hc3;refine rgW [4,5,6] t4 ?_;cases h;exact rtA
 rw[if_pos hc3] at h;have t5:=eq_true hc3
 refine rc [0,1,4,7,24] fun K J=>?_
 refine rnW 3 t5 ?_;refine xi 4 (fun L τ=>L=[(0,.ds true (qb Ym a0) (qa a0) false),(1,.int .i64 r1.2.1),(4,.op 0 0 0),(7,.int .u64 r1.1),(31,.bool ((decide (r1.1<2))||(decide (500<IntKind.u64.wrap ((r1.1).tdiv 2)))))]∧τ=([.cells 0 [.int .i64 0,.int .i64 0,.int .i64 0,.str []]]:ze)) ?_ ?_
 · refine Yw 27 rfl (fun hg27=>?_) (fun hg27=>?_)
   · have t6:=eq_true hg27;refine rnN 4 ?_;refine zz ⟨rfl,_,_,⟨rfl,rfl⟩,.p t6⟩
   have t7:=eq_false hg27;refine xE U 4 ?_;simp only[go_sem,qh,qc,reduceCtorEq,Int.reduceEq];refine zz ⟨rfl,_,_,⟨rfl,rfl⟩,.p t7⟩
 rintro _ _ ⟨rfl,rfl⟩;refine rnN 1 ?_;refine nkN J ?_;refine zY (b:=((decide (r1.1<2))||(decide (500<IntKind.u64.wrap ((r1.1).tdiv 2))))) rfl (fun hc8=>?_) (fun hc8=>?_)
 · rw[if_pos hc8] at h;refine O [4,5,6] ?_;cases h;exact rtA
 rw[Zc hc8] at h;apply zm;apply hZ2;have f9:=Zz (T:=tab) (src:=287) (dst:=3) rfl rfl rfl;have f10:=Zz (T:=tab) (src:=287) (dst:=3) rfl rfl rfl
 refine rg U [0,1,4,9] fun K J=>?_
 simp only[go_sem,qh,qd,qc,qe,reduceCtorEq,f9,Int.reduceEq];apply J
 refine rc [0,1,4,8,9,10] fun K J=>?_
 obtain⟨r11,hr11,h⟩:=bind_some h;refine rnN 2 ?_;refine clN rfl rfl rfl ((wN.ok hr11).c _) ?_;refine rnN 7 ?_;refine nkN J ?_
 refine zd fun Z12 hZ12=>?_
 apply zq;refine O [0,1,4,8,9,10,47] ?_;refine yv rfl (fun hc13=>?_) (fun hc13=>?_)
 · rw[if_neg hc13] at h;have t14:=eq_false hc13;refine rgW [4,5,6] t14 ?_;cases h;exact rtA
 rw[if_pos hc13] at h;have t15:=eq_true hc13;refine rgW [0,1,4,9,10,52] t15 ?_;refine yv rfl (fun hc16=>?_) (fun hc16=>?_)
 · rw[if_pos hc16] at h;have t17:=eq_true hc16
   refine rc [1,4,9] fun K J=>?_
   obtain⟨r18,hr18,h⟩:=yq h;refine rnW 1 t17 ?_;refine clN rfl rfl rfl ((vaE.ok hr18).c _) ?_;refine rnW 2 @zy.eq_1 ?_;refine nkN J ?_;refine O [4,5,6] ?_;cases h;exact rtA
 rw[if_neg hc16] at h;have t19:=eq_false hc16;have f20:=Zz (T:=tab) (src:=3) (dst:=287) rfl rfl rfl;refine rgW [0,1,4,9,10,61] (aI t19 f20) ?_;refine yv rfl (fun hc21=>?_) (fun hc21=>?_)
 · rw[if_pos hc21] at h;have t22:=eq_true hc21;refine rgW [4,5,6] t22 ?_;cases h;exact rtA
 rw[if_neg hc21] at h;have t23:=eq_false hc21;apply zm;apply hZ12;have f24:=Zz (T:=tab) (src:=287) (dst:=3) rfl rfl rfl;refine rgW [0,1,4,9,11] (aI t23 f24) ?_;obtain⟨_u25,hu25,h⟩:=bind_some h;have gu25:=ZP hu25;have f26:=E48.sl_lh gu25;have f27:=conv_b2s (T:=tab) (src:=48) (dst:=9) rfl rfl rfl rfl rfl rfl (vbV a0 r11.2.1 (IntKind.i64.wrap (r11.2.1+(IntKind.i64.wrap r11.1))));refine rgW [4,9,11] (aI f26 f27) ?_;refine O [4,5,6] ?_;cases h;exact rtA
def Zk.l12 (a0:List UInt8):Nat→List yC→Int→Option (List yC×Int)
 |0,_,_=>none
 |k12+1,l6,x8=>(if x8<(qa a0:Int) then (YM a0 x8).bind fun r16=>(if r16.2.2=0 then (vaV (qa l6+1) 40).bind fun _u21=>((Zk.l12 a0 k12) (l6++[r16.1]) r16.2.1) else some (([]:List yC),r16.2.2)) else some (l6,0))
def Zk (a0:List UInt8):Option (List yC×Int):=
 (if 4096<(qa a0:Int) then some (([]:List yC),4) else (Zk.l12 a0 xz ([]:List yC) 0))
theorem Zk.ok {a0 r}(h:Zk a0=some r):ACalls qi 193 [.ds true (qb Ym a0) (qa a0) false] [] (fun r' _=>r'=.tup [.ds true (qb zy r.1) (qa r.1) false,.int .i64 r.2]):=by
 refine zx (rs:=[.tmp 2,.tmp 3]) U Tryz.func193 rfl Tryz.ntmps193 rfl Tryz.call193 (by simp) ?_;refine zK [(0,.ds true (qb Ym a0) (qa a0) false)] ⟨rfl,trivial⟩ ?_;unfold Zk at h;refine O [0] ?_
 refine zd fun Z1 hZ1=>?_
 refine O [0,11] ?_;refine yv rfl (fun hc2=>?_) (fun hc2=>?_)
 · rw[if_pos hc2] at h;have t3:=eq_true hc2;refine rgW [2,3] t3 ?_;cases h;exact rtA
 rw[if_neg hc2] at h;have t4:=eq_false hc2;apply zm;apply hZ1;refine rgW [0,4] t4 ?_;refine vaA 4 4 rfl ?_;refine xB (L:=[(0,.ds true (qb Ym a0) (qa a0) false),(4,.os true 4 0 0 0 (qa ([]:List yC)) false)]) (τ:=[.cells 0 (qb zy ([]:List yC))]) .s ?_
 refine zd fun Z5 hZ5=>?_
 refine O [0,4,5] ?_;apply zq;refine yp (fun m L τ=>∃ (k12:Nat) (l6:List yC) (x8:Int) (v7:Nat),m=0+k12∧L=[(0,.ds true (qb Ym a0) (qa a0) false),(4,.os true 4 0 v7 0 (qa l6) false),(5,.int .i64 x8)]∧τ=([.cells v7 (qb zy l6)]:ze)∧Zk.l12 a0 k12 l6 x8=some r) _ ⟨xz,([]:List yC),0,0,rfl,rfl,rfl,h⟩ .s ?_;rintro m L τ ⟨k12,l6,x8,v7,rfl,rfl,rfl,h⟩
 rcases k12 with _|k12
 · cases h
 simp only[Zk.l12] at h
 refine zd fun Z13 hZ13=>?_
 refine O [0,4,5,15] ?_;refine yv rfl (fun hc14=>?_) (fun hc14=>?_)
 · rw[if_pos hc14] at h;have t15:=eq_true hc14;apply zm;apply hZ13;apply zq
   refine rc [0,4,6,7,8] fun K J=>?_
   obtain⟨r16,hr16,h⟩:=bind_some h;refine rnW 2 t15 ?_;refine clN rfl rfl rfl ((YM.ok hr16).c _) ?_;refine rnW 8 @zy.eq_1 ?_;refine nkN J ?_
   refine zd fun Z17 hZ17=>?_
   refine O [0,4,6,7,8,24] ?_;refine yv rfl (fun hc18=>?_) (fun hc18=>?_)
   · rw[if_neg hc18] at h;have t19:=eq_false hc18;refine rgW [2,3] t19 ?_;cases h;exact rtA
   rw[if_pos hc18] at h;have t20:=eq_true hc18;apply zm;apply hZ17;obtain⟨_u21,hu21,h⟩:=bind_some h;have gu21:=xF hu21;have f22:=(yf E35.len l6)
   refine rg U [0,4,7] fun K J=>?_
   simp only[go_sem,qh,qd,qc,qe,qf,reduceCtorEq,zV,yI,ug,qW,true_and,uj,xj,yG,xg,t20,gu21,f22,yW,ua,qZ,AV.one,qN,qG,qp,qB,qn,qI];apply J
   refine xB (L:=[(0,.ds true (qb Ym a0) (qa a0) false),(4,.os true 4 0 (v7+1) 0 (qa (l6++[r16.1])) false),(7,.int .i64 r16.2.1)]) (τ:=[.cells (v7+1) (qb zy (l6++[r16.1])),.cells 0 [.int .i64 r16.1.fTag,.int .i64 r16.1.fWire,.int .i64 r16.1.fN,.str r16.1.fB],.cells 0 [.int .i64 r16.1.fTag,.int .i64 r16.1.fWire,.int .i64 r16.1.fN,.str r16.1.fB]]) .s ?_
   refine rgE U [0,4,5] fun K J=>?_
   simp only[go_sem,qh,qc,reduceCtorEq];apply J
   exact⟨_,_,_,qK (0+k12),⟨k12,l6++[r16.1],r16.2.1,v7+1,rfl,rfl,rfl,h⟩,(.t [0] false)⟩
 rw[if_neg hc14] at h;have t23:=eq_false hc14;apply yl;apply hZ5;refine rgW [2,3] t23 ?_;cases h;exact rtA
def ZI (a0:zv)(a1:Int):Int:=
 IntKind.i64.wrap (a0.fTag-a1)
theorem ZI.ok {a0 a1 r}(h:ZI a0 a1=r):ACalls qi 233 [.agg (zU a0),.int .i64 a1] [] (fun r' _=>r'=.int .i64 r):=by
 refine zx (rs:=[.tmp 4]) U Tryz.func233 rfl Tryz.ntmps233 rfl Tryz.call233 (by simp) ?_;refine zK [(0,.agg (zU a0)),(1,.int .i64 a1)] ⟨rfl,rfl,trivial⟩ ?_;unfold ZI at h;refine rgW [1,2] @zU.eq_1 ?_;refine O [4] ?_;cases h;exact rtA
def zM.l6 (a0:List zv)(a1:Int):Nat→Int→Int→Option (Int×Bool)
 |0,_,_=>none
 |k6+1,x2,x3=>(if x2<x3 then (YI a0 (IntKind.i64.wrap (Int.fdiv (IntKind.u64.wrap (IntKind.i64.wrap (x2+x3))) (2^(min (qT 1) 64))))).bind fun y12=>bnd (ZI y12 a1) fun r15=>(if r15<0 then ((zM.l6 a0 a1 k6) (IntKind.i64.wrap ((IntKind.i64.wrap (Int.fdiv (IntKind.u64.wrap (IntKind.i64.wrap (x2+x3))) (2^(min (qT 1) 64))))+1)) x3) else ((zM.l6 a0 a1 k6) x2 (IntKind.i64.wrap (Int.fdiv (IntKind.u64.wrap (IntKind.i64.wrap (x2+x3))) (2^(min (qT 1) 64)))))) else (if x2<(qa a0:Int) then (YI a0 x2).bind fun y20=>bnd (ZI y20 a1) fun r23=>some (decide (r23=0)) else some false).bind fun c20=>some (x2,c20))
def zM (a0:List zv)(a1:Int):Option (Int×Bool):=
 (zM.l6 a0 a1 xz 0 (qa a0:Int))
theorem zM.ok {a0 a1 r}(h:zM a0 a1=some r):ACalls qi 232 [.ds true (qb zD a0) (qa a0) false,.int .i64 a1,.fn (.func 233) [] []] [] (fun r' _=>r'=.tup [.int .i64 r.1,.bool r.2]):=by
 refine zx (rs:=[.tmp 6,.tmp 7]) U Tryz.func232 rfl Tryz.ntmps232 rfl Tryz.call232 (by simp) ?_;refine zK [(0,.ds true (qb zD a0) (qa a0) false),(1,.int .i64 a1),(2,.fn (.func 233) [] [])] ⟨rfl,rfl,rfl,trivial⟩ ?_;unfold zM at h;refine O [0,1,2] ?_;refine O [0,1,2,8] ?_;refine O [0,1,2,8,9,10] ?_
 refine zd fun Z1 hZ1=>?_
 apply zq;refine yp (fun m L τ=>∃ (k6:Nat) (x2:Int) (x3:Int),m=0+k6∧L=[(0,.ds true (qb zD a0) (qa a0) false),(1,.int .i64 a1),(2,.fn (.func 233) [] []),(8,.int .i64 (qa a0:Int)),(9,.int .i64 x2),(10,.int .i64 x3)]∧τ=([]:ze)∧zM.l6 a0 a1 k6 x2 x3=some r) _ ⟨xz,0,(qa a0:Int),rfl,rfl,rfl,h⟩ .s ?_;rintro m L τ ⟨k6,x2,x3,rfl,rfl,rfl,h⟩
 rcases k6 with _|k6
 · cases h
 simp only[zM.l6] at h
 refine zd fun Z7 hZ7=>?_
 refine O [0,1,2,8,9,10,17] ?_;refine yv rfl (fun hc8=>?_) (fun hc8=>?_)
 · rw[if_pos hc8] at h;have t9:=eq_true hc8;apply zm;apply hZ7;apply zq;have f10:=Zz (T:=tab) (src:=3) (dst:=100) rfl rfl rfl;have f11:=Zz (T:=tab) (src:=100) (dst:=3) rfl rfl rfl
   refine rg U [0,1,2,8,9,10,11] fun K J=>?_
   simp only[go_sem,qh,qc,reduceCtorEq,t9,f10,f11,vag,Int.reduceLT];apply J
   refine rc [0,1,2,8,9,10,11,31] fun K J=>?_
   obtain⟨y12,hy12,h⟩:=bind_some h;have f13:=E34.idxS hy12;have f14:=E34.loadS rfl rfl hy12;obtain⟨r15,hr15,h⟩:=yq h;refine rnW 6 (aI @zU.eq_1 (aI @yD (aI f13 f14))) ?_;refine clN rfl rfl rfl ((ZI.ok hr15).c _) ?_;refine rnN 1 ?_;refine nkN J ?_;refine yv rfl (fun hc16=>?_) (fun hc16=>?_)
   · rw[if_pos hc16] at h;have t17:=eq_true hc16
     refine rgE U [0,1,2,8,9,10] fun K J=>?_
     simp only[go_sem,qh,qc,reduceCtorEq,t17];apply J
     exact⟨_,_,_,qK (0+k6),⟨k6,IntKind.i64.wrap ((IntKind.i64.wrap (Int.fdiv (IntKind.u64.wrap (IntKind.i64.wrap (x2+x3))) (2^(min (qT 1) 64))))+1),x3,rfl,rfl,rfl,h⟩,.s⟩
   rw[if_neg hc16] at h;have t18:=eq_false hc16
   refine rgE U [0,1,2,8,9,10] fun K J=>?_
   simp only[go_sem,qh,qc,reduceCtorEq,t18];apply J
   exact⟨_,_,_,qK (0+k6),⟨k6,x2,IntKind.i64.wrap (Int.fdiv (IntKind.u64.wrap (IntKind.i64.wrap (x2+x3))) (2^(min (qT 1) 64))),rfl,rfl,rfl,h⟩,.s⟩
 rw[if_neg hc8] at h;have t19:=eq_false hc8;apply yl;apply hZ1
 refine rc [6,7] fun K J=>?_
 refine rnW 5 t19 ?_;obtain⟨c20,hc20,h⟩:=bind_some h;refine xi 9 (fun L τ=>L=[(35,.int .i64 x2),(48,.bool c20)]∧τ=([]:ze)) ?_ ?_
 · refine Yw 39 rfl (fun hg39=>?_) (fun hg39=>?_)
   · have t21:=eq_true hg39;rw[if_pos hg39] at hc20;obtain⟨y22,hy22,hc20⟩:=bind_some hc20;have f23:=E34.idxS hy22;have f24:=E34.loadS rfl rfl hy22;obtain⟨r25,hr25,hc20⟩:=yq hc20;refine rnW 6 (aI @zU.eq_1 (aI @yD (aI f23 f24))) ?_;refine clN rfl rfl rfl ((ZI.ok hr25).c _) ?_;refine rnN 2 ?_;cases hc20;refine zz ⟨rfl,_,_,⟨rfl,rfl⟩,.p t21⟩
   have t26:=eq_false hg39;rw[if_neg hg39] at hc20;refine rnN 9 ?_;cases hc20;refine zz ⟨rfl,_,_,⟨rfl,rfl⟩,.p t26⟩
 rintro _ _ ⟨rfl,rfl⟩;refine rnN 2 ?_;refine nkN J ?_;cases h;exact rtA
def wS (a0:zv)(a1:z8):Option Bool:=
 bnd (zW a1 a0.fTag) fun r1=>(if r1.1.fLabel=1 then (YI a0.fTrees 0).bind fun y2=>bnd (YD y2) fun r5=>some r5 else some false).bind fun c2=>some c2
theorem wS.ok {a0 a1 r}(h:wS a0 a1=some r):ACalls qi 197 [.agg (zU a0),.dp (zh a1) 0] [] (fun r' _=>r'=.bool r):=by
 refine zx (rs:=[.tmp 3]) U Tryz.func197 rfl Tryz.ntmps197 rfl Tryz.call197 (by simp) ?_;refine zK [(0,.agg (zU a0)),(1,.dp (zh a1) 0)] ⟨rfl,rfl,trivial⟩ ?_;unfold wS at h;refine rgW [1,2] @zU.eq_1 ?_
 refine rc [2,4] fun K J=>?_
 obtain⟨r1,hr1,h⟩:=yq h;refine xE U 3 ?_;simp only[go_sem,qh,qd,qc,qe,zh,vbg];refine clN rfl rfl rfl ((zW.ok hr1).c _) ?_;refine rnW 6 @yB.eq_1 ?_;refine nkN J ?_
 refine rc [3] fun K J=>?_
 refine rnN 4 ?_;obtain⟨c2,hc2,h⟩:=bind_some h;refine xi 6 (fun L τ=>L=[(22,.bool c2)]∧τ=([.cells 0 (zU a0),.cells 0 (yB r1.1)]:ze)) ?_ ?_
 · refine Yw 16 rfl (fun hg16=>?_) (fun hg16=>?_)
   · have t3:=eq_true hg16;rw[if_pos hg16] at hc2;obtain⟨y4,hy4,hc2⟩:=bind_some hc2;have f5:=E38.idxS hy4;have f6:=E38.loadS rfl rfl hy4;obtain⟨r7,hr7,hc2⟩:=yq hc2;refine rnW 4 (aI @zb.eq_1 (aI @zf (aI f5 f6))) ?_;refine clN rfl rfl rfl ((YD.ok hr7).c _) ?_;refine rnN 1 ?_;cases hc2;refine zz ⟨rfl,_,_,⟨rfl,rfl⟩,.p t3⟩
   have t8:=eq_false hg16;rw[if_neg hg16] at hc2;refine rnN 6 ?_;cases hc2;refine zz ⟨rfl,_,_,⟨rfl,rfl⟩,.p t8⟩
 rintro _ _ ⟨rfl,rfl⟩;refine rnN 1 ?_;refine nkN J ?_;cases h;exact rtA
def zX.l4 (a1_0:z8):List zv→Int→Option Int
 |[],x2=>some (-1)
 |y4::q4,x2=>(wS y4 a1_0).bind fun r10=>(if r10=true then some x2 else ((zX.l4 a1_0 q4) (x2+1)))
def zX (a0:List zv)(a1_0:z8):Option Int:=
 (zX.l4 a1_0 a0 0)
theorem zX.ok {a0 a1_0 r}(h:zX a0 a1_0=some r):ACalls qi 235 [.ds true (qb zD a0) (qa a0) false,.fn (.func 197) [] [.dp (zh a1_0) 0]] [] (fun r' _=>r'=.int .i64 r):=by
 refine zx (rs:=[.tmp 4]) U Tryz.func235 rfl Tryz.ntmps235 rfl Tryz.call235 (by simp) ?_;refine zK [(0,.ds true (qb zD a0) (qa a0) false),(1,.fn (.func 197) [] [.dp (zh a1_0) 0])] ⟨rfl,rfl,trivial⟩ ?_;unfold zX at h;refine O [0,1] ?_
 refine zd fun Z1 hZ1=>?_
 refine O [0,1,7,8] ?_;apply zq
 refine xr 0 fun hb4=>?_
 replace hb4:qa a0≤9223372036854775807:=hb4.1;refine yp (fun m L τ=>∃ (p4 q4:List zv) (x2:Int),m=qa q4∧L=[(0,.ds true (qb zD a0) (qa a0) false),(1,.fn (.func 197) [] [.dp (zh a1_0) 0]),(7,.int .i64 (qa a0:Int)),(8,.int .i64 x2)]∧τ=([]:ze)∧a0=p4++q4∧x2=(qa p4:Int)∧zX.l4 a1_0 q4 x2=some r) _ ⟨[],a0,0,rfl,rfl,rfl,rfl,rfl,h⟩ .s ?_;rintro m L τ ⟨p4,q4,x2,rfl,rfl,rfl,hE4,hi4,h⟩
 rcases q4 with _|⟨y4,q4⟩
 · have hz4:=xM hE4 hi4;simp only[zX.l4] at h;refine rgW [0,1,7,8,9] hz4 ?_
   refine zd fun Z5 hZ5=>?_
   refine zQ rfl ?_;apply yl;apply hZ1;refine O [4] ?_;cases h;exact rtA
 obtain⟨hz4,hw4,hx4,hE'4,hi'4⟩:=xq hE4 hi4 hb4;simp only[zX.l4] at h;refine rgW [0,1,7,8,9] hz4 ?_
 refine zd fun Z6 hZ6=>?_
 refine zS rfl ?_;apply zm;apply hZ6
 refine zd fun Z7 hZ7=>?_
 apply zq;refine O [0,1,5,7,8] ?_
 refine rc [0,1,5,7,8,16] fun K J=>?_
 have f8:=E34.idxS hx4;have f9:=E34.loadS rfl rfl hx4;obtain⟨r10,hr10,h⟩:=bind_some h;refine rnW 5 (aI @zU.eq_1 (aI @yD (aI f8 f9))) ?_;refine clN rfl rfl rfl ((wS.ok hr10).c _) ?_;refine nkN J ?_;refine zY (b:=r10) rfl (fun hc11=>?_) (fun hc11=>?_)
 · rw[if_pos hc11] at h;refine O [4] ?_;cases h;exact rtA
 rw[Zc hc11] at h;apply zm;apply hZ7
 refine rgE U [0,1,7,8] fun K J=>?_
 simp only[go_sem,qh,qc,reduceCtorEq,hw4];apply J
 exact⟨_,_,_,qK q4.length,⟨p4++[y4],q4,x2+1,rfl,rfl,rfl,hE'4,hi'4,h⟩,.s⟩
def yy.j4 (m4_1:zp):Option (zp×Int):=
 some (m4_1,0)
def yy.j6 (yh:zB→z8→(List UInt8)→Int→Option (zp×Int))(a0:zB)(a1:YH)(a2:yC)(a3:Int)(m4_1:zp)(x5:Bool):Option (zp×Int):=
 (if x5=true then bnd (wR a1 a2.fN) fun r8=>(if (!r8)=true then some ((⟨0,0,[],([]:List zv),([]:List yC)⟩:zp),11) else (yy.j4 m4_1)) else (if a1.fKind=4 then (wh a2.fB).bind fun r12=>(if (!r12)=true then some ((⟨0,0,[],([]:List zv),([]:List yC)⟩:zp),9) else (yy.j4 m4_1)) else (if a1.fKind=7 then bnd (yw a0 a1.fName) fun r17=>(grd (qa a2.fB≤9223372036854775807)).bind fun _u18=>(yh a0 r17.1 a2.fB (IntKind.i64.wrap (a3+1))).bind fun r20=>some (r20.1,r20.2) else (yy.j4 m4_1))))
def yy.j3 (yh:zB→z8→(List UInt8)→Int→Option (zp×Int))(a0:zB)(a1:YH)(a2:yC)(a3:Int)(m4_1:zp):Option (zp×Int):=
 (if a1.fKind=3 then (yy.j6 yh a0 a1 a2 a3 m4_1 (decide (a1.fKind=3))) else (yy.j6 yh a0 a1 a2 a3 m4_1 (decide (a1.fKind=6))))
def yy.j26 (yh:zB→z8→(List UInt8)→Int→Option (zp×Int))(a0:zB)(a1:YH)(a2:yC)(a3:Int)(m4_1:zp)(x25:Bool):Option (zp×Int):=
 (if x25=true then (if a2.fWire=1 then (yy.j3 yh a0 a1 a2 a3 m4_1) else some ((⟨0,0,[],([]:List zv),([]:List yC)⟩:zp),8)) else (if a2.fWire=0 then (yy.j3 yh a0 a1 a2 a3 m4_1) else some ((⟨0,0,[],([]:List zv),([]:List yC)⟩:zp),8)))
def yy.j2 (yh:zB→z8→(List UInt8)→Int→Option (zp×Int))(a0:zB)(a1:YH)(a2:yC)(a3:Int)(m4_1:zp):Option (zp×Int):=
 (if a1.fKind=4 then (yy.j26 yh a0 a1 a2 a3 m4_1 (decide (a1.fKind=4))) else (if a1.fKind=5 then (yy.j26 yh a0 a1 a2 a3 m4_1 (decide (a1.fKind=5))) else (yy.j26 yh a0 a1 a2 a3 m4_1 (decide (a1.fKind=7)))))
def yy.body (yh:zB→z8→(List UInt8)→Int→Option (zp×Int))(xT:zB→YH→yC→Int→Option (zp×Int))(a0:zB)(a1:YH)(a2:yC)(a3:Int):Option (zp×Int):=
 (if a2.fWire=1 then (yy.j2 yh a0 a1 a2 a3 (⟨2,0,a2.fB,([]:List zv),([]:List yC)⟩:zp)) else (yy.j2 yh a0 a1 a2 a3 (⟨1,a2.fN,[],([]:List zv),([]:List yC)⟩:zp)))
theorem yy.step (yh:zB→z8→(List UInt8)→Int→Option (zp×Int))(xT:zB→YH→yC→Int→Option (zp×Int))(vcx:∀ (a0:zB) (a1:z8) (a2:List UInt8) (a3:Int) (r:zp×Int),yh a0 a1 a2 a3=some r→ACalls qi 149 [.agg (za a0),.agg (zh a1),.ds true (qb Ym a2) (qa a2) false,.int .i64 a3] [] (fun r' _=>r'=.tup [.agg (zb r.1),.int .i64 r.2]))(vaM:∀ (a0:zB) (a1:YH) (a2:yC) (a3:Int) (r:zp×Int),xT a0 a1 a2 a3=some r→ACalls qi 194 [.agg (za a0),.agg (xp a1),.agg (zy a2),.int .i64 a3] [] (fun r' _=>r'=.tup [.agg (zb r.1),.int .i64 r.2]))(a0:zB)(a1:YH)(a2:yC)(a3:Int)(r:zp×Int)(h:yy.body yh xT a0 a1 a2 a3=some r):ACalls qi 194 [.agg (za a0),.agg (xp a1),.agg (zy a2),.int .i64 a3] [] (fun r' _=>r'=.tup [.agg (zb r.1),.int .i64 r.2]):=by
 have ev_decode_message:=fun a0 a1 a2 a3 r h σ=>(vcx a0 a1 a2 a3 r h).c σ
 have ev_decode_one:=fun a0 a1 a2 a3 r h σ=>(vaM a0 a1 a2 a3 r h).c σ
 refine zx (rs:=[.cell 8 37,.tmp 9]) U Tryz.func194 rfl Tryz.ntmps194 rfl Tryz.call194 (by simp) ?_;refine zK [(0,.agg (za a0)),(1,.agg (xp a1)),(2,.agg (zy a2)),(3,.int .i64 a3)] ⟨rfl,rfl,rfl,rfl,trivial⟩ ?_;unfold yy.body at h;refine rgW [3,4,5,6,8] (aI @zy.eq_1 (aI @za.eq_1 @xp.eq_1)) ?_;refine O [3,4,5,6,8,10] ?_;refine xV (fun L τ=>∃ (m4_1:zp),L=[(3,.int .i64 a3),(4,.op 0 0 0),(5,.op 1 0 0),(6,.op 2 0 0),(8,.op 3 0 0),(10,.op 4 0 0)]∧τ=([.cells 0 (za a0),.cells 0 [.int .i64 a1.fKind,.str a1.fName],.cells 0 [.int .i64 a2.fTag,.int .i64 a2.fWire,.int .i64 a2.fN,.str a2.fB],.cells 0 [.int .i64 0,.int .i64 0,.str [],.ds true (qb zD ([]:List zv)) (qa ([]:List zv)) false,.ds true (qb zy ([]:List yC)) (qa ([]:List yC)) false],.cells 0 (zb m4_1)]:ze)∧yy.j2 yh a0 a1 a2 a3 m4_1=some r) ?_ ?_
 · refine O [3,4,5,6,8,10,18] ?_;refine yv rfl (fun hc40=>?_) (fun hc40=>?_)
   · rw[if_pos hc40] at h;have t41:=eq_true hc40
     refine rgE U [3,4,5,6,8,10] fun K J=>?_
     simp only[go_sem,qh,qd,qc,qe,t41];apply J
     exact⟨_,_,⟨(⟨2,0,a2.fB,([]:List zv),([]:List yC)⟩:zp),rfl,rfl,h⟩,(.t [0,1,2,3,4] true)⟩
   rw[if_neg hc40] at h;have t42:=eq_false hc40;apply zm;exact⟨_,_,⟨(⟨1,a2.fN,[],([]:List zv),([]:List yC)⟩:zp),rfl,rfl,h⟩,(.t [0,1,2,3,4] true)⟩
 rintro _ _ ⟨m4_1,rfl,rfl,h⟩;unfold yy.j2 at h;refine xV (fun L τ=>L=[(3,.int .i64 a3),(4,.op 0 0 0),(5,.op 1 0 0),(6,.op 2 0 0),(8,.op 3 0 0),(10,.op 4 0 0)]∧τ=([.cells 0 (za a0),.cells 0 [.int .i64 a1.fKind,.str a1.fName],.cells 0 [.int .i64 a2.fTag,.int .i64 a2.fWire,.int .i64 a2.fN,.str a2.fB],.cells 0 [.int .i64 0,.int .i64 0,.str [],.ds true (qb zD ([]:List zv)) (qa ([]:List zv)) false,.ds true (qb zy ([]:List yC)) (qa ([]:List yC)) false],.cells 0 (zb m4_1)]:ze)∧yy.j3 yh a0 a1 a2 a3 m4_1=some r) ?_ ?_
 · refine O [3,4,5,6,8,10,23] ?_;apply zq;refine xV (fun L τ=>∃ (x25:Bool),L=[(3,.int .i64 a3),(4,.op 0 0 0),(5,.op 1 0 0),(6,.op 2 0 0),(8,.op 3 0 0),(10,.op 4 0 0),(28,.bool x25)]∧τ=([.cells 0 (za a0),.cells 0 [.int .i64 a1.fKind,.str a1.fName],.cells 0 [.int .i64 a2.fTag,.int .i64 a2.fWire,.int .i64 a2.fN,.str a2.fB],.cells 0 [.int .i64 0,.int .i64 0,.str [],.ds true (qb zD ([]:List zv)) (qa ([]:List zv)) false,.ds true (qb zy ([]:List yC)) (qa ([]:List yC)) false],.cells 0 (zb m4_1)]:ze)∧yy.j26 yh a0 a1 a2 a3 m4_1 x25=some r) ?_ ?_
   · refine O [3,4,5,6,8,10,23,28] ?_;refine yv rfl (fun hc34=>?_) (fun hc34=>?_)
     · rw[if_pos hc34] at h;have t35:=eq_true hc34;apply zm;exact⟨_,_,⟨decide (a1.fKind=4),rfl,rfl,h⟩,.s⟩
     rw[if_neg hc34] at h;have t36:=eq_false hc34;refine rgW [3,4,5,6,8,10,23,28] t36 ?_;refine yv rfl (fun hc37=>?_) (fun hc37=>?_)
     · rw[if_pos hc37] at h;have t38:=eq_true hc37;apply zm;exact⟨_,_,⟨decide (a1.fKind=5),rfl,rfl,h⟩,.s⟩
     rw[if_neg hc37] at h;have t39:=eq_false hc37
     refine rgE U [3,4,5,6,8,10,28] fun K J=>?_
     simp only[go_sem,qh,qc,t39];apply J
     exact⟨_,_,⟨decide (a1.fKind=7),rfl,rfl,h⟩,.s⟩
   rintro _ _ ⟨x25,rfl,rfl,h⟩;unfold yy.j26 at h;refine zY (b:=x25) rfl (fun hc27=>?_) (fun hc27=>?_)
   · rw[if_pos hc27] at h;refine O [3,4,5,6,8,10,34] ?_;refine yv rfl (fun hc28=>?_) (fun hc28=>?_)
     · rw[if_neg hc28] at h;have t29:=eq_false hc28;refine rgW [8,9] t29 ?_;cases h;exact rtA
     rw[if_pos hc28] at h;have t30:=eq_true hc28;apply zm;exact⟨_,_,⟨rfl,rfl,h⟩,.s⟩
   rw[Zc hc27] at h;refine O [3,4,5,6,8,10,26] ?_;refine yv rfl (fun hc31=>?_) (fun hc31=>?_)
   · rw[if_neg hc31] at h;have t32:=eq_false hc31;refine rgW [8,9] t32 ?_;cases h;exact rtA
   rw[if_pos hc31] at h;have t33:=eq_true hc31;apply zm;exact⟨_,_,⟨rfl,rfl,h⟩,.s⟩
 rintro _ _ ⟨rfl,rfl,h⟩;unfold yy.j3 at h;refine xV (fun L τ=>L=[(8,.op 0 0 0),(10,.op 1 0 0)]∧τ=([.cells 0 [.int .i64 0,.int .i64 0,.str [],.ds true (qb zD ([]:List zv)) (qa ([]:List zv)) false,.ds true (qb zy ([]:List yC)) (qa ([]:List yC)) false],.cells 0 (zb m4_1)]:ze)∧yy.j4 m4_1=some r) ?_ ?_
 · refine O [3,4,5,6,8,10,37] ?_;apply zq;refine xV (fun L τ=>∃ (x5:Bool),L=[(3,.int .i64 a3),(4,.op 0 0 0),(5,.op 1 0 0),(6,.op 2 0 0),(8,.op 3 0 0),(10,.op 4 0 0),(37,.int .i64 a1.fKind),(38,.bool x5)]∧τ=([.cells 0 (za a0),.cells 0 [.int .i64 a1.fKind,.str a1.fName],.cells 0 [.int .i64 a2.fTag,.int .i64 a2.fWire,.int .i64 a2.fN,.str a2.fB],.cells 0 [.int .i64 0,.int .i64 0,.str [],.ds true (qb zD ([]:List zv)) (qa ([]:List zv)) false,.ds true (qb zy ([]:List yC)) (qa ([]:List yC)) false],.cells 0 (zb m4_1)]:ze)∧yy.j6 yh a0 a1 a2 a3 m4_1 x5=some r) ?_ ?_
   · refine O [3,4,5,6,8,10,37,38] ?_;refine yv rfl (fun hc22=>?_) (fun hc22=>?_)
     · rw[if_pos hc22] at h;have t23:=eq_true hc22;apply zm;exact⟨_,_,⟨decide (a1.fKind=3),rfl,rfl,h⟩,.s⟩
     rw[if_neg hc22] at h;have t24:=eq_false hc22
     refine rgE U [3,4,5,6,8,10,37,38] fun K J=>?_
     simp only[go_sem,qh,qc,t24];apply J
     exact⟨_,_,⟨decide (a1.fKind=6),rfl,rfl,h⟩,.s⟩
   rintro _ _ ⟨x5,rfl,rfl,h⟩;unfold yy.j6 at h;refine zY (b:=x5) rfl (fun hc7=>?_) (fun hc7=>?_)
   · rw[if_pos hc7] at h
     refine rc [8,10,45] fun K J=>?_
     obtain⟨r8,hr8,h⟩:=yq h;refine rnN 3 ?_;refine clN rfl rfl rfl ((wR.ok hr8).c _) ?_;refine rnN 1 ?_;refine nkN J ?_;refine zY (b:=(!r8)) rfl (fun hc9=>?_) (fun hc9=>?_)
     · rw[if_pos hc9] at h;refine O [8,9] ?_;cases h;exact rtA
     rw[Zc hc9] at h;apply zm;exact⟨_,_,⟨rfl,rfl,h⟩,(.t [3,4] false)⟩
   rw[Zc hc7] at h;refine O [3,4,5,6,8,10,37,47] ?_;refine yv rfl (fun hc10=>?_) (fun hc10=>?_)
   · rw[if_pos hc10] at h;have t11:=eq_true hc10
     refine rc [8,10,52] fun K J=>?_
     obtain⟨r12,hr12,h⟩:=bind_some h;refine rnW 2 t11 ?_;refine clN rfl rfl rfl ((wh.ok hr12).c _) ?_;refine rnN 1 ?_;refine nkN J ?_;refine zY (b:=(!r12)) rfl (fun hc13=>?_) (fun hc13=>?_)
     · rw[if_pos hc13] at h;refine O [8,9] ?_;cases h;exact rtA
     rw[Zc hc13] at h;apply zm;exact⟨_,_,⟨rfl,rfl,h⟩,(.t [3,4] false)⟩
   rw[if_neg hc10] at h;have t14:=eq_false hc10;refine rgW [3,4,5,6,8,10,54] t14 ?_;refine yv rfl (fun hc15=>?_) (fun hc15=>?_)
   · rw[if_pos hc15] at h;have t16:=eq_true hc15
     refine rc [3,4,6,8,11] fun K J=>?_
     obtain⟨r17,hr17,h⟩:=yq h;refine rnW 3 t16 ?_;refine clN rfl rfl rfl ((yw.ok hr17).c _) ?_;refine rnW 6 @zh.eq_1 ?_;refine nkN J ?_
     refine rc [8,9] fun K J=>?_
     obtain⟨_u18,hu18,h⟩:=bind_some h;have gu18:=ZP hu18;have gu18t:=eq_true gu18;have f19:=conv_s2b (T:=tab) (src:=9) (dst:=48) rfl rfl rfl rfl rfl rfl (ZP hu18);obtain⟨r20,hr20,h⟩:=bind_some h;refine rnW 7 f19 ?_;refine vbc (L:=[(8,.op 0 0 0),(63,.agg (za a0)),(64,.agg (zh r17.1)),(67,.ds true (qb Ym a2.fB) (qa a2.fB) false),(69,.int .i64 (IntKind.i64.wrap (a3+1)))]) (τ:=[.cells 0 [.int .i64 0,.int .i64 0,.str [],.ds true (qb zD ([]:List zv)) (qa ([]:List zv)) false,.ds true (qb zy ([]:List yC)) (qa ([]:List yC)) false]]) (.t [3] false) ?_;refine clN rfl rfl rfl (ev_decode_message a0 r17.1 a2.fB (IntKind.i64.wrap (a3+1)) r20 hr20 _) ?_;refine rnW 4 (aI @zb.eq_1 (aI @zh.eq_1 @za.eq_1)) ?_;refine nkN J ?_;cases h;exact rtA
   rw[if_neg hc15] at h;have t21:=eq_false hc15;apply zm;exact⟨_,_,⟨rfl,rfl,h⟩,(.t [3,4] false)⟩
 rintro _ _ ⟨rfl,rfl,h⟩;unfold yy.j4 at h;refine O [8,9] ?_;cases h;exact rtA
end
section
open Go.RowKit AM
theorem setRun_ins (cs new:List AV)(k:Nat)(hk:k≤cs.length)(hn:new.length=2):
 wk (wk (cs++[.u,.u]) (k+2) (cs.drop k)) k new=cs.take k++(new++cs.drop k):=by
 have e0:cs++[AV.u,.u]=(cs.take k++((cs.drop k++[AV.u,.u]).take 2))++(((cs.drop k++[AV.u,.u]).drop 2)++[]):=by
  rw[qD,qA,uA,← qA,uA]
 have l1:((cs.drop k++[AV.u,.u]).take 2).length=2:=by simp
 have l2:(cs.take k++((cs.drop k++[AV.u,.u]).take 2)).length=k+2:=by rw[qj,l1,uR,Nat.min_eq_left hk]
 have e1:wk (cs++[.u,.u]) (k+2) (cs.drop k)=(cs.take k++((cs.drop k++[AV.u,.u]).take 2))++(cs.drop k++[]):=by
  rw[e0,← l2];exact Xb (cs.drop k) _ _ [] (by simp)
 rw[e1,qD,qA]
 have l3:(cs.take k).length=k:=by rw[uR,Nat.min_eq_left hk]
 have:=Xb new (cs.take k) ((cs.drop k++[AV.u,.u]).take 2) (cs.drop k) (by rw[l1,hn]);rw[l3] at this;exact this
theorem all_drop {l:List AV}{k:Nat}(h:l.all AV.one=true):(l.drop k).all AV.one=true:=by
 rw[un] at *
 exact fun x hx=>h x (List.mem_of_mem_drop hx)
theorem frozen_end {E:Env}{b:Nat}{cs:List AV}(h:Blk E b cs){t:TypeId}{m:Nat}(hs:E.w.shape? b=some (t,m))(ht:tsize t=2)(o:Nat):E.w.frozen? ⟨b,o,none⟩=false:=by
 obtain⟨conc,t',fr,a1,a2,a3,a4⟩:=h.blk
 have:t'=t:=by simp only[World.shape?,a1,Option.some.injEq,Prod.mk.injEq] at hs; exact hs.1
 subst this
 have he:fr.1=fr.2:=by
  rcases a2 with h|⟨_,h⟩
  · exact h
  omega
 obtain⟨lo,hi⟩:=fr;simp only[World.frozen?,a1];simp only at he;simp only[Bool.and_eq_false_iff,decide_eq_false_iff_not]
 omega
set_option maxHeartbeats 4000000 in
set_option maxRecDepth 100000 in
theorem ins_shift {E:Env}{σ:ze}{B V:Nat}(hS:SR E σ){id ver n i b cap vid vver vb:Nat}{cells new:List AV}(hcs:ze.at σ id ver=some cells)(hlen:cells.length=n*2)(hone:cells.all AV.one=true)(hi:i<n)
 (hloc:E.loc id=some (ver,some b)) (hB:E.base b=B) (hV:E.base vb=V) (hok:E.ok id ver) {t m:Nat} (hsh:E.w.shape? b=some (t,m)) (hts:tsize t=2) (hm:B+cap*2≤m) (hroom:n+1≤cap) (hn:(n+1)*32≤140737488355328)
 (hv:ze.at σ vid vver=some new) (hnew:new.length=2) (honev:new.all AV.one=true) (hvid:vid≠id) (hvloc:E.loc vid=some (vver,some vb)) (hvok:E.ok vid vver) {tv mv:Nat} (hvsh:E.w.shape? vb=some (tv,mv)) (hvts:tsize tv=2) (hvc:V+2≤mv):
 Calls qi 234 #[.slice (some ⟨b,B,none⟩) n cap,.int .i64 i,.slice (some ⟨vb,V,none⟩) 1 1] E.w fun e w'=>
  ∃ E',e=.returned (.slice (some ⟨b,B,none⟩) (n+1) cap)∧w'=E'.w∧VR E' (.os true 2 id ver 0 (n+1) false) (.slice (some ⟨b,B,none⟩) (n+1) cap)∧SR E' (σ.set id (.cells ver (cells.take (i*2)++(new++cells.drop (i*2)))))∧Ext E E':=by
 have hvb:vb≠b:=fun e=>hvid (hS.inj _ _ _ _ b (e▸hvloc) hloc)
 have hB1:Blk E b cells:=by
  rcases hS.at hcs with ⟨b',h1,h2⟩|⟨_,h1⟩
  · rw[hloc] at h1; cases h1; exact h2
  rw[hloc] at h1; cases h1
 have hB2:Blk E vb new:=by
  rcases hS.at hv with ⟨b',h1,h2⟩|⟨_,h1⟩
  · rw[hvloc] at h1; cases h1; exact h2
  rw[hvloc] at h1; cases h1
 have hSw:=hS.widen hcs hloc hsh 2 (by rw[hB]; omega);obtain⟨hS1,hx1⟩:=hSw.grew (XB.drew E.w);have hcsw:ze.at (σ.set id (.cells ver (cells++qV 2 AV.u))) id ver=some (cells++qV 2 AV.u):=ze.at_set hcs;have hlt:=ze.at_lt hcs
 have hvw:ze.at (σ.set id (.cells ver (cells++qV 2 AV.u))) vid vver=some new:=by
  unfold ze.at at hv ⊢; rw[ue (fun e=>hvid e.symm)]; exact hv
 have os1:∀ {E':Env} (hx:Ext E E') (k:Nat),k≤n→VR E' (.os true 2 id ver (k*2) (n+1-k) false) (.slice (some ⟨b,B+k*2,none⟩) (n+1-k) (cap-k)):=by
  intro E' hx k hk
  refine VR.ext hx (.os _ _ _ _ _ _ _ _ _ hok (by omega) (fun h=>by cases h) (by omega) fun ob hob=>?_)
  rw[hloc] at hob; cases hob
  exact⟨b,rfl,.inr (by rw[hB]),t,m,hsh,hts,by rw[hB]; omega⟩
 have osv:∀ {E':Env} (hx:Ext E E'),VR E' (.os true 2 vid vver 0 1 true) (.slice (some ⟨vb,V,none⟩) 1 1):=by
  intro E' hx
  refine VR.ext hx (.os _ _ _ _ _ _ _ _ _ hvok (by omega) (fun _=>rfl) (by omega) fun ob hob=>?_)
  rw[hvloc] at hob; cases hob
  exact⟨vb,rfl,.inr (by rw[hV]; rfl),tv,mv,hvsh,hvts,by rw[hV]; omega⟩
 have hov:∀ lb cb,(callFunc 247 #[.slice (some ⟨vb,V,none⟩) 1 1,.slice (some ⟨b,B+(i+1)*2,none⟩) lb cb]).run qi E.w=.ok (.value (.bool false)) E.w:=fun lb cb=>by
  rw[run_callFunc_extern Tryz.func247 (by kernel_rfl) (by kernel_rfl) (by kernel_rfl) (e:=Extern.SlicesOverlaps.overlaps #[34,34] #[4]) (by kernel_rfl),
   Lib.run_overlaps_apart E.w 34 4 40 (U _ _ vaU).desc 2 (fun w=>wF w (U _ _ vaT)) ⟨vb,V,none⟩ ⟨b,B+(i+1)*2,none⟩ 1 1 lb cb hvb tv t mv m hvsh hsh (by omega) (frozen_end hB2 hvsh hvts _) (frozen_end hB2 hvsh hvts _)]
  rfl
 have hdl:(cells.drop (i*2)).length=(n-i)*2:=by rw[uU,hlen,Nat.sub_mul]
 have hlw:(cells++qV 2 AV.u).length=(n+1)*2:=by rw[qj,hlen,List.length_replicate,u6]
 have hW:∀ ty,∃ v E2,(Builtin.copy_ #[34,34] ty #[.slice (some ⟨b,B+(i+1)*2,none⟩) (n+1-(i+1)) (cap-(i+1)),.slice (some ⟨b,B+i*2,none⟩) (n+1-i) (cap-i)]).run qi E.w.drew=.ok v E2.w∧
  SR E2 (σ.set id (.cells ver (wk (cells++[.u,.u]) (i*2+2) (cells.drop (i*2)))))∧Ext E E2:=by
  intro ty
  have hx0:Ext E { E with w:=E.w.drew }:=hx1;have hd:=os1 hx0 (i+1) (by omega);have hs:=os1 hx0 i (by omega)
  have hev:vas tab 34 (.os true 2 id ver ((i+1)*2) (n+1-(i+1)) false) (.os true 2 id ver (i*2) (n+1-i) false) (σ.set id (.cells ver (cells++qV 2 AV.u)))=
   some (.int .i64 ((min (n+1-i) (n+1-(i+1)):Nat):Int),(σ.set id (.cells ver (cells++qV 2 AV.u))).set id (.cells ver (wk (cells++qV 2 AV.u) ((i+1)*2) (cells.drop (i*2))))):=by
   have e1:y1 (σ.set id (.cells ver (cells++qV 2 AV.u))) 2 (.os true 2 id ver (i*2) (n+1-i) false)=some (n+1-i,((cells++qV 2 AV.u).drop (i*2)).take ((n+1-i)*2)):=by
    simp only[y1,hcsw];rw[if_pos (by rw[hlw,← u6]; exact ud _ (by omega))]
   have e2:min (n+1-i) (n+1-(i+1))=n-i:=by omega
   have e3:(((cells++qV 2 AV.u).drop (i*2)).take ((n+1-i)*2)).take ((n-i)*2)=cells.drop (i*2):=by
    rw[List.take_take,Nat.min_eq_left (ud _ (by omega)),List.drop_append_of_le_length (by rw[hlen]; exact ud _ (by omega)),List.take_append_of_le_length (by rw[hdl]; exact qx _),← hdl,uk]
   have hp:Yv (σ.set id (.cells ver (cells++qV 2 AV.u))) (.os true 2 id ver ((i+1)*2) (n+1-(i+1)) false) (n-i) 2 (cells.drop (i*2))=some ((σ.set id (.cells ver (cells++qV 2 AV.u))).set id (.cells ver (wk (cells++qV 2 AV.u) ((i+1)*2) (cells.drop (i*2))))):=by
    unfold Yv;rw[if_neg (by omega)];simp only[hcsw];rw[if_pos ⟨trivial,by rw[hlw,hdl,← u6]; exact ud _ (by omega),all_drop hone⟩]
   simp only[vas,vaU,vaT,ti34,ti40,e1,e2,e3,hp]
  obtain⟨v,E2,h1,h2,h3,h4⟩:=vak (P:=qi) (st:=34) (ty:=ty) U hS1 hd hs hev;refine⟨v,E2,h1,?_,hx0.trans h4⟩;rw[List.set_set] at h3
  have e:(i+1)*2=i*2+2:=by omega
  rw[e] at h3;exact h3
 obtain⟨v1,E2,hc1,hS2,hx2⟩:=hW 3;rw[show n+1-(i+1)=n-i by omega] at hc1;have hcs2:ze.at (σ.set id (.cells ver (wk (cells++[.u,.u]) (i*2+2) (cells.drop (i*2))))) id ver=some (wk (cells++[.u,.u]) (i*2+2) (cells.drop (i*2))):=ze.at_set hcs
 have hv2:ze.at (σ.set id (.cells ver (wk (cells++[.u,.u]) (i*2+2) (cells.drop (i*2))))) vid vver=some new:=by
  unfold ze.at at hv ⊢; rw[ue (fun e=>hvid e.symm)]; exact hv
 have hW2:∃ v E3,(Builtin.copy_ #[34,34] 3 #[.slice (some ⟨b,B+i*2,none⟩) (n+1-i) (cap-i),.slice (some ⟨vb,V,none⟩) 1 1]).run qi E2.w=.ok v E3.w∧
  SR E3 (σ.set id (.cells ver (cells.take (i*2)++(new++cells.drop (i*2)))))∧Ext E E3:=by
  have hd:=os1 hx2 i (by omega);have hs:=osv hx2
  have hev:vas tab 34 (.os true 2 id ver (i*2) (n+1-i) false) (.os true 2 vid vver 0 1 true) (σ.set id (.cells ver (wk (cells++[.u,.u]) (i*2+2) (cells.drop (i*2)))))=
   some (.int .i64 ((min 1 (n+1-i):Nat):Int),(σ.set id (.cells ver (wk (cells++[.u,.u]) (i*2+2) (cells.drop (i*2))))).set id (.cells ver (wk (wk (cells++[.u,.u]) (i*2+2) (cells.drop (i*2))) (i*2) new))):=by
   have e1:y1 (σ.set id (.cells ver (wk (cells++[.u,.u]) (i*2+2) (cells.drop (i*2))))) 2 (.os true 2 vid vver 0 1 true)=some (1,new):=by
    simp only[y1,hv2];rw[if_pos (by omega),qq,← hnew,Nat.one_mul] ;rw[show new.length=new.length from rfl,uk]
   have e2:min 1 (n+1-i)=1:=by omega
   have e3:new.take (1*2)=new:=by rw[Nat.one_mul,← hnew,uk]
   have hp:Yv (σ.set id (.cells ver (wk (cells++[.u,.u]) (i*2+2) (cells.drop (i*2))))) (.os true 2 id ver (i*2) (n+1-i) false) 1 2 new=some ((σ.set id (.cells ver (wk (cells++[.u,.u]) (i*2+2) (cells.drop (i*2))))).set id (.cells ver (wk (wk (cells++[.u,.u]) (i*2+2) (cells.drop (i*2))) (i*2) new))):=by
    unfold Yv;rw[if_neg (by omega)];simp only[hcs2];rw[if_pos ⟨trivial,by rw[XK,hnew]; simp only[qj,qp,qB,hlen]; omega,honev⟩]
   simp only[vas,vaU,vaT,ti34,ti40,e1,e2,e3,hp]
  obtain⟨v,E3,h1,h2,h3,h4⟩:=vak (P:=qi) (st:=34) (ty:=3) U hS2 hd hs hev;refine⟨v,E3,h1,?_,hx2.trans h4⟩;rw[List.set_set,setRun_ins _ _ _ (by omega) hnew] at h3;exact h3
 obtain⟨v2,E3,hc2,hS3,hx3⟩:=hW2;have hfin:=os1 hx3 0 (qU _);rw[uy,qF,uZ,uZ] at hfin
 have hz1:¬ ((i:Int)=(n:Int)):=by omega
 have hw1:IntKind.i64.wrap ((i:Int)+1)=(i:Int)+1:=by rw[IntKind.wrap_i64]; omega
 have hw2:IntKind.i64.wrap ((n:Int)+1)=(n:Int)+1:=by rw[IntKind.wrap_i64]; omega
 have hb1:(0:Int)≤(i:Int)+1:=by omega
 have hin:i≤n:=by omega
 have htn:((i:Int)+1).toNat=i+1:=by omega
 have hb2:¬ (cap=i+1):=by omega
 have hb3:(i:Int)≤(n:Int)+1:=by omega
 have hb4:¬ (cap=i):=by omega
 have mixed:Tryz.prog.follows .mixedOrders=true:=by kernel_rfl
 clear hS hcs hcsw hvw hcs2 hv2 hS1 hSw os1 osv hB1 hB2 hW
 go_enter Tryz.func234,Tryz.ntmps234
 go_wp2_with (simp only[hov])
 go_region_law_o (refine step_copy_runI rfl _ _ 34 34 rfl _ _ (by simp[Act.eval,Act.put]) (by simp[Act.eval,Act.put]) hc1 ?_)
 go_wp2_with (at_builtin; refine wpList_copy_runI _ rfl _ _ 34 34 rfl _ _ rfl rfl hc2 ?_)
 go_ret
 exact⟨E3,rfl,rfl,hfin,hS3,hx3⟩
theorem setRun_ins2 (cs new:List AV)(k:Nat)(hk:k≤cs.length)(hn:new.length=2)(q:Nat)(hq:q=cs.length-k+2):
 wk (wk (cs.take k++qV q AV.u) k new) (k+2) (cs.drop k)=cs.take k++(new++cs.drop k):=by
 have l3:(cs.take k).length=k:=by rw[uR,Nat.min_eq_left hk]
 have e0:cs.take k++qV q AV.u=cs.take k++(qV 2 AV.u++qV (cs.length-k) AV.u):=by
  rw[List.replicate_append_replicate,hq,Nat.add_comm]
 have e1:wk (cs.take k++qV q AV.u) k new=cs.take k++(new++qV (cs.length-k) AV.u):=by
  rw[e0];have:=Xb new (cs.take k) (qV 2 AV.u) (qV (cs.length-k) AV.u) (by simp[hn])
  rw[l3] at this; exact this
 have l4:(cs.take k++new).length=k+2:=by rw[qj,l3,hn]
 rw[e1,← qA,← l4];have:=Xb (cs.drop k) (cs.take k++new) (qV (cs.length-k) AV.u) [] (by simp);rw[qD,qD] at this;rw[this,qA]
set_option maxHeartbeats 4000000 in
set_option maxRecDepth 100000 in
theorem ins_grow {E:Env}{σ:ze}{B V:Nat}(hS:SR E σ){id ver n i b vid vver vb:Nat}{cells new:List AV}(hcs:ze.at σ id ver=some cells)(hlen:cells.length=n*2)(hone:cells.all AV.one=true)(hi:i<n)
 (hloc:E.loc id=some (ver,some b)) (hB:E.base b=B) (hV:E.base vb=V) (hok:E.ok id ver) {t m:Nat} (hsh:E.w.shape? b=some (t,m)) (hts:tsize t=2) (hm:B+n*2≤m) (hn:(n+1)*32≤140737488355328)
 (hv:ze.at σ vid vver=some new) (hnew:new.length=2) (honev:new.all AV.one=true) (hvid:vid≠id) (hvloc:E.loc vid=some (vver,some vb)) (hvok:E.ok vid vver) {tv mv:Nat} (hvsh:E.w.shape? vb=some (tv,mv)) (hvts:tsize tv=2) (hvc:V+2≤mv):
 Calls qi 234 #[.slice (some ⟨b,B,none⟩) n n,.int .i64 i,.slice (some ⟨vb,V,none⟩) 1 1] E.w fun e w'=>
  ∃ E' v,e=.returned v∧w'=E'.w∧VR E' (.os true 2 σ.length 0 0 (n+1) false) v∧SR E' (σ++[.cells 0 (cells.take (i*2)++(new++cells.drop (i*2)))])∧Ext E E'∧∀ i2 v2 nb,E.loc i2=some (v2,some nb)→E'.loc σ.length=some (0,some nb)→False:=by
 have hvb:vb≠b:=fun e=>hvid (hS.inj _ _ _ _ b (e▸hvloc) hloc)
 have hlt:=ze.at_lt hcs;have hltv:=ze.at_lt hv;obtain⟨hS1,hx1⟩:=hS.grew (XB.drew E.w)
 have os1:∀ {E':Env} (hx:Ext E E') (k q:Nat),k+q≤n→VR E' (.os true 2 id ver (k*2) q false) (.slice (some ⟨b,B+k*2,none⟩) q (n-k)):=by
  intro E' hx k q hk
  refine VR.ext hx (.os _ _ _ _ _ _ _ _ _ hok (by omega) (fun h=>by cases h) (by omega) fun ob hob=>?_)
  rw[hloc] at hob; cases hob
  exact⟨b,rfl,.inr (by rw[hB]),t,m,hsh,hts,by rw[hB]; omega⟩
 have osv:∀ {E':Env} (hx:Ext E E'),VR E' (.os true 2 vid vver 0 1 true) (.slice (some ⟨vb,V,none⟩) 1 1):=by
  intro E' hx
  refine VR.ext hx (.os _ _ _ _ _ _ _ _ _ hvok (by omega) (fun h=>rfl) (by omega) fun ob hob=>?_)
  rw[hvloc] at hob; cases hob
  exact⟨vb,rfl,.inr (by rw[hV]; rfl),tv,mv,hvsh,hvts,by rw[hV]; omega⟩
 have htl:(cells.take (i*2)).length=i*2:=by rw[uR,hlen]; omega
 have hdl:(cells.drop (i*2)).length=(n-i)*2:=by rw[uU,hlen,Nat.sub_mul]
 -- what is copied by append
 have hold0:=os1 hx1 0 i (by omega);rw[uy,qF] at hold0
 obtain⟨_,_,hrd⟩:=va5 (P:=qi) hS1 hold0 (size:=2) (n:=i) (cs:=cells.take (i*2)) (by
  simp only[y1,hcs]
  rw[if_pos (by omega),qq])
 obtain⟨os,hos,hto⟩:=hrd i (qx _);rw[show (cells.take (i*2)).take (i*2)=cells.take (i*2) by rw[List.take_take,Nat.min_self]] at hto
 obtain⟨G,hG⟩:∃ G,G=grownCap E.w (n+1) n 40:=⟨_,rfl⟩
 have hGn:n+1≤G:=by rw[hG]; unfold grownCap; simp only[Question.cut]; omega
 obtain⟨conc,hconc⟩:∃ conc:Array Value,conc=os++Builtin.zeroCells (Value.agg #[Value.int IntKind.i64 0,Value.slice none 0 0]).cells (n+1-i)++Builtin.zeroCells (Value.agg #[Value.int IntKind.i64 0,Value.slice none 0 0]).cells (G-(n+1)):=⟨_,rfl⟩
 have hrz:∀ ty,(Builtin.append_ #[34,3] ty #[.slice (some ⟨b,B,none⟩) i n,.int .i64 ((n:Int)+1-(i:Int))]).run qi E.w=
  .ok (.slice (some ⟨E.w.heap.size,0,none⟩) (n+1) G) (E.w.drew.alloc (.cells conc 40)):=fun ty=>by
  have h:=Lib.run_append_grow_zeros (P:=qi) E.w 34 3 ty 40 Tryz.t40 _ .i64 .i64 Tryz.underlying34 Tryz.underlying3 Tryz.type40 rfl (some ⟨b,B,none⟩) i n os.toList (by rw[Array.toArray_toList]; exact hos) (n+1-i) (by omega) (by decide) (by omega) (by omega) (by show (n+1-i)*32≤_; omega) (by
   rw[show i+(n+1-i)=n+1 by omega]
   exact growslice_fits (by omega) (by show (n+1)*32≤_; omega))
  rw[show i+(n+1-i)=n+1 by omega,← hG,Array.toArray_toList,← hconc] at h;rw[show (n:Int)+1-(i:Int)=((n+1-i:Nat):Int) by omega];exact h
 have hsz1:os.size=i*2:=by rw[hto.1,htl]
 have hcsz:G*2≤conc.size:=by
  rw[hconc];simp only[Array.size_append,hsz1,Builtin.zeroCells,Value.cells]
  simp
  omega
 have hnr:=hS1.newRow conc 40 (cells.take (i*2)++qV ((n+1-i)*2) AV.u) (by rw[qj,htl,List.length_replicate]; omega) (by
  intro k hk
  by_cases hki:k<i*2
  · rw[vaf _ _ _ (by rw[htl]; exact hki)];have:=hto.2 k (by rw[htl]; exact hki)
    have e:conc.getD k undef=os.getD k undef:=by
     rw[hconc,Array.append_assoc]
     simp[Array.getElem?_append_left (show k<os.size by omega)]
    rw[e]; exact this
  rw[Y4 _ _ _ (by rw[htl]; omega)]
  have:gc (qV ((n+1-i)*2) AV.u) (k-(cells.take (i*2)).length)=.u:=by
   unfold gc;rw[qC,List.getElem?_replicate]
   split<;>rfl
  rw[this]; exact .u _)
 obtain⟨hS2,hx2⟩:=hnr
 obtain⟨E2,hE2⟩:∃ E2,E2=Env.new { E with w:=E.w.drew } (E.w.drew.alloc (.cells conc 40)) (some E.w.drew.heap.size):=⟨_,rfl⟩
 have hloc2:E2.loc σ.length=some (0,some E.w.heap.size):=by rw[hE2]; exact Env.loc_new hS1 _ _
 have hok2:E2.ok σ.length 0:=by rw[hE2]; exact Env.ok_new hS1 _ _
 have hE2w:E2.w=E.w.drew.alloc (.cells conc 40):=by rw[hE2]; rfl
 rw[← hE2] at hS2 hx2;have hx02:Ext E E2:=Ext.trans hx1 hx2
 have hbz:E2.base E.w.heap.size=0:=by rw[hE2]; exact hS.bas _ (qx _)
 have hsh2:E2.w.shape? E.w.heap.size=some (40,conc.size):=by
  rw[hE2w];have:=xK E.w.drew (.cells conc 40);simp only[World.shape?];rw[show E.w.heap.size=E.w.drew.heap.size from rfl,this]
 have osn:∀ {E':Env} (hx:Ext E2 E') (k q:Nat),k+q≤n+1→VR E' (.os true 2 σ.length 0 (k*2) q false) (.slice (some ⟨E.w.heap.size,k*2,none⟩) q (G-k)):=by
  intro E' hx k q hk
  refine VR.ext hx (.os _ _ _ _ _ _ _ _ _ hok2 (by omega) (fun h=>by cases h) (by omega) fun ob hob=>?_)
  rw[hloc2] at hob; cases hob
  exact⟨_,rfl,.inr (by rw[hbz,qn]),_,_,hsh2,rfl,by rw[hbz]; omega⟩
 have hat2:∀ cs,ze.at (σ++[.cells 0 cs]) σ.length 0=some cs:=fun cs=>ze.at_new σ 0 cs
 have hset2:∀ cs cs',(σ++[Yq.cells 0 cs]).set σ.length (.cells 0 cs')=σ++[.cells 0 cs']:=fun cs cs'=>by
  rw[List.set_append_right _ _ (qx _),uQ]; rfl
 have hold2:∀ {id ver:Nat} {c cs:List AV},ze.at σ id ver=some c→ze.at (σ++[Yq.cells 0 cs]) id ver=some c:=by
  intro id ver c cs h
  have:=ze.at_lt h
  unfold ze.at at h ⊢; rw[qY this]; exact h
 -- the first copy
 have hW2:∃ v E3,(Builtin.copy_ #[34,34] 3 #[.slice (some ⟨E.w.heap.size,i*2,none⟩) (n+1-i) (G-i),.slice (some ⟨vb,V,none⟩) 1 1]).run qi E2.w=.ok v E3.w∧
  SR E3 (σ++[.cells 0 (wk (cells.take (i*2)++qV ((n+1-i)*2) AV.u) (i*2) new)])∧Ext E2 E3:=by
  have hd:=osn (Ext.refl E2) i (n+1-i) (by omega);have hs:=osv hx02
  have hev:vas tab 34 (.os true 2 σ.length 0 (i*2) (n+1-i) false) (.os true 2 vid vver 0 1 true) (σ++[.cells 0 (cells.take (i*2)++qV ((n+1-i)*2) AV.u)])=
   some (.int .i64 ((min 1 (n+1-i):Nat):Int),σ++[.cells 0 (wk (cells.take (i*2)++qV ((n+1-i)*2) AV.u) (i*2) new)]):=by
   have e1:y1 (σ++[.cells 0 (cells.take (i*2)++qV ((n+1-i)*2) AV.u)]) 2 (.os true 2 vid vver 0 1 true)=some (1,new):=by
    simp only[y1,hold2 hv];rw[if_pos (by omega),qq,Nat.one_mul,← hnew,uk]
   have e2:min 1 (n+1-i)=1:=by omega
   have e3:new.take (1*2)=new:=by rw[Nat.one_mul,← hnew,uk]
   have hp:Yv (σ++[.cells 0 (cells.take (i*2)++qV ((n+1-i)*2) AV.u)]) (.os true 2 σ.length 0 (i*2) (n+1-i) false) 1 2 new=some (σ++[.cells 0 (wk (cells.take (i*2)++qV ((n+1-i)*2) AV.u) (i*2) new)]):=by
    unfold Yv;rw[if_neg (by omega)];simp only[hat2,hset2];rw[if_pos ⟨trivial,by rw[hnew,qj,htl,List.length_replicate]; omega,honev⟩]
   simp only[vas,vaU,vaT,ti34,ti40,e1,e2,e3,hp]
  obtain⟨v,E3,h1,h2,h3,h4⟩:=vak (P:=qi) (st:=34) (ty:=3) U hS2 hd hs hev;exact⟨v,E3,h1,h3,h4⟩
 obtain⟨v1,E3,hc1,hS3,hx3⟩:=hW2;obtain⟨hS4,hx4⟩:=hS3.grew (XB.drew E3.w)
 -- the second copy
 have hW3:∀ ty,∃ v E4,(Builtin.copy_ #[34,34] ty #[.slice (some ⟨E.w.heap.size,(i+1)*2,none⟩) (n-i) (G-(i+1)),.slice (some ⟨b,B+i*2,none⟩) (n-i) (n-i)]).run qi E3.w.drew=.ok v E4.w∧
  SR E4 (σ++[.cells 0 (cells.take (i*2)++(new++cells.drop (i*2)))])∧Ext E2 E4:=by
  intro ty
  have hx24:Ext E2 { E3 with w:=E3.w.drew }:=Ext.trans hx3 hx4;have hd:=osn hx24 (i+1) (n-i) (by omega);have hs:=os1 (hx02.trans hx24) i (n-i) (by omega)
  have hev:vas tab 34 (.os true 2 σ.length 0 ((i+1)*2) (n-i) false) (.os true 2 id ver (i*2) (n-i) false) (σ++[.cells 0 (wk (cells.take (i*2)++qV ((n+1-i)*2) AV.u) (i*2) new)])=
   some (.int .i64 ((min (n-i) (n-i):Nat):Int),σ++[.cells 0 (cells.take (i*2)++(new++cells.drop (i*2)))]):=by
   have e1:y1 (σ++[.cells 0 (wk (cells.take (i*2)++qV ((n+1-i)*2) AV.u) (i*2) new)]) 2 (.os true 2 id ver (i*2) (n-i) false)=some (n-i,cells.drop (i*2)):=by
    simp only[y1,hold2 hcs];rw[if_pos (by rw[hlen,← u6]; exact ud _ (by omega)),← hdl,uk]
   have e2:min (n-i) (n-i)=n-i:=by omega
   have e3:(cells.drop (i*2)).take ((n-i)*2)=cells.drop (i*2):=by rw[← hdl,uk]
   have hp:Yv (σ++[.cells 0 (wk (cells.take (i*2)++qV ((n+1-i)*2) AV.u) (i*2) new)]) (.os true 2 σ.length 0 ((i+1)*2) (n-i) false) (n-i) 2 (cells.drop (i*2))=some (σ++[.cells 0 (cells.take (i*2)++(new++cells.drop (i*2)))]):=by
    unfold Yv;rw[if_neg (by omega)];simp only[hat2,hset2];rw[if_pos ⟨trivial,by rw[hdl,XK,qj,htl,List.length_replicate]; omega,all_drop hone⟩];rw[show (i+1)*2=i*2+2 by omega,setRun_ins2 _ _ _ (by omega) hnew _ (by rw[hlen]; omega)]
   simp only[vas,vaU,vaT,ti34,ti40,e1,e2,e3,hp]
  obtain⟨v,E4,h1,h2,h3,h4⟩:=vak (P:=qi) (st:=34) (ty:=ty) U hS4 hd hs hev;exact⟨v,E4,h1,h3,hx24.trans h4⟩
 obtain⟨v2,E4,hc2,hS5,hx5⟩:=hW3 3
 have hfin:VR E4 (.os true 2 σ.length 0 0 (n+1) false) (.slice (some ⟨E.w.heap.size,0,none⟩) (n+1) G):=by
  have:=osn hx5 0 (n+1) (by omega)
  rwa [uy,uZ] at this
 have hxf:Ext E E4:=hx02.trans hx5
 have hnew':∀ i2 v2 nb,E.loc i2=some (v2,some nb)→E4.loc σ.length=some (0,some nb)→False:=by
  intro i2 v2 nb h1 h2
  have h3:=hx5.back hok2 h2
  rw[hloc2] at h3; cases h3
  have:=(hS.blk _ _ _ h1).1
  omega
 have hz1:¬ ((i:Int)=(n:Int)):=by omega
 have hw1:IntKind.i64.wrap ((i:Int)+1)=(i:Int)+1:=by rw[IntKind.wrap_i64]; omega
 have hw2:IntKind.i64.wrap ((n:Int)+1)=(n:Int)+1:=by rw[IntKind.wrap_i64]; omega
 have hw3:IntKind.i64.wrap ((n:Int)+1-(i:Int))=(n:Int)+1-(i:Int):=by rw[IntKind.wrap_i64]; omega
 have hb1:(0:Int)≤(i:Int)+1:=by omega
 have hin:i≤n:=by omega
 have htn:((i:Int)+1).toNat=i+1:=by omega
 have hb2:¬ (G=i+1):=by omega
 have hb3:(i:Int)≤(n:Int)+1:=by omega
 have hb4:¬ (G=i):=by omega
 have hb5:¬ (n=i):=by omega
 have hz3:(n:Int)<(n:Int)+1:=by omega
 have mixed:Tryz.prog.follows .mixedOrders=true:=by kernel_rfl
 have hrz1:=hrz 34;rw[← hE2w] at hrz1
 clear hS hcs hS1 os1 osv hrz hrd hos hto hS2 hx2 osn hold2 hset2 hat2 hW3 hE2 hE2w hloc2 hok2 hsh2 hx02 hold0 hG hconc hcsz
 go_enter Tryz.func234,Tryz.ntmps234
 go_wp2_with (first
  |(at_builtin; refine Lib.wpList_append_run _ rfl _ _ _ _ rfl _ _ rfl rfl _ _ hrz1 ?_)
  |(at_builtin; refine wpList_copy_runI _ rfl _ _ 34 34 rfl _ _ rfl rfl hc1 ?_))
 go_region_law_o (refine step_copy_runI rfl _ _ 34 34 rfl _ _ (by simp[Act.eval,Act.put]) (by simp[Act.eval,Act.put]) hc2 ?_)
 go_wp2
 go_ret
 exact⟨E4,_,rfl,rfl,hfin,hS5,hxf,hnew'⟩
end
section
set_option maxRecDepth 20000
open Go.RowKit AM
theorem SR.die {E:Env}{σ:ze}(hS:SR E σ):SR { E with n:=E.n+1 } (σ++[.dead])∧Ext E { E with n:=E.n+1 }:=by
 have hx:Ext E { E with n:=E.n+1 } := {
  os:=rfl,tape:=rfl,output:=rfl,size:=qx _,shape:=fun _ _ h=>h,st:=fun _ h=>⟨h,rfl⟩,n:=Nat.le_succ _,
  loc:=fun _ _ v o h=>⟨v,o,h,qx _,fun _=>rfl⟩,old:=fun _ _ _=>rfl,own:=fun id v _ h _=>⟨id,v,h⟩,stn:=fun _ h=>.inl h }
 have hn:E.loc σ.length=none:=by
  have:=hS.obj σ.length;rw[uw (qx _)] at this;exact this
 refine⟨⟨by simp[hS.len],fun id=>?_,hS.inj,hS.blk,hS.stb,hS.glb,hS.bas⟩,hx⟩
 by_cases h1:id<σ.length
 · rw[qY h1]
   exact (hS.obj id).ext hx (.inr rfl) rfl fun _ _ _=>rfl
 by_cases h2:id=σ.length
 · subst h2;rw[uo (qx _),uQ];exact hn
 rw[uw (by simp; omega)];have:=hS.obj id;rw[uw (by omega)] at this;exact this
theorem SR.swap {E:Env}{σ:ze}{cs:List AV}(hS:SR E (σ++[.cells 0 cs])){id ver b nb:Nat}(hlt:id<σ.length)(hl:E.loc id=some (ver,some b))(hn:E.loc σ.length=some (0,some nb)):
 let E':Env := { E with loc:=fun i=>if i=id then some (ver+1,some nb) else if i=σ.length then none else E.loc i }
 SR E' (σ.set id (.cells (ver+1) cs)++[.dead])∧ExtV E E'∧∀ sz len v,VR E (.os true sz σ.length 0 0 len false) v→VR E' (.os true sz id (ver+1) 0 len false) v:=by
 intro E'
 have hid:E'.loc id=some (ver+1,some nb):=by simp[E']
 have hlast:E'.loc σ.length=none:=by simp[E']; omega
 have hother:∀ i,i≠id→i≠σ.length→E'.loc i=E.loc i:=fun i h1 h2=>by simp[E',h1,h2]
 have hx:ExtV E E' := {
  shape:=fun _ _ h=>h
  st:=fun _ h=>⟨h,rfl⟩
  n:=qx _
  loc:=fun i _ v o h=>by
   by_cases h1:i=id
   · subst h1; rw[hid] at h; cases h; exact⟨ver,some b,hl,by omega,fun e=>by omega⟩
   by_cases h2:i=σ.length
   · subst h2; rw[hlast] at h; cases h
   rw[hother i h1 h2] at h; exact⟨v,o,h,qx _,fun _=>rfl⟩ }
 have hnE:E.n=σ.length+1:=by have:=hS.len; simp at this; omega
 have hold:∀ i v c,E'.loc i=some (v,some c)→(i=id∧c=nb)∨(i≠id∧i≠σ.length∧E.loc i=some (v,some c)):=by
  intro i v c h
  by_cases h1:i=id
  · subst h1; rw[hid] at h; cases h; exact .inl ⟨rfl,rfl⟩
  by_cases h2:i=σ.length
  · subst h2; rw[hlast] at h; cases h
  rw[hother i h1 h2] at h; exact .inr ⟨h1,h2,h⟩
 refine⟨⟨by simp[hnE,E'],fun i=>?_,fun i i' v v' c h1 h2=>?_,fun i v c h=>?_,hS.stb,hS.glb,hS.bas⟩,hx,fun sz len v h=>?_⟩
 · by_cases h1:i=id
   · subst h1;rw[qY (by simpa using hlt),uv hlt];have:=hS.obj σ.length;rw[uo (qx _),uQ] at this
     rcases this with ⟨c,e1,e2⟩|⟨_,e1⟩
     · rw[hn] at e1; cases e1
       refine .inl ⟨nb,hid,?_⟩;obtain⟨conc,t,fr,a1,a2,a3,a4⟩:=e2.blk;exact⟨conc,t,fr,a1,a2,a3,fun k hk=>(a4 k hk).extV hx⟩
     rw[hn] at e1; cases e1
   by_cases h2:i=σ.length
   · subst h2;rw[uo (by simp)];simp only[List.length_set,uQ,uL];exact hlast
   have ho:=hS.obj i
   by_cases h3:i<σ.length
   · rw[qY (by simpa using h3),ue (fun e=>h1 e.symm)];rw[qY h3] at ho
     exact ho.extV hx (.inr rfl) (hother i h1 h2) fun _ _ _=>rfl
   rw[uw (by simp; omega)] at ho ⊢;exact (hother i h1 h2).trans ho
 · rcases hold _ _ _ h1 with ⟨e1,e2⟩|⟨e1,e2,e3⟩
   · subst e1; subst e2
     rcases hold _ _ _ h2 with ⟨f1,f2⟩|⟨f1,f2,f3⟩
     · exact f1.symm
     exact absurd (hS.inj _ _ _ _ _ f3 hn) f2
   rcases hold _ _ _ h2 with ⟨f1,f2⟩|⟨f1,f2,f3⟩
   · subst f2; exact absurd (hS.inj _ _ _ _ _ e3 hn) e2
   exact hS.inj _ _ _ _ _ e3 f3
 · rcases hold _ _ _ h with ⟨e1,e2⟩|⟨e1,e2,e3⟩
   · subst e2; exact hS.blk _ _ _ hn
   exact hS.blk _ _ _ e3
 have hok:E'.ok id (ver+1):=⟨by show id<E.n; omega,fun v o h=>by rw[hid] at h; cases h; exact qx _⟩
 cases h with
 |osn _ _ _ _ _ a hk h=>
  have:=h _ hn; cases this
 |os _ _ _ _ _ _ _ a cap hk hc ht hB h=>
  refine .os _ _ _ _ _ _ _ a cap hok hc ht hB fun ob hob=>?_
  rw[hid] at hob; cases hob
  exact h _ hn
theorem Ext.swap {E0 E:Env}(hx:Ext E0 E){σ0:ze}(h0:SR E0 σ0){id ver b nb:Nat}(hl:E.loc id=some (ver,some b))(hn:E.loc σ0.length=some (0,some nb))(hnb:E0.w.heap.size≤nb)(hlt:id<σ0.length):
 Ext E0 { E with loc:=fun i=>if i=id then some (ver+1,some nb) else if i=σ0.length then none else E.loc i }:=by
 refine { hx with loc:=fun i hi v o h=>?_,own:=fun i v c h hc=>?_,n:=hx.n,st:=hx.st,basO:=hx.basO,bas:=fun i hi v c h0 h=>?_ }
 · by_cases h1:i=id
   · subst h1;simp only[if_true,Option.some.injEq,Prod.mk.injEq] at h;obtain⟨v0,o0,e1,e2,e3⟩:=hx.loc _ hi _ _ hl;exact⟨v0,o0,e1,by omega,fun e=>by omega⟩
   simp only[if_neg h1] at h
   split at h
   · cases h
   exact hx.loc i hi v o h
 · by_cases h1:i=id
   · subst h1;simp only[if_true,Option.some.injEq,Prod.mk.injEq] at h
     omega
   simp only[if_neg h1] at h
   split at h
   · cases h
   exact hx.own i v c h hc
 by_cases h1:i=id
 · subst h1;simp only[if_true,Option.some.injEq,Prod.mk.injEq] at h;obtain⟨v0,o0,e1,e2,e3⟩:=hx.loc _ hi _ _ hl;rw[e1] at h0;cases h0
   omega
 simp only[if_neg h1] at h
 split at h
 · cases h
 exact hx.bas i hi v c h0 h
theorem ACalls.dies {P:Program}{f:FuncId}{args:List AV}{σ:ze}{x:AV}{τ:ze}(h:ACalls P f args σ fun r σ'=>r=x∧σ'=τ):ACalls P f args σ fun r σ'=>r=x∧σ'=τ++[.dead]:=by
 refine⟨h.1,fun E vs hS hl=>(h.2 E vs hS hl).mono ?_⟩;rintro e w ⟨v,r,σ',E',rfl,rfl,h3,h4,h5,rfl,rfl⟩;obtain⟨g1,g2⟩:=SR.die h4;exact⟨_,_,_,{ E' with n:=E'.n+1 },rfl,rfl,h3.ext g2,g1,h5.trans g2,rfl,rfl⟩
theorem bump {E E':Env}{σ:ze}(hS:SR E σ){id ver b:Nat}{cs cs':List AV}(hcs:ze.at σ id ver=some cs)(hk:E.ok id ver)(hloc:E.loc id=some (ver,some b))(hne:cs.length≠0)(hlen:cs'.length≠0)(h4:SR E' (σ.set id (.cells ver cs')))(h5:Ext E E'){sz len:Nat}{v:Value}
 (h3:VR E' (.os true sz id ver 0 len false) v):
 ∃ E2:Env,E2.w=E'.w∧SR E2 (σ.set id (.cells (ver+1) cs'))∧VR E2 (.os true sz id (ver+1) 0 len false) v∧Ext E E2:=by
 have hat:=ze.at_set (ver':=ver) (cs':=cs') hcs
 have hl':E'.loc id=some (ver,some b):=by
  rcases h4.at hat with ⟨b',e1,_⟩|⟨e1,_⟩
  · have:=h5.back hk e1; rw[hloc] at this; cases this; exact e1
  rw[e1] at hlen; exact absurd rfl hlen
 obtain⟨hS3,hx3⟩:=h4.move (XB.refl E'.w) hat hl' (ob:=some b) (fun b hb=>by cases hb; exact⟨.inr rfl,(h4.blk _ _ _ hl').1⟩) (cs:=cs') (.inl ⟨b,by simp[Env.move],by
  rcases h4.at hat with ⟨b1,h1,hblk1⟩|⟨_,h1⟩
  · rw[hl'] at h1; cases h1
    obtain⟨conc,t,fr,a1,a2,a3,a4⟩:=hblk1.blk;exact⟨conc,t,fr,a1,a2,a3,fun k hk=>(a4 k hk).ext (Ext.move h4.stb (XB.refl _) hl' _ fun b hb=>by cases hb; exact .inr rfl)⟩
  rw[hl'] at h1; cases h1⟩)
 rw[List.set_set] at hS3;refine⟨E'.move E'.w id (ver+1) (some b),rfl,hS3,?_,h5.trans hx3⟩;have hok:(E'.move E'.w id (ver+1) (some b)).ok id (ver+1):=⟨ui hk.1 h5.n,fun v o hvo=>by simp[Env.move] at hvo; omega⟩
 cases h3 with
 |osn _ _ _ _ _ a hk h=>have:=h _ hl'; cases this
 |os _ _ _ _ _ _ _ a cap hk hc ht hB h=>
  refine .os _ _ _ _ _ _ _ a cap hok hc ht hB fun ob hob=>?_
  simp only[Env.move,if_true,Option.some.injEq,Prod.mk.injEq,true_and] at hob;subst hob;exact h _ hl'
theorem Insert_at {σ:ze}{id ver n i vid vver:Nat}{nl:Bool}{cells new:List AV}(hcs:ze.at σ id ver=some cells)(hlen:cells.length=n*2)(hone:cells.all AV.one=true)(hi:i≤n)(hn:(n+1)*32≤140737488355328)
 (hv:ze.at σ vid vver=some new) (hnew:new.length=2) (honev:new.all AV.one=true) (hvid:vid≠id):
 ACalls qi 234 [.os nl 2 id ver 0 n false,.int .i64 (i:Int),.os true 2 vid vver 0 1 true] σ (fun r σ'=>r=.os true 2 id (ver+1) 0 (n+1) false∧
  σ'=σ.set id (.cells (ver+1) (cells.take (i*2)++(new++cells.drop (i*2))))++[.dead]):=by
 have hlt:=ze.at_lt hcs
 by_cases hin:i=n
 · subst hin;refine ACalls.dies ?_;refine ZO (rs:=[.tmp 6]) U Tryz.func234 rfl Tryz.ntmps234 rfl Tryz.call234 (by simp) ?_
   have hap:xj tab 34 34 (.os nl 2 id ver 0 i false) (.os true 2 vid vver 0 1 true) σ=some (.os true 2 id (ver+1) 0 (i+1) false,σ.set id (.cells (ver+1) (cells++new))):=by
    have e1:y1 σ 2 (.os true 2 vid vver 0 1 true)=some (1,new):=by
     simp only[y1,hv];rw[if_pos (by omega),qq,Nat.one_mul,← hnew,uk]
    have hg:((i+1)*32≤140737488355328)=True:=eq_true (by omega);simp only[xj,vaU,vaT,ti34,ti40,e1,xg,hg,honev,qh,and_self,if_true,yG,hcs,hlen]
   have hsl:ZN tab 34 (.os nl 2 id ver 0 i false) (some (.int .i64 (i:Int))) none none=some (.os nl 2 id ver (i*2) (i-i) false):=by
    simp only[ZN,vaU,vaT,ti34,ti40,vcI]
    simp
   refine zK [(0,.os nl 2 id ver 0 i false),(1,.int .i64 (i:Int)),(2,.os true 2 vid vver 0 1 true)] ⟨rfl,rfl,rfl,trivial⟩ ?_
   refine rg U [0,1,2,6] fun K J=>?_
   simp only[go_sem,qh,qd,qc,qe,qf,qg,reduceIte,reduceCtorEq];apply J
   clear J K
   refine rg U [0,1,2,6] fun K J=>?_
   simp only[go_sem,qh,qd,qc,qe,qf,qg,reduceIte,reduceCtorEq,hsl];apply J
   clear J K
   refine rg U [0,1,2,6,7] fun K J=>?_
   simp only[go_sem,qh,qd,qc,qe,qf,qg,reduceIte,reduceCtorEq];apply J
   clear J K
   refine zd fun Z hZ=>?_
   refine rg U [0,1,2,6,7,16] fun K J=>?_
   simp only[go_sem,qh,qd,qc,qe,qf,qg,reduceIte,reduceCtorEq];apply J
   clear J K
   refine yv rfl (fun h=>absurd h (by decide)) (fun _=>?_);refine zm ?_;refine hZ _ _ ?_
   clear hZ Z
   refine rg U [0,1,2,6,7,8] fun K J=>?_
   simp only[go_sem,qh,qd,qc,qe,qf,qg,reduceIte,reduceCtorEq];apply J
   clear J K
   refine zd fun Z hZ=>?_
   refine rg U [0,1,2,6,7,8,22] fun K J=>?_
   simp only[go_sem,qh,qd,qc,qe,qf,qg,reduceIte,reduceCtorEq,decide_true];apply J
   clear J K
   refine zS rfl ?_
   refine rg U [6] fun K J=>?_
   simp only[go_sem,qh,qd,qc,qe,qf,qg,reduceIte,reduceCtorEq,hap];apply J
   clear J K
   refine yg ?_;simp only[ZA,yQ,y5,xN,exists_eq_left',go_sem,qh,qd,qc,qe,qf,qg,reduceIte,reduceCtorEq];rw[← hlen,uk,List.drop_length,qD]
 have hi':i<n:=by omega
 refine⟨Tryz.call234,fun E vs hS hl=>?_⟩;obtain⟨l1,l2⟩:=hl.arr
 rcases vs with ⟨_|⟨v0,_|⟨v1,_|⟨v2,_|⟨v3,l⟩⟩⟩⟩⟩<;>simp only[List.size_toArray,qp,qB,qe,reduceCtorEq,qc] at l1
 have h0:VR E (.os nl 2 id ver 0 n false) v0:=l2 0 (by simp);have h1:VR E (.int .i64 (i:Int)) v1:=l2 1 (by simp);have h2:VR E (.os true 2 vid vver 0 1 true) v2:=l2 2 (by simp)
 clear l2 hl
 cases h1
 cases h0 with
 |osn=>omega
 |os _ _ _ _ _ _ _ a cap hk hc ht hB hp=>
 cases h2 with
 |os _ _ _ _ _ _ _ av capv hkv hcv htv hBv hpv=>
 have:=htv rfl; subst this
 obtain⟨b,hloc,_⟩:=hS.block_of hcs (show 0<cells.length by omega);obtain⟨vb,hvloc,_⟩:=hS.block_of hv (show 0<new.length by omega);obtain⟨b',e1,e2,t,m,hsh,hts,hm⟩:=hp _ hloc;cases e1
 have:=e2.resolve_left (by omega); subst this
 obtain⟨b',e1,e2,tv,mv,hvsh,hvts,hmv⟩:=hpv _ hvloc;cases e1
 have:=e2.resolve_left (by omega); subst this
 by_cases hroom:n+1≤cap
 · refine (ins_shift hS hcs hlen hone hi' hloc rfl rfl hk hsh hts (by omega) hroom hn hv hnew honev hvid hvloc hkv hvsh hvts (by omega)).mono ?_;rintro e w ⟨E',rfl,rfl,h3,h4,h5⟩;obtain⟨E2,g1,g2,g3,g4⟩:=bump hS hcs hk hloc (by omega) (by simp only[qj,hnew]; omega) h4 h5 h3;obtain⟨hS3,hx3⟩:=SR.die g2;exact⟨_,_,_,{ E2 with n:=E2.n+1 },rfl,g1,g3.ext hx3,hS3,g4.trans hx3,rfl,rfl⟩
 have hcn:cap=n:=by omega
 subst hcn;refine (ins_grow hS hcs hlen hone hi' hloc rfl rfl hk hsh hts (by omega) hn hv hnew honev hvid hvloc hkv hvsh hvts (by omega)).mono ?_;rintro e w ⟨E',v,rfl,rfl,h3,h4,h5,hnew'⟩
 have hl':E'.loc id=some (ver,some b):=by
  have:=(h4.at (id:=id) (ver:=ver) (cs:=cells) (by
   have:=ze.at_lt hcs
   unfold ze.at at hcs ⊢; rw[qY this]; exact hcs))
  rcases this with ⟨b',e1,_⟩|⟨e1,_⟩
  · have:=h5.back hk e1; rw[hloc] at this; cases this; exact e1
  rw[e1] at hlen; simp at hlen; omega
 have hn':∃ nb,E'.loc σ.length=some (0,some nb)∧E.w.heap.size≤nb:=by
  rcases h4.at (ze.at_new σ 0 _) with ⟨nb,e1,_⟩|⟨e1,_⟩
  · refine⟨nb,e1,u7 fun hlt'=>?_⟩;obtain⟨i2,v2,e2⟩:=h5.own _ _ _ e1 hlt';exact hnew' i2 v2 nb e2 e1
  have:(cells.take (i*2)++(new++cells.drop (i*2))).length=0:=by rw[e1]; rfl
  simp only[qj,hnew] at this; omega
 obtain⟨nb,hn1,hn2⟩:=hn';obtain⟨g1,g2,g3⟩:=SR.swap h4 hlt hl' hn1;exact⟨_,_,_,{ E' with loc:=fun i=>if i=id then some (ver+1,some nb) else if i=σ.length then none else E'.loc i },rfl,rfl,g3 _ _ _ h3,g1,Ext.swap h5 hS hl' hn1 hn2 hlt,rfl,rfl⟩
end
section
set_option maxRecDepth 8000
set_option maxHeartbeats 1000000
open Go.RowKit AM
structure Ent where
 tag:Int
 id:Nat
 ver:Nat
 trees:List zp
def Ent.cells (e:Ent):List AV:=[.int .i64 e.tag,.os true 5 e.id e.ver 0 e.trees.length false]
def Ent.val (e:Ent):zv:=⟨e.tag,e.trees⟩
structure Rep (σ:ze)(tid eid ever:Nat)(L:List Ent):Prop where
 t:ze.at σ tid 0=some [.int .i64 3,.int .i64 0,.str [],.os true 2 eid ever 0 L.length false,.ds true [] 0 true]
 e:ze.at σ eid ever=some (L.flatMap Ent.cells)
 tr:∀ x∈L,ze.at σ x.id x.ver=some (x.trees.flatMap yj)
 nd:(tid::eid::L.map Ent.id).Nodup
def vav (es:List zv)(f:ZB)(x:zp):Option (List zv×Bool):=
 (zM es f.fTag).bind fun p=>
 (if p.2=true then some es else (grd (0≤p.1∧p.1≤(es.length:Int))).bind fun _=>(vaV (es.length+1) 32).bind fun _=>some (es.take p.1.toNat++⟨f.fTag,[]⟩::es.drop p.1.toNat)).bind fun es1=>
 (YI es1 p.1).bind fun e=>
 (vaV ((if f.fLabel=3 then e.fTrees.length else 0)+1) 80).bind fun _=>
 some (es1.set p.1.toNat ⟨e.fTag,(if f.fLabel=3 then e.fTrees else [])++[x]⟩,decide ((((if f.fLabel=3 then e.fTrees else [])++[x]).length:Int)≤64))
theorem Yi {σ:ze}{id ver:Nat}{cs:List AV}(h:ze.at σ id ver=some cs)(l:ze):ze.at (σ++l) id ver=some cs:=by
 have:=ze.at_lt h
 unfold ze.at at h ⊢; rw[qY this]; exact h
theorem wV {σ:ze}{id id' ver:Nat}{cs:List AV}(h:ze.at σ id ver=some cs)(hne:id≠id')(o:Yq):ze.at (σ.set id' o) id ver=some cs:=by
 unfold ze.at at h ⊢; rw[ue (fun e=>hne e.symm)]; exact h
theorem vck (σ:ze)(cs:List AV)(l:ze):ze.at (σ++.cells 0 cs::l) σ.length 0=some cs:=by
 unfold ze.at; rw[uo (qx _),uQ]; rfl
theorem at_end1 (σ:ze)(o:Yq)(cs:List AV)(l:ze):ze.at (σ++o::.cells 0 cs::l) (σ.length+1) 0=some cs:=by
 unfold ze.at; rw[uo (by omega)]; simp
theorem Rep.app {σ:ze}{tid eid ever:Nat}{L:List Ent}(h:Rep σ tid eid ever L)(l:ze):Rep (σ++l) tid eid ever L:=
 ⟨Yi h.t l,Yi h.e l,fun x hx=>Yi (h.tr x hx) l,h.nd⟩
theorem Rep.toldC {σ:ze}{tid eid ever:Nat}{L:List Ent}(h:Rep σ tid eid ever L)(keep:List Nat)(ls:Bool)(f:Nat)(hk:∀ y∈L,Y2 keep y.id 0=none):(L.flatMap Ent.cells).map (tell σ keep ls (f+2))=(L.map Ent.val).flatMap zD:=by
 have key:∀ l:List Ent,(∀ x∈l,x∈L)→(l.flatMap Ent.cells).map (tell σ keep ls (f+2))=(l.map Ent.val).flatMap zD:=by
  intro l
  induction l with
  |nil=>intro _; rfl
  |cons a l ih=>
   intro hl
   have h1:=h.tr a (hl a (qP ..));have h2:=hk a (hl a (qP ..));simp only[qE,qs,qu,ih fun x hx=>hl x (qL _ hx)]
   congr 1
   simp only[Ent.cells,Ent.val,qu,qr,vbn,ZC,h2,h1,yD,zU,zv.fTag,zv.fTrees];have hl:(a.trees.flatMap yj).length=a.trees.length*5:=yf E38.len a.trees;rw[if_pos (by rw[hl]; omega),qq,← hl,uk,zw]
 exact key L (fun _ h=>h)
theorem Rep.told {σ:ze}{tid eid ever:Nat}{L:List Ent}(h:Rep σ tid eid ever L)(nl:Bool):tell σ [] true 12 (.os nl 2 eid ever 0 L.length false)=.ds true ((L.map Ent.val).flatMap zD) (L.map Ent.val).length false:=by
 have hl:(L.flatMap Ent.cells).length=L.length*2:=by
  clear h
  induction L with
  |nil=>rfl
  |cons a l ih=>rw[qE,qj,ih]; simp[Ent.cells]; omega
 simp only[ZC,wU,h.e];rw[if_pos (by rw[hl]; omega),qq,← hl,uk,h.toldC [] true 9 (fun _ _=>rfl),ul]
theorem Rep.set_ne {σ:ze}{tid eid ever:Nat}{L:List Ent}(h:Rep σ tid eid ever L){j:Nat}(hj:j∉tid::eid::L.map Ent.id)(o:Yq):Rep (σ.set j o) tid eid ever L:=by
 refine⟨wV h.t (fun e=>hj (by rw[← e]; simp)) o,wV h.e (fun e=>hj (by rw[← e]; simp)) o,fun x hx=>wV (h.tr x hx) (fun e=>hj ?_) o,h.nd⟩;rw[← e];exact qL _ (qL _ (uH.2 ⟨x,hx,rfl⟩))
structure Mid (σ τ:ze)(tid eid ever:Nat)(ids:List Nat)(pre post:List Ent)(tag:Int)(av:AV)(trees:List zp):Prop where
 t:ze.at τ tid 0=some [.int .i64 3,.int .i64 0,.str [],.os true 2 eid ever 0 (pre.length+(1+post.length)) false,.ds true [] 0 true]
 e:ze.at τ eid ever=some (pre.flatMap Ent.cells++([.int .i64 tag,av]++post.flatMap Ent.cells))
 tr:∀ y∈pre++post,ze.at τ y.id y.ver=some (y.trees.flatMap yj)
 nd:(tid::eid::(pre++post).map Ent.id).Nodup
 c:(av=.ds true [] 0 true∧trees=[])∨∃ id ver,av=.os true 5 id ver 0 trees.length false∧ze.at τ id ver=some (trees.flatMap yj)∧id∉tid::eid::(pre++post).map Ent.id∧id∈ids
 sub:∀ y∈pre++post,y.id∈ids
 len:σ.length+2≤τ.length
 fr:∀ j,j<σ.length→j∉tid::eid::ids→τ[j]?=σ[j]?
 lt:∀ j∈tid::eid::ids,j<σ.length
theorem agr_app {x:List Nat}:∀ {s:ze} {i:Nat} (l:ze),agr x i s s (s++l)=True:=by
 intro s
 induction s with
 |nil=>intro i l; rfl
 |cons a s ih=>intro i l; simp only[qI,agr,ih]; simp
theorem vci (l:List Ent):(l.flatMap Ent.cells).length=l.length*2:=by
 induction l with
 |nil=>rfl
 |cons a l ih=>rw[qE,qj,ih]; simp[Ent.cells]; omega
theorem cells_one (l:List Ent):(l.flatMap Ent.cells).all AV.one=true:=by
 induction l with
 |nil=>rfl
 |cons a l ih=>rw[qE,List.all_append,ih]; rfl
theorem split_at {α:Type}{l:List α}{k:Nat}(h:k≤l.length):∃ a b,l=a++b∧a.length=k:=⟨l.take k,l.drop k,(uA k l).symm,by simp[h]⟩
theorem split_el {α:Type}{l:List α}{k:Nat}(h:k<l.length):∃ a x b,l=a++x::b∧a.length=k:=by
 refine⟨l.take k,l[k],l.drop (k+1),?_,by simp; omega⟩;rw[← List.drop_eq_getElem_cons h,uA]
theorem set_mid {α:Type}(a:List α)(x y:α)(b:List α):(a++x::b).set a.length y=a++y::b:=by
 rw[List.set_append_right _ _ (qx _),uQ]; rfl
theorem gc_mid (a b:List AV)(x y:AV):gc (a++([x,y]++b)) (a.length+1)=y:=by
 rw[Y4 _ _ _ (by omega),Nat.add_sub_cancel_left]; rfl
theorem set_mid1 (a b:List AV)(x y z:AV):(a++([x,y]++b)).set (a.length+1) z=a++([x,z]++b):=by
 rw[List.set_append_right _ _ (by omega),Nat.add_sub_cancel_left]; rfl
theorem put_at {σ:ze}{tid eid ever:Nat}{L:List Ent}(hR:Rep σ tid eid ever L)(f:ZB)(x:zp){es':List zv}{b:Bool}(h:vav (L.map Ent.val) f x=some (es',b)):
 ACalls qi 195 [.op tid 0 0,.agg (yB f),.agg (zb x)] σ (fun r σ'=>∃ ever' L',r=.bool b∧Rep σ' tid eid ever' L'∧L'.map Ent.val=es'∧
  (∀ y∈L',y.id∈L.map Ent.id∨σ.length≤y.id)∧σ.length≤σ'.length∧∀ j,j<σ.length→j∉tid::eid::L.map Ent.id→σ'[j]?=σ[j]?):=by
 refine ZO (rs:=[.tmp 6]) U Tryz.func195 rfl Tryz.ntmps195 rfl Tryz.call195 (by simp) ?_;refine zK [(0,.op tid 0 0),(1,.agg (yB f)),(2,.agg (zb x))] ⟨rfl,rfl,rfl,trivial⟩ ?_
 refine rg U [0,4,5,6] fun K J=>?_
 simp only[go_sem,qh,qd,qc,qe,qf,qg,reduceIte,reduceCtorEq,yB,xp,zb];apply J
 clear J K
 simp only[qA,qI,qG,qj,qp,qB,qn]
 obtain⟨σ1,hσ1⟩:∃ s,s=σ++[.cells 0 [.str f.fName,.int .i64 f.fTag,.int .i64 f.fLabel,.int .i64 f.fType.fKind,.str f.fType.fName],
  .cells 0 [.int .i64 x.fKind,.int .i64 x.fN,.str x.fS,.ds true (qb zD x.fEntries) x.fEntries.length false,.ds true (qb zy x.fRest) x.fRest.length false]]:=⟨_,rfl⟩
 rw[← hσ1];have hR1:Rep σ1 tid eid ever L:=hσ1▸hR.app _;have h4:ze.at σ1 σ.length 0=some [.str f.fName,.int .i64 f.fTag,.int .i64 f.fLabel,.int .i64 f.fType.fKind,.str f.fType.fName]:=hσ1▸vck _ _ _;have h5:ze.at σ1 (σ.length+1) 0=some [.int .i64 x.fKind,.int .i64 x.fN,.str x.fS,.ds true (qb zD x.fEntries) x.fEntries.length false,.ds true (qb zy x.fRest) x.fRest.length false]:=hσ1▸at_end1 _ _ _ _
 have hn1:σ1.length=σ.length+2:=by rw[hσ1]; simp
 have hfr:∀ j,j<σ.length→σ1[j]?=σ[j]?:=fun j hj=>by rw[hσ1,qY hj]
 have hlt:∀ j∈tid::eid::L.map Ent.id,j<σ.length:=by
  intro j hj
  rcases q9.1 hj with rfl|hj
  · exact ze.at_lt hR.t
  rcases q9.1 hj with rfl|hj
  · exact ze.at_lt hR.e
  obtain⟨y,hy,rfl⟩:=uH.1 hj;exact ze.at_lt (hR.tr y hy)
 clear hσ1
 unfold vav at h;obtain⟨p,hp,h⟩:=bind_some h;have ht1:=hR1.t
 refine rd [0,4,5,6,7,8] fun K J=>?_
 refine DW.start (T:=tab) [.any,.any,.any,.at [],.any,.at [],.eff,.any,.any,.any,.any,.any] [] ?_;refine DW.runN U 6 ?_;simp only[go_sem,qh,qd,qc,qe,qf,qg,reduceIte,reduceCtorEq,ht1,h4];refine DW.call rfl rfl rfl ((zM.ok hp).lend rfl true 12 (by simp only[qu,qr,go_sem,qh,qd,qc,qe,qf,qg,reduceIte,reduceCtorEq,hR1.told true,vbn]; rfl)) ?_;refine DW.runN U 5 ?_;simp only[go_sem,qh,qd,qc,qe,qf,qg,reduceIte,reduceCtorEq];refine DW.fin U (by decide +kernel) rfl ?_;simp only[zH,ye,yx,Zn,upd,qc,reduceIte,xh,xO];apply J
 clear J K
 obtain⟨es1,hes1,h⟩:=bind_some h;obtain⟨e,he,h⟩:=bind_some h;obtain⟨u,hu,h⟩:=bind_some h;have hg:=xF hu
 have hidL:∀ l:List Ent,(l.map Ent.val).length=l.length:=fun l=>ul _
 refine xV (fun F τ=>F=[(0,AV.op tid 0 0),(4,.op σ.length 0 0),(5,.op (σ.length+1) 0 0),(6,.bool false),(7,.int .i64 p.1)]∧∃ ever' pre post av,p.1=(pre.length:Int)∧es1=pre.map Ent.val++e::post.map Ent.val∧Mid σ τ tid eid ever' (L.map Ent.id) pre post e.fTag av e.fTrees∧
  ze.at τ σ.length 0=some [.str f.fName,.int .i64 f.fTag,.int .i64 f.fLabel,.int .i64 f.fType.fKind,.str f.fType.fName]∧
  ze.at τ (σ.length+1) 0=some [.int .i64 x.fKind,.int .i64 x.fN,.str x.fS,.ds true (qb zD x.fEntries) x.fEntries.length false,.ds true (qb zy x.fRest) x.fRest.length false]) ?_ ?_
 · refine rg U [0,4,5,6,7,21] fun K J=>?_
   simp only[go_sem,qh,qd,qc,qe,qf,qg,reduceIte,reduceCtorEq];apply J
   clear J K
   refine zY (b := !p.2) rfl (fun hc=>?_) (fun hc=>?_)
   · have hc':p.2=false:=by simpa using hc
     rw[Zc hc'] at hes1;obtain⟨_,h1,hes1⟩:=bind_some hes1;obtain⟨_,h2,hes1⟩:=bind_some hes1;have h1:=ZP h1;have h2:=xF h2;obtain rfl:=Option.some.inj hes1
     obtain⟨k,hk⟩:∃ k:Nat,p.1=k:=⟨p.1.toNat,by omega⟩
     rw[hk] at he h1 ⊢;simp only[uc,hidL] at he h1 h2
     have hkl:k≤L.length:=by omega
     obtain⟨pre,post,rfl,rfl⟩:=split_at hkl;have hl2:(pre++post).length=pre.length+post.length:=qj
     have e1:List.take pre.length ((pre++post).map Ent.val)=pre.map Ent.val:=by rw[qs,← ul (f:=Ent.val),List.take_left]
     have e2:List.drop pre.length ((pre++post).map Ent.val)=post.map Ent.val:=by rw[qs,← ul (f:=Ent.val),List.drop_left]
     rw[e1,e2] at he
     have hee:e=⟨f.fTag,[]⟩:=by
      obtain⟨_,_,_,g3⟩:=ZF he
      rw[← g3]; simp
     subst hee;rw[uc,e1,e2]
     have hc1:((pre++post).flatMap Ent.cells).take (pre.length*2)=pre.flatMap Ent.cells:=by rw[qH,← vci,List.take_left]
     have hc2:((pre++post).flatMap Ent.cells).drop (pre.length*2)=post.flatMap Ent.cells:=by rw[qH,← vci,List.drop_left]
     have htl:(tid<σ1.length)=True:=eq_true (by have:=hlt tid (by simp); omega);have htl2:(tid<σ.length)=True:=eq_true (hlt tid (by simp));have hel:=hlt eid (by simp)
     have hte:tid≠eid:=by have:=hR1.nd; simp at this; exact this.1.1
     have hins:=Insert_at (σ:=σ1++[Yq.cells 0 [AV.int .i64 f.fTag,AV.ds true [] 0 true]]) (nl:=true) (i:=pre.length) (Yi hR1.e _) (vci _) (cells_one _) (by omega) (by have:=of_eq_true h2; omega) (vck σ1 _ []) (new:=[AV.int .i64 f.fTag,AV.ds true [] 0 true]) rfl rfl (by omega);rw[hc1,hc2] at hins
     obtain⟨σ2,hσ2⟩:∃ s,s=List.set (σ1++[Yq.cells 0 [AV.int .i64 f.fTag,AV.ds true [] 0 true]]) eid (Yq.cells (ever+1) (pre.flatMap Ent.cells++([AV.int .i64 f.fTag,AV.ds true [] 0 true]++post.flatMap Ent.cells)))++[Yq.dead]:=⟨_,rfl⟩
     rw[← hσ2] at hins
     have ht2:ze.at σ2 tid 0=some [.int .i64 3,.int .i64 0,.str [],.os true 2 eid ever 0 (pre++post).length false,.ds true [] 0 true]:=by
      rw[hσ2]; exact Yi (wV (Yi hR1.t _) hte _) _
     refine rdE [0,4,5,6,7] fun K J=>?_
     refine DW.start (T:=tab) [.any,.any,.any,.any,.own 1 [],.any,.any,.at [],.any,.eff,.eff,.any,.any,.eff] [(1,[])] ?_;refine DW.runN U 6 ?_;simp only[go_sem,qh,qd,qc,qe,qf,qg,reduceIte,reduceCtorEq,ht1,h4,htl];refine DW.runN U 4 ?_;simp only[go_sem,qh,qd,qc,qe,qf,qg,reduceIte,reduceCtorEq,ht1,h4,htl,zV,yI,ug,qW,qU,true_and,uj,agr_app];refine DW.callS rfl rfl rfl hins (fun m x hm hle=>by simp at hm hle; omega) ?_;refine DW.runN U 3 ?_;simp only[go_sem,qh,qd,qc,qe,qf,qg,reduceIte,reduceCtorEq,ht2];refine DW.fin U (by decide +kernel) rfl ?_;simp only[zH,ye,yx,Zn,upd,qc,reduceIte,xh,xO];apply J
     clear J K
     have hnd:=hR1.nd
     have keep:∀ {j v:Nat} {cs:List AV},ze.at σ1 j v=some cs→j≠eid→j≠tid→ze.at (σ2.set tid (.cells 0 [.int .i64 3,.int .i64 0,.str [],.os true 2 eid (ever+1) 0 ((pre++post).length+1) false,.ds true [] 0 true])) j v=some cs:=by
      intro j v cs hj h1 h2
      refine wV ?_ h2 _
      rw[hσ2]; exact Yi (wV (Yi hj _) h1 _) _
     have hnid:∀ y∈pre++post,y.id≠eid∧y.id≠tid:=by
      intro y hy
      have hm:y.id∈(pre++post).map Ent.id:=uH.2 ⟨y,hy,rfl⟩;rw[vg,vg] at hnd;exact⟨fun e=>hnd.2.1 (e▸hm),fun e=>hnd.1 (qL _ (e▸hm))⟩
     simp only[zH];refine⟨_,_,⟨rfl,ever+1,pre,post,.ds true [] 0 true,rfl,rfl,⟨?_,?_,?_,hnd,.inl ⟨rfl,rfl⟩,?_,?_,?_,hlt⟩,keep h4 (by omega) (by have:=of_eq_true htl2; omega),keep h5 (by omega) (by have:=of_eq_true htl2; omega)⟩,.same ⟨rfl,rfl,rfl,rfl,rfl,trivial⟩ rfl⟩
     · have:=ze.at_set (ver':=0) (cs':=[.int .i64 3,.int .i64 0,.str [],.os true 2 eid (ever+1) 0 ((pre++post).length+1) false,.ds true [] 0 true]) ht2;rw[this,hl2];simp only[Option.some.injEq,List.cons.injEq,AV.os.injEq,true_and,and_true]
       omega
     · refine wV ?_ hte.symm _
       rw[hσ2]; exact Yi (ze.at_set (Yi hR1.e _)) _
     · intro y hy; exact keep (hR1.tr y hy) (hnid y hy).1 (hnid y hy).2
     · intro y hy; exact uH.2 ⟨y,hy,rfl⟩
     · rw[hσ2]; simp; omega
     intro j hj hjn
     simp only[q9,not_or] at hjn;rw[ue (fun e=>hjn.1 e.symm),hσ2,qY (by simp; omega),ue (fun e=>hjn.2.1 e.symm),qY (by omega)];exact hfr j hj
   have hc':p.2=true:=by simpa using hc
   rw[if_pos hc'] at hes1;obtain rfl:=Option.some.inj hes1
   obtain⟨k,hk⟩:∃ k:Nat,p.1=k:=⟨p.1.toNat,by have:=(ZF he).1; omega⟩
   have he':=he;rw[hk] at he';obtain⟨g0,g1,g2,g3⟩:=ZF he';simp only[uc,hidL] at g1 g2 g3;obtain⟨pre,a,post,rfl,rfl⟩:=split_el (show k<L.length by omega)
   have hea:e=a.val:=by
    rw[← g3]; simp
   subst hea;refine zm ?_;simp only[zH];refine⟨_,σ1,⟨rfl,ever,pre,post,.os true 5 a.id a.ver 0 a.trees.length false,hk,by simp,⟨?_,?_,?_,?_,?_,?_,?_,?_,?_⟩,h4,h5⟩,.same ⟨rfl,rfl,rfl,rfl,rfl,trivial⟩ rfl⟩
   · have:=hR1.t
     rw[qj,qp,Nat.add_comm post.length 1] at this; exact this
   · have:=hR1.e
     rw[qH,qE] at this; exact this
   · intro y hy
     refine hR1.tr y ?_
     rcases uI.1 hy with h|h
     · exact uT _ h
     exact uW _ (qL _ h)
   · have:=hR1.nd;refine List.Nodup.sublist ?_ this;refine List.Sublist.cons_cons _ (List.Sublist.cons_cons _ ?_);exact (List.Sublist.append_left (List.sublist_cons_self _ _) _).map _
   · refine .inr ⟨a.id,a.ver,rfl,hR1.tr a (by simp),?_,by simp⟩;have:=hR1.nd;simp only[qs,qu,vg,q9,uI,List.nodup_append,not_or] at this ⊢;obtain⟨⟨h1,h2,h3,h4⟩,⟨h5,h6,h7⟩,h8,⟨h9,h10⟩,h11⟩:=this;exact⟨fun e=>h3 e.symm,fun e=>h6 e.symm,fun hm=>h11 _ hm _ (.inl rfl) rfl,h9⟩
   · intro y hy
     rcases uI.1 hy with h|h
     · exact uH.2 ⟨y,uT _ h,rfl⟩
     exact uH.2 ⟨y,uW _ (qL _ h),rfl⟩
   · omega
   · intro j hj _; exact hfr j hj
   exact hlt
 clear hes1 hp ht1 hR1 h4 h5 hn1 hfr σ1
 rintro _ τ ⟨rfl,ever1,pre,post,av,hp1,rfl,hM,h4,h5⟩;rw[hp1] at he h;simp only[uc] at h
 have hix:Zu tab 34 (.os true 2 eid ever1 0 (pre.length+(1+post.length)) false) (.int .i64 p.1)=some (.op eid ever1 (pre.length*2)):=by
  rw[hp1];simp only[Zu,vaU,vaT,ti34,ti40]
  simp
  omega
 have ht:=hM.t
 refine rg U [4,5,6,9] fun K J=>?_
 simp only[go_sem,qh,qd,qc,qe,qf,qg,reduceIte,reduceCtorEq,ht,hix];apply J
 clear J K
 have hcl:(pre.flatMap Ent.cells).length=pre.length*2:=vci pre
 refine xV (fun F τ'=>F=[(5,AV.op (σ.length+1) 0 0),(6,.bool false),(9,.op eid ever1 (pre.length*2))]∧∃ av',Mid σ τ' tid eid ever1 (L.map Ent.id) pre post e.fTag av' (if f.fLabel=3 then e.fTrees else [])∧
  ze.at τ' (σ.length+1) 0=some [.int .i64 x.fKind,.int .i64 x.fN,.str x.fS,.ds true (qb zD x.fEntries) x.fEntries.length false,.ds true (qb zy x.fRest) x.fRest.length false]) ?_ ?_
 · refine rg U [5,6,9,43] fun K J=>?_
   simp only[go_sem,qh,qd,qc,qe,qf,qg,reduceIte,reduceCtorEq,h4];apply J
   clear J K
   refine yv rfl (fun hc=>?_) (fun hc=>?_)
   · obtain⟨cs,hcs⟩:∃ cs,cs=pre.flatMap Ent.cells++([.int .i64 e.fTag,av]++post.flatMap Ent.cells):=⟨_,rfl⟩
     have hMe:=hM.e;rw[← hcs] at hMe;have hle:(pre.length*2+1<cs.length)=True:=eq_true (by rw[hcs]; simp only[qj,hcl,qp,qB]; omega);have hle':(pre.length*2+1+1≤cs.length)=True:=eq_true (by have:=of_eq_true hle; omega)
     refine rgE U [5,6,9] fun K J=>?_
     simp only[go_sem,qh,qd,qc,qe,qf,qg,reduceIte,reduceCtorEq,hMe,hle,hle'];apply J
     clear J K
     have hset:cs.set (pre.length*2+1) (.ds true [] 0 true)=pre.flatMap Ent.cells++([.int .i64 e.fTag,.ds true [] 0 true]++post.flatMap Ent.cells):=by
      rw[hcs,← hcl,set_mid1]
     rw[hset];simp only[zH];rw[if_neg hc];have hnd:=hM.nd;have hlt:=hM.lt;rw[vg,vg] at hnd
     have hte:tid≠eid:=fun e=>hnd.1 (e▸qP ..)
     refine⟨_,_,⟨rfl,.ds true [] 0 true,⟨wV hM.t hte _,ze.at_set hM.e,?_,hM.nd,.inl ⟨rfl,rfl⟩,hM.sub,?_,?_,hM.lt⟩,wV h5 ?_ _⟩,.same ⟨rfl,rfl,rfl,trivial⟩ rfl⟩
     · intro y hy
       refine wV (hM.tr y hy) ?_ _
       intro e; exact hnd.2.1 (e▸uH.2 ⟨y,hy,rfl⟩)
     · have:=hM.len; simpa using this
     · intro j hj hjn
       rw[ue]
       · exact hM.fr j hj hjn
       intro e; exact hjn (e▸by simp)
     have:=hlt eid (by simp); omega
   refine zm ?_;simp only[zH];rw[if_pos hc];exact⟨_,τ,⟨rfl,av,hM,h5⟩,.same ⟨rfl,rfl,rfl,trivial⟩ rfl⟩
 clear hM h4 h5 hix ht τ av
 rintro _ τ ⟨rfl,av,hM,h5⟩
 obtain⟨cs,hcs⟩:∃ cs,cs=pre.flatMap Ent.cells++([.int .i64 e.fTag,av]++post.flatMap Ent.cells):=⟨_,rfl⟩
 have hMe:=hM.e;rw[← hcs] at hMe;have hle:(pre.length*2+1<cs.length)=True:=eq_true (by rw[hcs]; simp only[qj,hcl,qp,qB]; omega);have hle':(pre.length*2+1+1≤cs.length)=True:=eq_true (by have:=of_eq_true hle; omega)
 have hgc:gc cs (pre.length*2+1)=av:=by rw[hcs,← hcl,gc_mid]
 have heid:(eid<τ.length)=True:=eq_true (ze.at_lt hMe)
 refine rd [6,9] fun K J=>?_
 refine DW.start (T:=tab) [.any,.any,.any,.any,.own 1 [],.at [],.eff,.eff,.any,.any,.eff] [(1,[])] ?_;refine DW.runN U 6 ?_;simp only[go_sem,qh,qd,qc,qe,qf,qg,reduceIte,reduceCtorEq,hMe,hle,hle',hgc,heid,h5]
 obtain⟨xc,hxc⟩:∃ xc,xc=[AV.int .i64 x.fKind,.int .i64 x.fN,.str x.fS,.ds true (qb zD x.fEntries) x.fEntries.length false,.ds true (qb zy x.fRest) x.fRest.length false]:=⟨_,rfl⟩
 have hx5:xc.length=5:=by rw[hxc]; rfl
 have hx1:xc.all AV.one=true:=by rw[hxc]; rfl
 have hxe:xc=yj x:=by rw[hxc,zf]<;>rfl
 generalize htr:(if f.fLabel=3 then e.fTrees else [])=trees at *
 have key:∃ nid nver τ3,xj tab 38 38 av (.os true 5 τ.length 0 0 1 true) (τ++[.cells 0 xc])=some (.os true 5 nid nver 0 (trees.length+1) false,τ3)∧ze.at τ3 nid nver=some (trees.flatMap yj++xc)∧
  (∀ j v cs,ze.at τ j v=some cs→j≠nid→ze.at τ3 j v=some cs)∧nid∉tid::eid::(pre++post).map Ent.id∧(nid∈L.map Ent.id∨σ.length≤nid)∧τ.length≤τ3.length∧∀ j,j<σ.length→j∉tid::eid::L.map Ent.id→τ3[j]?=τ[j]?:=by
  have e1:y1 (τ++[.cells 0 xc]) 5 (.os true 5 τ.length 0 0 1 true)=some (1,xc):=by
   simp only[y1,vck τ xc []];rw[if_pos (by omega),qq,Nat.one_mul,← hx5,uk]
  rcases hM.c with ⟨rfl,h0⟩|⟨id,ver,rfl,h1,h2,h3⟩
  · refine⟨τ.length+1,0,τ++[.cells 0 xc]++[.cells 0 xc],?_,?_,fun j v cs hj _=>Yi (Yi hj _) _,fun hj=>?_,.inr (by have:=hM.len; omega),by simp,fun j hj _=>?_⟩
    · subst h0;simp only[xj,tab_38,tab_37,ti38,ti37,e1,xg,hx1,yG,if_true,qj,qp,qB]
      simp
    · subst h0;simp only[qA,qI,qG];exact at_end1 _ _ _ _
    · have:τ.length+1<σ.length:=hM.lt _ (by
       rcases q9.1 hj with h|h
       · rw[h]; simp
       rcases q9.1 h with h|h
       · rw[h]; simp
       obtain⟨y,hy,h'⟩:=uH.1 h
       rw[← h']; exact qL _ (qL _ (hM.sub y hy)))
      have:=hM.len; omega
    have:=hM.len;rw[qA,qY (by omega)]
  refine⟨id,ver+1,List.set (τ++[Yq.cells 0 xc]) id (Yq.cells (ver+1) (trees.flatMap yj++xc)),?_,ze.at_set (Yi h1 _),fun j v cs hj hne=>wV (Yi hj _) hne _,h2,.inl h3,by simp,fun j hj hjn=>?_⟩
  · have hl:(trees.flatMap yj).length=trees.length*5:=yf E38.len trees
    have hg':((trees.length+1)*80≤140737488355328)=True:=by
     rw[← htr]
     by_cases hl3:f.fLabel=3
     · rw[if_pos hl3]; rw[if_pos hl3] at hg; exact hg
     rw[if_neg hl3]; simp
    simp only[xj,tab_38,tab_37,ti38,ti37,e1,xg,hx1,yG,Yi h1,hl,hg',and_self,qh,if_true]
  have:=hM.len;rw[ue,qY (by omega)]
  intro e; exact hjn (e▸qL _ (qL _ h3))
 obtain⟨nid,nver,τ3,k1,k2,k3,k4,k5,k6,k7⟩:=key
 have hne:eid≠nid:=fun e=>k4 (e▸by simp)
 have hMe3:=k3 _ _ _ hMe hne;refine DW.runN U 1 ?_;simp only[go_sem,qh,qd,qc,qe,qf,qg,reduceIte,reduceCtorEq,zV,yI,ug,qW,qU,true_and,uj,agr_app];rw[← hxc];refine DW.runN U 1 ?_;simp only[go_sem,qh,qd,qc,qe,qf,qg,reduceIte,reduceCtorEq,k1];refine DW.runN U 3 ?_;simp only[go_sem,qh,qd,qc,qe,qf,qg,reduceIte,reduceCtorEq,hMe3,hle,hle'];refine DW.fin U (by decide +kernel) rfl ?_;simp only[zH,ye,yx,Zn,upd,qc,reduceIte,xh,xO];apply J
 clear J K
 have hset:cs.set (pre.length*2+1) (.os true 5 nid nver 0 (trees.length+1) false)=pre.flatMap Ent.cells++([.int .i64 e.fTag,.os true 5 nid nver 0 (trees.length+1) false]++post.flatMap Ent.cells):=by
  rw[hcs,← hcl,set_mid1]
 have hat4:=ze.at_set (ver':=ever1) (cs':=cs.set (pre.length*2+1) (.os true 5 nid nver 0 (trees.length+1) false)) hMe3
 generalize cs.set (pre.length*2+1) (.os true 5 nid nver 0 (trees.length+1) false)=cs4 at *
 have hgc4:gc cs4 (pre.length*2+1)=.os true 5 nid nver 0 (trees.length+1) false:=by rw[hset,← hcl,gc_mid]
 have hle4:(pre.length*2+1<cs4.length)=True:=eq_true (by rw[hset]; simp only[qj,hcl,qp,qB]; omega)
 refine rg U [6] fun K J=>?_
 simp only[go_sem,qh,qd,qc,qe,qf,qg,reduceIte,reduceCtorEq,hat4,hgc4,hle4];apply J
 clear J K
 refine yg ?_;simp only[ZA,yQ,y5,xN,exists_eq_left',go_sem,qh,qd,qc,qe,qf,qg,reduceIte,reduceCtorEq];have h':=Option.some.inj h;obtain⟨h1,h2⟩:=Prod.mk.inj h';have hnd:=hM.nd;have hlt:=hM.lt;rw[vg,vg] at hnd
 have hte:tid≠eid:=fun e=>hnd.1 (e▸qP ..)
 have htn:tid≠nid:=fun e=>k4 (e▸by simp)
 have hll:(trees++[x]).length=trees.length+1:=by simp
 refine⟨ever1,pre++⟨e.fTag,nid,nver,trees++[x]⟩::post,?_,⟨?_,?_,?_,?_⟩,?_,?_,?_,?_⟩
 · rw[← h2,hll]
 · refine wV ?_ hte _;have:=k3 _ _ _ hM.t htn;rw[this];simp only[Option.some.injEq,List.cons.injEq,AV.os.injEq,true_and,and_true,qj,qp]
   omega
 · rw[hat4,hset]
   simp[Ent.cells]
 · intro y hy
   rcases uI.1 hy with hy|hy
   · refine wV (k3 _ _ _ (hM.tr y (uT _ hy)) ?_) ?_ _
     · intro e'; exact k4 (e'▸qL _ (qL _ (uH.2 ⟨y,uT _ hy,rfl⟩)))
     intro e'; exact hnd.2.1 (e'▸uH.2 ⟨y,uT _ hy,rfl⟩)
   rcases q9.1 hy with rfl|hy
   · refine wV ?_ hne.symm _
     show ze.at τ3 nid nver=some ((trees++[x]).flatMap yj)
     rw[k2,qH,hxe]; simp
   refine wV (k3 _ _ _ (hM.tr y (uW _ hy)) ?_) ?_ _
   · intro e'; exact k4 (e'▸qL _ (qL _ (uH.2 ⟨y,uW _ hy,rfl⟩)))
   intro e'; exact hnd.2.1 (e'▸uH.2 ⟨y,uW _ hy,rfl⟩)
 · have hp:(nid::tid::eid::(pre++post).map Ent.id).Nodup:=vg.2 ⟨k4,hM.nd⟩;refine (List.Perm.nodup_iff ?_).1 hp;refine (List.Perm.swap _ _ _).trans (List.Perm.cons _ ((List.Perm.swap _ _ _).trans (List.Perm.cons _ ?_)));rw[qs,qs,qu];exact (List.perm_middle).symm
 · rw[← h1,← hidL pre,set_mid]
   simp[Ent.val]
 · intro y hy
   rcases uI.1 hy with hy|hy
   · exact .inl (hM.sub y (uT _ hy))
   rcases q9.1 hy with rfl|hy
   · exact k5
   exact .inl (hM.sub y (uW _ hy))
 · have:=hM.len; simp; omega
 intro j hj hjn
 rw[ue (fun e=>hjn (by rw[← e]; simp)),k7 j hj hjn];exact hM.fr j hj hjn
end
section
set_option maxRecDepth 8000
set_option maxHeartbeats 1000000
open Go.RowKit AM
def ZY (m:z8):List zv→Option (List zv)
 |[]=>some []
 |e::l=>(wS e m).bind fun b=>(ZY m l).bind fun l'=>some (if b=true then l' else e::l')
theorem idx_del (m:z8):∀ (es:List zv) (x:Int) (es':List zv),ZY m es=some es'→
 ∃ r,zX.l4 m es x=some r∧((r = -1∧es'=es)∨∃ pre e post post',es=pre++e::post∧r=x+pre.length∧ZY m post=some post'∧es'=pre++post'):=by
 intro es
 induction es with
 |nil=>intro x es' h; cases h; exact⟨-1,rfl,.inl ⟨rfl,rfl⟩⟩
 |cons e l ih=>
  intro x es' h
  simp only[ZY] at h;obtain⟨b,hb,h⟩:=bind_some h;obtain⟨l',hl,h⟩:=bind_some h;obtain rfl:=Option.some.inj h;simp only[zX.l4,hb,qk]
  cases b with
  |true=>exact⟨x,rfl,.inr ⟨[],e,l,l',rfl,by simp,hl,rfl⟩⟩
  |false=>
   obtain⟨r,h1,h2⟩:=ih (x+1) l' hl;refine⟨r,h1,?_⟩
   rcases h2 with ⟨rfl,rfl⟩|⟨pre,e2,post,post',rfl,rfl,h3,rfl⟩
   · exact .inl ⟨rfl,rfl⟩
   exact .inr ⟨e::pre,e2,post,post',rfl,by simp; omega,h3,rfl⟩
theorem tell_fn {σ:ze}{keep:List Nat}{ls:Bool}{f:Nat}{g:Fn}{a b:List AV}:tell σ keep ls (f+1) (.fn g a b)=.fn g (a.map (tell σ keep ls f)) (b.map (tell σ keep ls f)):=rfl
theorem tell_msg {σ:ze}{keep:List Nat}{f:Nat}{g:Fn}{m:z8}:tell σ keep true (f+1+1+1) (.fn g [] [.dp (zh m) 0])=.fn g [] [.dp (zh m) 0]:=by
 simp only[tell_fn,qr,qu,tell_dp,zh,vbm,Xa,zw,qt,qv,qw]
theorem vc9 (n:Nat):(yI [AV.int .i64 0,.ds true [] 0 true] n).all AV.one=true:=by
 rw[un]
 intro x hx
 obtain⟨k,_,rfl⟩:=uH.1 hx
 have:k % 2=0∨k % 2=1:=by omega
 rcases this with h|h<;>simp[h,AV.one,gc]
theorem DeleteFunc_at {σ:ze}{id ver:Nat}{nl:Bool}{es es':List zv}(m:z8)(hcs:ze.at σ id ver=some (es.flatMap zD))(h:ZY m es=some es')(hB:es.length≤1000000000000000):
 ACalls qi 196 [.os nl 2 id ver 0 es.length false,.fn (.func 197) [] [.dp (zh m) 0]] σ (fun r σ'=>∃ cs g,r=.os nl 2 id ver 0 es'.length false∧σ'=List.set σ id (.cells ver (es'.flatMap zD++cs))++g):=by
 obtain⟨r,hr,hcase⟩:=idx_del m es 0 es' h;refine ZO (rs:=[.tmp 4]) U Tryz.func196 rfl Tryz.ntmps196 rfl Tryz.call196 (by simp) ?_;refine zK [(0,.os nl 2 id ver 0 es.length false),(1,.fn (.func 197) [] [.dp (zh m) 0])] ⟨rfl,rfl,trivial⟩ ?_
 refine rg U [0,1] fun K J=>?_
 simp only[go_sem,qh,qd,qc,qe,qf,qg,reduceIte,reduceCtorEq];apply J
 clear J K
 have htold:tell σ [] true 12 (.os nl 2 id ver 0 es.length false)=.ds true (es.flatMap zD) es.length false:=by
  have hl:(es.flatMap zD).length=es.length*2:=yf E34.len es;simp only[ZC,wU,hcs];rw[if_pos (by rw[hl]; omega),qq,← hl,uk,zw]
 refine rc [0,1,5] fun K J=>?_
 refine xE U 2 ?_;simp only[go_sem,qh,qd,qc,qe,qf,qg,reduceIte,reduceCtorEq];refine ZL rfl rfl rfl ((zX.ok hr).lend rfl true 12 (by simp only[qu,qr,go_sem,qh,qd,qc,qe,qf,qg,reduceIte,reduceCtorEq,htold,tell_msg])) ?_;rintro _ _ ⟨rfl,hσ⟩
 rw[hσ]; clear hσ
 refine xE U 1 ?_;simp only[go_sem,qh,qd,qc,qe,qf,qg,reduceIte,reduceCtorEq];refine zz ?_;simp only[zH,ye,yx,Zn,upd,qc,reduceIte,xh,xO];apply J
 clear J K
 refine zd fun Z hZ=>?_
 refine rg U [0,1,5,12] fun K J=>?_
 simp only[go_sem,qh,qd,qc,qe,qf,qg,reduceIte,reduceCtorEq];apply J
 clear J K
 refine yv rfl (fun hc=>?_) (fun hc=>?_)
 · have he:es'=es:=by
    rcases hcase with ⟨_,h⟩|⟨pre,e,post,post',_,h2,_⟩
    · exact h
    omega
   subst he
   refine rg U [4] fun K J=>?_
   simp only[go_sem,qh,qd,qc,qe,qf,qg,reduceIte,reduceCtorEq];apply J
   clear J K
   refine yg ?_;simp only[ZA,yQ,y5,xN,exists_eq_left',go_sem,qh,qd,qc,qe,qf,qg,reduceIte,reduceCtorEq];exact⟨[],[],by rw[qD,qD,ze.set_at hcs]⟩
 obtain⟨pre,e,post,post',he,h2,h3,h4⟩:∃ pre e post post',es=pre++e::post∧r=0+(pre.length:Int)∧ZY m post=some post'∧es'=pre++post':=by
  rcases hcase with ⟨h,_⟩|h
  · exact absurd h hc
  exact h
 rw[Int.zero_add] at h2;subst h2
 have hl0:es.length=pre.length+(post.length+1):=by rw[he]; simp
 refine zm ?_;refine hZ _ _ ?_
 clear hZ Z
 have hw1:IntKind.i64.wrap ((pre.length:Int)+1)=(pre.length:Int)+1:=by rw[IntKind.wrap_i64]; omega
 refine zd fun Z hZ=>?_
 refine rg U [0,1,5,6] fun K J=>?_
 simp only[go_sem,qh,qd,qc,qe,qf,qg,reduceIte,reduceCtorEq,hw1];apply J
 clear J K
 refine zq ?_
 refine yp (fun k F τ=>∃ (cur kept rest rest':List zv) (j:Nat) (g:ze),k=rest.length∧F=[(0,AV.os nl 2 id ver 0 es.length false),(1,.fn (.func 197) [] [.dp (zh m) 0]),(5,.int .i64 (kept.length:Int)),(6,.int .i64 (j:Int))]∧
  τ=List.set σ id (.cells ver (cur.flatMap zD))++g∧cur.length=es.length∧cur.take kept.length=kept∧cur.drop j=rest∧j+rest.length=es.length∧kept.length<j∧ZY m rest=some rest'∧es'=kept++rest') post.length
  ⟨es,pre,post,post',pre.length+1,[],rfl,rfl,by rw[ze.set_at hcs,qD],rfl,by rw[he,List.take_left],by rw[he,← vo,List.drop_left]; rfl,by omega,by omega,h3,h4⟩ (.same ⟨rfl,rfl,rfl,rfl,trivial⟩ rfl) ?_
 rintro k _ _ ⟨cur,kept,rest,rest',j,g,rfl,rfl,rfl,c1,c2,c3,c4,c5,c6,c7⟩;have hat:ze.at (List.set σ id (.cells ver (cur.flatMap zD))++g) id ver=some (cur.flatMap zD):=Yi (ze.at_set hcs) _
 obtain⟨τ,hτ⟩:∃ τ,τ=List.set σ id (.cells ver (cur.flatMap zD))++g:=⟨_,rfl⟩
 rw[← hτ] at hat ⊢
 refine zd fun Y hY=>?_
 refine rg U [0,1,5,6,19] fun K J=>?_
 simp only[go_sem,qh,qd,qc,qe,qf,qg,reduceIte,reduceCtorEq];apply J
 clear J K
 refine yv rfl (fun hc=>?_) (fun hc=>?_)
 · refine zm ?_;refine hY _ _ ?_
   clear hY Y
   rcases rest with _|⟨e2,rest⟩
   · simp only[qB] at c4; omega
   simp only[ZY] at c6;obtain⟨b,hb,c6⟩:=bind_some c6;obtain⟨l',hl',c6⟩:=bind_some c6;obtain rfl:=Option.some.inj c6;simp only[qp] at c4
   have hx:YI cur (j:Int)=some e2:=by
    unfold YI;rw[if_pos (by omega),uc]
    have:(cur.drop j)[0]?=some e2:=by rw[c3]; rfl
    rwa [List.getElem?_drop,qF] at this
   have hcd:cur.drop (j+1)=rest:=by rw[← vo,c3]; rfl
   have hw6:IntKind.i64.wrap ((j:Int)+1)=((j+1:Nat):Int):=by rw[IntKind.wrap_i64]; omega
   have hix:=E34.idxO hx nl false .i64 2 id ver;rw[c1] at hix;have hrd:=E34.rdO hx
   refine zd fun X hX=>?_
   have fin:∀ (cur' kept':List zv) (F:Fr) (τ':ze),vbt F [(0,AV.os nl 2 id ver 0 es.length false),(1,.fn (.func 197) [] [.dp (zh m) 0]),(5,.int .i64 (kept'.length:Int)),(6,.int .i64 (j:Int))]→(∃ g',τ'=List.set σ id (.cells ver (cur'.flatMap zD))++g')→cur'.length=es.length→cur'.take kept'.length=kept'→cur'.drop (j+1)=rest→kept'.length<j+1→es'=kept'++l'→
    X F τ':=by
    rintro cur' kept' F _ hF ⟨g',rfl⟩ d1 d2 d3 d4 d5;refine hX _ _ (xB (.same hF rfl) ?_)
    refine rgE U [0,1,5,6] fun K J=>?_
    simp only[go_sem,qh,qd,qc,qe,qf,qg,reduceIte,reduceCtorEq,hw6];apply J
    clear J K
    simp only[zH];exact⟨rest.length,_,_,by simp,⟨cur',kept',rest,l',j+1,g',rfl,rfl,rfl,d1,d2,d3,by omega,by omega,hl',d5⟩,.same ⟨rfl,rfl,rfl,rfl,trivial⟩ rfl⟩
   clear hX
   have hae:∀ cs,ze.at (τ++[.cells 0 cs]) τ.length 0=some cs:=fun cs=>vck τ cs []
   have hse:∀ cs cs',(τ++[Yq.cells 0 cs]).set τ.length (.cells 0 cs')=τ++[.cells 0 cs']:=fun cs cs'=>set_mid τ _ _ []
   have hw5:IntKind.i64.wrap ((kept.length:Int)+1)=((kept.length+1:Nat):Int):=by rw[IntKind.wrap_i64]; omega
   refine zq ?_
   refine rg U [0,1,5,6,7] fun K J=>?_
   simp only[go_sem,qh,qd,qc,qe,qf,qg,reduceIte,reduceCtorEq,hat,hix,hrd,yD,zU,hae,hse,qp,qB,uK,uV];apply J
   clear J K
   refine rc [0,5,6,7,1,29] fun K J=>?_
   refine xE U 2 ?_;simp only[go_sem,qh,qd,qc,qe,qf,qg,reduceIte,reduceCtorEq,hae,qp,qB];refine ZL rfl rfl rfl ((wS.ok hb).c _) ?_;rintro _ _ ⟨rfl,hσ⟩
   rw[hσ]; clear hσ
   refine xE U 1 ?_;simp only[go_sem,qh,qd,qc,qe,qf,qg,reduceIte,reduceCtorEq];refine zz ?_;simp only[zH,ye,yx,Zn,upd,qc,reduceIte,xh,xO];apply J
   clear J K
   cases b with
   |true=>
    refine zQ rfl ?_;refine zm ?_;simp only[Y7,zH];exact fin cur kept _ _ ⟨rfl,rfl,rfl,rfl,trivial⟩ ⟨g++[.cells 0 [.int .i64 e2.fTag,.ds true (qb yj e2.fTrees) e2.fTrees.length false]],by rw[hτ,qA]⟩ c1 c2 hcd (by omega) c7
   |false=>
    refine zS rfl ?_
    have hkl:kept.length<cur.length:=by omega
    have hx2:YI cur (kept.length:Int)=some cur[kept.length]:=by
     unfold YI;rw[if_pos (by omega),uc,qX hkl]
    have hix2:=E34.idxO hx2 nl false .i64 2 id ver;rw[c1] at hix2;have hsc:=E34.stOc hx2;have hsr:=E34.stOr hx2 (y:=e2) (cs:=[.int .i64 e2.fTag,.ds true (qb yj e2.fTrees) e2.fTrees.length false]) (by rw[yD]<;>rfl);simp only[wk] at hsr;have hat1:ze.at (τ++[.cells 0 [.int .i64 e2.fTag,.ds true (qb yj e2.fTrees) e2.fTrees.length false]]) id ver=some (cur.flatMap zD):=Yi hat _
    refine rg U [0,1,5,6] fun K J=>?_
    simp only[go_sem,qh,qd,qc,qe,qf,qg,reduceIte,reduceCtorEq,hae,hix2,hsc,hsr,hat1,qp,qB];apply J
    clear J K
    refine rgE U [0,1,5,6] fun K J=>?_
    simp only[go_sem,qh,qd,qc,qe,qf,qg,reduceIte,reduceCtorEq,hw5];apply J
    clear J K
    simp only[Y7,zH]
    have hlen:(kept++[e2]).length=kept.length+1:=by simp
    refine fin (setI cur (kept.length:Int) e2) (kept++[e2]) _ _ ⟨rfl,rfl,by rw[hlen]; rfl,rfl,trivial⟩ ⟨g++[.cells 0 [.int .i64 e2.fTag,.ds true (qb yj e2.fTrees) e2.fTrees.length false]],?_⟩ ?_ ?_ ?_ (by rw[hlen]; omega) (by rw[c7]; simp)
    · rw[hτ,qA,List.set_append_left _ _ (by simpa using ze.at_lt hcs),List.set_set]
    · rw[ym]; exact c1
    · rw[hlen];unfold setI;rw[uc,List.take_set,List.take_add_one,c2,qX hkl]
      simp
    unfold setI;rw[uc,List.drop_set_of_lt (by omega)];exact hcd
 refine yl ?_;simp only[go_sem,qh,qd,qc,qe,qf,qg,reduceIte,reduceCtorEq];have hr0:rest=[]:=qS.1 (by omega);subst hr0;cases c6;rw[qD] at c7;subst c7;simp only[qB,qF] at c4
 have hkn:es'.length<es.length:=by omega
 have hsl1:ZN tab 34 (.os nl 2 id ver 0 es.length false) (some (.int .i64 (es'.length:Int))) none none=some (.os nl 2 id ver (es'.length*2) (es.length-es'.length) false):=by
  simp only[ZN,vaU,vaT,ti34,ti40,vcI]
  simp
  omega
 have hsl2:ZN tab 34 (.os nl 2 id ver 0 es.length false) none (some (.int .i64 (es'.length:Int))) none=some (.os nl 2 id ver 0 es'.length false):=by
  simp only[ZN,vaU,vaT,ti34,ti40,vcI]
  simp
  omega
 have hcl:(cur.flatMap zD).length=es.length*2:=by rw[← c1]; exact yf E34.len cur
 have hzl:∀ n,(yI [AV.int .i64 0,.ds true [] 0 true] n).length=n:=fun n=>by simp[yI]
 have hsr:wk (cur.flatMap zD) (es'.length*2) (yI [AV.int .i64 0,.ds true [] 0 true] ((es.length-es'.length)*2))=es'.flatMap zD++yI [AV.int .i64 0,.ds true [] 0 true] ((es.length-es'.length)*2):=by
  have e0:cur.flatMap zD=es'.flatMap zD++((cur.drop es'.length).flatMap zD++[]):=by
   rw[qD,← qH]
   congr 1
   conv=>lhs; rw[← uA es'.length cur,c2]
  have l1:(es'.flatMap zD).length=es'.length*2:=yf E34.len _;rw[e0,← l1,Xb _ _ _ _ (by rw[hzl,yf E34.len,uU,c1]),qD]
 have hclr:vdx tab 34 (.os nl 2 id ver (es'.length*2) (es.length-es'.length) false) τ=some (.tup [],τ.set id (.cells ver (es'.flatMap zD++yI [AV.int .i64 0,.ds true [] 0 true] ((es.length-es'.length)*2)))):=by
  have hp:Yv τ (.os nl 2 id ver (es'.length*2) (es.length-es'.length) false) (es.length-es'.length) 2 (yI [AV.int .i64 0,.ds true [] 0 true] ((es.length-es'.length)*2))=some (τ.set id (.cells ver (es'.flatMap zD++yI [AV.int .i64 0,.ds true [] 0 true] ((es.length-es'.length)*2)))):=by
   unfold Yv;rw[if_neg (by omega)];simp only[hat];rw[if_pos ⟨trivial,by rw[hzl,hcl,← u6]; exact ud _ (by omega),vc9 _⟩,hsr]
  simp only[vdx,vaU,vaT,ti34,ti40,AV.cells,hp]
  simp[AV.okc,AV.one]
 refine hZ _ _ ?_
 refine rg U [0,5] fun K J=>?_
 simp only[go_sem,qh,qd,qc,qe,qf,qg,reduceIte,reduceCtorEq,hsl1,hclr];apply J
 clear J K
 refine rg U [4] fun K J=>?_
 simp only[go_sem,qh,qd,qc,qe,qf,qg,reduceIte,reduceCtorEq,hsl2];apply J
 clear J K
 refine yg ?_;simp only[ZA,yQ,y5,xN,exists_eq_left',go_sem,qh,qd,qc,qe,qf,qg,reduceIte,reduceCtorEq];refine⟨yI [AV.int .i64 0,.ds true [] 0 true] ((es.length-es'.length)*2),g,?_⟩;rw[hτ,List.set_append_left _ _ (by simpa using ze.at_lt hcs),List.set_set]
end
section
set_option maxRecDepth 8000
set_option maxHeartbeats 1000000
open Go.RowKit AM
def ya.l (xT:zB→YH→yC→Int→Option (zp×Int))(a0:zB)(a1:z8)(a3:Int):List yC→List zv→List yC→Option (zp×Int)
 |[],es,rest=>(vaV es.length 32).bind fun _=>(ZY a1 es).bind fun es'=>(yz rest).bind fun r=>some ((⟨3,0,[],es',r⟩:zp),0)
 |r::q,es,rest=>bnd (zW a1 r.fTag) fun f=>(if f.2=true then (xT a0 f.1.fType r a3).bind fun x=>(if x.2=0 then (vav es f.1 x.1).bind fun p=>(if p.2=true then ya.l xT a0 a1 a3 q p.1 rest else some ((⟨0,0,[],[],[]⟩:zp),4)) else some ((⟨0,0,[],[],[]⟩:zp),x.2))
  else (vaV (rest.length+1) 40).bind fun _=>ya.l xT a0 a1 a3 q es (rest++[r]))
def ya.body (yh:zB→z8→List UInt8→Int→Option (zp×Int))(xT:zB→YH→yC→Int→Option (zp×Int))(a0:zB)(a1:z8)(a2:List UInt8)(a3:Int):Option (zp×Int):=
 if 10<a3 then some ((⟨0,0,[],[],[]⟩:zp),10) else (Zk a2).bind fun g=>if g.2=0 then ya.l xT a0 a1 a3 g.1 [] [] else some ((⟨0,0,[],[],[]⟩:zp),g.2)
structure Loop (τ:ze)(a0:zB)(a1:z8)(ever rver:Nat)(L:List Ent)(rest:List yC):Prop where
 h0:ze.at τ 0 0=some (za a0)
 h1:ze.at τ 1 0=some (zh a1)
 h2:ze.at τ 2 0=some [.int .i64 0,.int .i64 0,.str [],.ds true [] 0 true,.ds true [] 0 true]
 rep:Rep τ 3 4 ever L
 h5:ze.at τ 5 rver=some (rest.flatMap zy)
 ids:∀ y∈L,6≤y.id
theorem Loop.app {τ:ze}{a0:zB}{a1:z8}{ever rver:Nat}{L:List Ent}{rest:List yC}(h:Loop τ a0 a1 ever rver L rest)(l:ze):Loop (τ++l) a0 a1 ever rver L rest:=
 ⟨Yi h.h0 l,Yi h.h1 l,Yi h.h2 l,h.rep.app l,Yi h.h5 l,h.ids⟩
theorem vb1 {σ:ze}{keep:List Nat}{e:Int}:tell σ keep true 12 (.tup [.agg [.int .i64 0,.int .i64 0,.str [],.ds true [] 0 true,.ds true [] 0 true],.int .i64 e])=.tup [.agg (zb ⟨0,0,[],[],[]⟩),.int .i64 e]:=by
 simp only[tell_tup,qu,qr,tell_agg,vbn,vbm,Xa]
 rfl
theorem ya.step (yh:zB→z8→List UInt8→Int→Option (zp×Int))(xT:zB→YH→yC→Int→Option (zp×Int))
 (vaM:∀ (a0:zB) (a1:YH) (a2:yC) (a3:Int) (r:zp×Int),xT a0 a1 a2 a3=some r→ACalls qi 194 [.agg (za a0),.agg (xp a1),.agg (zy a2),.int .i64 a3] [] (fun r' _=>r'=.tup [.agg (zb r.1),.int .i64 r.2]))
 (a0:zB) (a1:z8) (a2:List UInt8) (a3:Int) (r:zp×Int) (h:ya.body yh xT a0 a1 a2 a3=some r):
 ACalls qi 149 [.agg (za a0),.agg (zh a1),.ds true (qb Ym a2) (qa a2) false,.int .i64 a3] [] (fun r' _=>r'=.tup [.agg (zb r.1),.int .i64 r.2]):=by
 have ev_one:=fun a0 a1 a2 a3 r h σ=>(vaM a0 a1 a2 a3 r h).pureAt (by simp only[AV.canon,xl,xv,qN,qo,uh,qm,qv,qt,uF,uC,zb,zy,za,zf,xp]) (by simp only[AV.canon,xl,xv,qN,qo,uh,qm,qv,qt,uF,uC,zb,zy,za,zf,xp]) σ
 refine zx (rs:=[.cell 8 37,.tmp 9]) U Tryz.func149 rfl Tryz.ntmps149 rfl Tryz.call149 (by simp) ?_;refine zK [(0,.agg (za a0)),(1,.agg (zh a1)),(2,.ds true (qb Ym a2) (qa a2) false),(3,.int .i64 a3)] ⟨rfl,rfl,rfl,rfl,trivial⟩ ?_;unfold ya.body at h
 refine rg U [2,3,4,5,8,9] fun K J=>?_
 simp only[go_sem,qh,qd,qc,qe,qf,qg,reduceIte,reduceCtorEq,za,zh];apply J
 clear J K
 refine zd fun Z hZ=>?_
 refine rg U [2,3,4,5,8,9,21] fun K J=>?_
 simp only[go_sem,qh,qd,qc,qe,qf,qg,reduceIte,reduceCtorEq];apply J
 clear J K
 refine yv rfl (fun hc=>?_) (fun hc=>?_)
 · rw[if_pos hc] at h;obtain rfl:=Option.some.inj h
   refine rg U [8,9] fun K J=>?_
   simp only[go_sem,qh,qd,qc,qe,qf,qg,reduceIte,reduceCtorEq];apply J
   clear J K
   refine yg ?_;simp only[ZA,yQ,y5,xN,exists_eq_left',go_sem,qh,qd,qc,qe,qf,qg,reduceIte,reduceCtorEq];exact vb1
 rw[if_neg hc] at h;obtain⟨g,hg,h⟩:=bind_some h;refine zm ?_;refine hZ _ _ ?_
 clear hZ Z
 refine rc [3,4,5,8,9,10,11] fun K J=>?_
 refine xE U 1 ?_;simp only[go_sem,qh,qd,qc,qe,qf,qg,reduceIte,reduceCtorEq];refine ZL rfl rfl rfl ((Zk.ok hg).c _) ?_;rintro _ _ ⟨rfl,hσ⟩
 rw[hσ]; clear hσ
 refine xE U 5 ?_;simp only[go_sem,qh,qd,qc,qe,qf,qg,reduceIte,reduceCtorEq];refine zz ?_;simp only[zH,ye,yx,Zn,upd,qc,reduceIte,xh,xO];apply J
 clear J K
 refine zd fun Z hZ=>?_
 refine rg U [3,4,5,8,9,10,11,29] fun K J=>?_
 simp only[go_sem,qh,qd,qc,qe,qf,qg,reduceIte,reduceCtorEq];apply J
 clear J K
 refine yv rfl (fun hc2=>?_) (fun hc2=>?_)
 · rw[if_neg hc2] at h;obtain rfl:=Option.some.inj h
   refine rg U [8,9] fun K J=>?_
   simp only[go_sem,qh,qd,qc,qe,qf,qg,reduceIte,reduceCtorEq];apply J
   clear J K
   refine yg ?_;simp only[ZA,yQ,y5,xN,exists_eq_left',go_sem,qh,qd,qc,qe,qf,qg,reduceIte,reduceCtorEq];exact vb1
 rw[if_pos hc2] at h;refine zm ?_;refine hZ _ _ ?_
 clear hZ Z
 refine rg U [3,4,5,8,9,10,12] fun K J=>?_
 simp only[go_sem,qh,qd,qc,qe,qf,qg,reduceIte,reduceCtorEq];apply J
 clear J K
 refine Zw 3 3 2 rfl (by simp) rfl (L:=[(3,.int .i64 a3),(4,.op 0 0 0),(5,.op 1 0 0),(8,.op 2 0 0),(9,.int .i64 0),(10,.ds true (qb zy g.1) (qa g.1) false),(12,.op 3 0 0)]) (.same ⟨rfl,rfl,rfl,rfl,rfl,rfl,rfl,trivial⟩ rfl) ?_
 refine rg U [3,4,5,8,9,10,12,13] fun K J=>?_
 simp only[go_sem,qh,qd,qc,qe,qf,qg,reduceIte,reduceCtorEq];apply J
 clear J K
 refine vaA 13 4 rfl ?_;refine xB (L:=[(3,.int .i64 a3),(4,.op 0 0 0),(5,.op 1 0 0),(8,.op 2 0 0),(9,.int .i64 0),(10,.ds true (qb zy g.1) (qa g.1) false),(12,.op 3 0 0),(13,.os true 4 5 0 0 0 false)]) (.same ⟨rfl,rfl,rfl,rfl,rfl,rfl,rfl,rfl,trivial⟩ rfl) ?_
 refine zd fun Z hZ=>?_
 refine xr 10 fun hb=>?_
 replace hb:qa g.1≤9223372036854775807:=hb.1
 refine rg U [3,4,5,8,9,12,13,33,34,35] fun K J=>?_
 simp only[go_sem,qh,qd,qc,qe,qf,qg,reduceIte,reduceCtorEq];apply J
 clear J K
 refine zq ?_
 refine yp (fun k F τ=>∃ (p q:List yC) (i:Int) (L:List Ent) (rest:List yC) (ever rver:Nat),k=q.length∧F=[(3,AV.int .i64 a3),(4,.op 0 0 0),(5,.op 1 0 0),(8,.op 2 0 0),(9,.int .i64 0),(12,.op 3 0 0),(13,.os true 4 5 rver 0 rest.length false),(33,.ds true (qb zy g.1) (qa g.1) false),(34,.int .i64 (qa g.1:Int)),(35,.int .i64 i)]∧Loop τ a0 a1 ever rver L rest∧g.1=p++q∧i=(p.length:Int)∧ya.l xT a0 a1 a3 q (L.map Ent.val) rest=some r) g.1.length
  ⟨[],g.1,0,[],[],0,0,rfl,rfl,⟨rfl,rfl,rfl,⟨rfl,rfl,fun _ h=>(by cases h),by simp⟩,rfl,fun _ h=>(by cases h)⟩,rfl,rfl,h⟩ (.same ⟨rfl,rfl,rfl,rfl,rfl,rfl,rfl,rfl,rfl,rfl,trivial⟩ rfl) ?_
 clear h
 rintro k _ τ ⟨p,q,i,L,rest,ever,rver,rfl,rfl,hL,hE,hi,h⟩
 refine rg U [3,4,5,8,9,12,13,33,34,35,36] fun K J=>?_
 simp only[go_sem,qh,qd,qc,qe,qf,qg,reduceIte,reduceCtorEq];apply J
 clear J K
 refine zd fun Y hY=>?_
 rcases q with _|⟨y,q⟩
 · have hz:=xM hE hi;refine yv rfl (fun hc=>absurd hc (by rw[hz]; exact id)) (fun _=>?_);refine yl ?_;simp only[Y7,zH,go_sem,qh,qd,qc,qe,qf,qg,reduceIte,reduceCtorEq];simp only[ya.l] at h;obtain⟨u,hu,h⟩:=bind_some h;have hrm:=of_eq_true (xF hu);obtain⟨es',hes,h⟩:=bind_some h;obtain⟨rr,hrr,h⟩:=bind_some h;obtain rfl:=Option.some.inj h
   have hid:∀ y∈L,Y2 [2,3,4] y.id 0=none:=by
    intro y hy
    have:=hL.ids y hy;simp only[Yl,wU];rw[if_neg (by omega),if_neg (by omega),if_neg (by omega)]
   have hget:∀ {j v:Nat} {cs:List AV},ze.at τ j v=some cs→τ.getD j .dead=.cells v cs:=by
    intro j v cs hj
    rw[qC,ze.at_some hj]; rfl
   have hl4:(rest.flatMap zy).length=rest.length*4:=yf E35.len rest;have hcells:=hL.rep.toldC [2,3,4] false 10 hid
   have htS:vbF τ [2,3,4] false 12=[.cells 0 [.int .i64 0,.int .i64 0,.str [],.ds true [] 0 true,.ds true [] 0 true],.cells 0 [.int .i64 3,.int .i64 0,.str [],.os true 2 2 ever 0 (L.map Ent.val).length false,.ds true [] 0 true],.cells ever ((L.map Ent.val).flatMap zD)]:=by
    simp only[vbF,qu,qr,hget hL.h2,hget hL.rep.t,hget hL.rep.e,va4,vbn,vbm,Xa,ZC,Yl,wU,qc,if_true,if_false,hcells,ul,qz,qm,qo,reduceIte,qe]
   have hrest:tell τ [2,3,4] false 12 (.os true 4 5 rver 0 rest.length false)=.ds true (rest.flatMap zy) rest.length false:=by
    simp only[ZC,Yl,wU,qc,if_false,hL.h5,reduceIte];rw[if_pos (by rw[hl4]; omega),qq,← hl4,uk,zw]
   have hmsg:tell τ [2,3,4] false 12 (.op 1 0 0)=.dp (zh a1) 0:=by
    simp only[tell_op,Yl,wU,qc,if_false,hL.h1,zh,qu,qr,vbm,Xa,zw,qz,qm,qo,u0,reduceIte]
   have hk3:[2,3,4].Nodup:=by decide
   have hlt5:=ze.at_lt hL.h5;refine hZ _ _ ?_;refine xB (L:=[(5,.dp (zh a1) 0),(8,.op 0 0 0),(12,.op 1 0 0),(13,.ds true (rest.flatMap zy) rest.length false)]) (.told [2,3,4] false hk3 (by intro id hid'; simp at hid'; omega) rfl htS ⟨hmsg,rfl,rfl,hrest,trivial⟩) ?_
   refine rc [8,12,13] fun K J=>?_
   refine xE U 3 ?_;simp only[go_sem,qh,qd,qc,qe,qf,qg,reduceIte,reduceCtorEq,ul];have hdel:=DeleteFunc_at (σ:=[.cells 0 [.int .i64 0,.int .i64 0,.str [],.ds true [] 0 true,.ds true [] 0 true],.cells 0 [.int .i64 3,.int .i64 0,.str [],.os true 2 2 ever 0 L.length false,.ds true [] 0 true],.cells ever ((L.map Ent.val).flatMap zD)]) (id:=2) (ver:=ever) (nl:=true) a1 (by simp only[ze.at_hd,ze.at_tl,if_true]) hes (by omega);rw[ul] at hdel;refine ZL rfl rfl rfl hdel ?_;rintro _ _ ⟨cs,g',rfl,rfl⟩;refine xE U 2 ?_;simp only[go_sem,qh,qd,qc,qe,qf,qg,reduceIte,reduceCtorEq,qI,qG,uV,uK];refine zz ?_;simp only[zH,ye,yx,Zn,upd,qc,reduceIte,xh,xO];apply J
   clear J K
   refine rc [8,12] fun K J=>?_
   refine xE U 1 ?_;simp only[go_sem,qh,qd,qc,qe,qf,qg,reduceIte,reduceCtorEq];refine ZL rfl rfl rfl ((yz.ok hrr).c _) ?_;rintro _ _ ⟨rfl,hσ⟩
   rw[hσ]; clear hσ
   refine xE U 2 ?_;simp only[go_sem,qh,qd,qc,qe,qf,qg,reduceIte,reduceCtorEq,uV,uK];refine zz ?_;simp only[zH,ye,yx,Zn,upd,qc,reduceIte,xh,xO];apply J
   clear J K
   refine rg U [8,9] fun K J=>?_
   simp only[go_sem,qh,qd,qc,qe,qf,qg,reduceIte,reduceCtorEq,uV,uK];apply J
   clear J K
   refine yg ?_;simp only[ZA,yQ,y5,xN,exists_eq_left',go_sem,qh,qd,qc,qe,qf,qg,reduceIte,reduceCtorEq];have hle:(es'.flatMap zD).length=es'.length*2:=yf E34.len es';simp only[tell_tup,qu,qr,tell_agg,vbn,vbm,Xa,ZC,wU,ze.at_hd,ze.at_tl,if_true,zw,zb,zp.fKind,zp.fN,zp.fS,zp.fEntries,zp.fRest];rw[if_pos (by rw[qj,hle]; omega),qq,← hle,List.take_left,zw]
   rfl
 obtain⟨hz,hw,hx,hE',hi'⟩:=xq hE hi hb;refine yv rfl (fun _=>?_) (fun hc=>absurd (of_eq_true hz) hc);refine zm ?_;refine hY _ _ ?_
 clear hY Y
 refine zd fun X hX=>?_
 have fin:∀ (F:Fr) (τ':ze) (L':List Ent) (rest':List yC) (ever' rver':Nat),vbt F [(3,AV.int .i64 a3),(4,.op 0 0 0),(5,.op 1 0 0),(8,.op 2 0 0),(9,.int .i64 0),(12,.op 3 0 0),(13,.os true 4 5 rver' 0 rest'.length false),(33,.ds true (qb zy g.1) (qa g.1) false),(34,.int .i64 (qa g.1:Int)),(35,.int .i64 i)]→Loop τ' a0 a1 ever' rver' L' rest'→ya.l xT a0 a1 a3 q (L'.map Ent.val) rest'=some r→X F τ':=by
  intro F τ' L' rest' ever' rver' hF hL' h'
  refine hX _ _ (xB (.same hF rfl) ?_)
  refine rgE U [3,4,5,8,9,12,13,33,34,35] fun K J=>?_
  simp only[go_sem,qh,qd,qc,qe,qf,qg,reduceIte,reduceCtorEq,hw];apply J
  clear J K
  simp only[zH];exact⟨q.length,_,_,by simp,⟨p++[y],q,i+1,L',rest',ever',rver',rfl,rfl,hL',hE',hi',h'⟩,.same ⟨rfl,rfl,rfl,rfl,rfl,rfl,rfl,rfl,rfl,rfl,trivial⟩ rfl⟩
 clear hX
 refine zq ?_;have hix:=E35.idxS hx;have hld:=E35.loadS rfl rfl hx
 have hae:∀ (τ:ze) cs,ze.at (τ++[.cells 0 cs]) τ.length 0=some cs:=fun τ cs=>vck τ cs []
 have hse:∀ (τ:ze) cs cs',(τ++[Yq.cells 0 cs]).set τ.length (.cells 0 cs')=τ++[.cells 0 cs']:=fun τ cs cs'=>set_mid τ _ _ []
 refine rg U [3,4,5,8,9,12,13,15,33,34,35] fun K J=>?_
 simp only[go_sem,qh,qd,qc,qe,qf,qg,reduceIte,reduceCtorEq,hix,hld,zy,hae,hse,qp,qB,uK,uV];apply J
 clear J K
 simp only[ya.l] at h;obtain⟨f,hf,h⟩:=yq h;have hL1:=hL.app [.cells 0 [.int .i64 y.fTag,.int .i64 y.fWire,.int .i64 y.fN,.str y.fB]];have hr1:=vck τ [.int .i64 y.fTag,.int .i64 y.fWire,.int .i64 y.fN,.str y.fB] []
 generalize τ.length=k1 at *
 generalize τ++[.cells 0 [.int .i64 y.fTag,.int .i64 y.fWire,.int .i64 y.fN,.str y.fB]]=τ1 at *
 have hm1:=hL1.h1;have hs1:=hL1.h0;simp only[zh] at hm1;simp only[za] at hs1
 refine rc [3,4,5,8,9,12,13,15,16,17,33,34,35] fun K J=>?_
 refine xE U 3 ?_;simp only[go_sem,qh,qd,qc,qe,qf,qg,reduceIte,reduceCtorEq,hm1,hr1,qp,qB];refine ZL rfl rfl rfl ((zW.ok hf).c _) ?_;rintro _ _ ⟨rfl,hσ⟩
 rw[hσ]; clear hσ
 refine xE U 6 ?_;simp only[go_sem,qh,qd,qc,qe,qf,qg,reduceIte,reduceCtorEq,yB,xp,hae,hse,qp,qB,uK,uV];refine zz ?_;simp only[zH,ye,yx,Zn,upd,qc,reduceIte,xh,xO];apply J
 clear J K
 have hL2:=hL1.app [.cells 0 [.str f.1.fName,.int .i64 f.1.fTag,.int .i64 f.1.fLabel,.int .i64 f.1.fType.fKind,.str f.1.fType.fName]];have hr2:=Yi hr1 [.cells 0 [.str f.1.fName,.int .i64 f.1.fTag,.int .i64 f.1.fLabel,.int .i64 f.1.fType.fKind,.str f.1.fType.fName]];have hm2:=Yi hs1 [.cells 0 [.str f.1.fName,.int .i64 f.1.fTag,.int .i64 f.1.fLabel,.int .i64 f.1.fType.fKind,.str f.1.fType.fName]];have hf2:=vck τ1 [.str f.1.fName,.int .i64 f.1.fTag,.int .i64 f.1.fLabel,.int .i64 f.1.fType.fKind,.str f.1.fType.fName] []
 clear hm1 hs1 hr1
 generalize τ1.length=k2 at *
 generalize τ1++[.cells 0 [.str f.1.fName,.int .i64 f.1.fTag,.int .i64 f.1.fLabel,.int .i64 f.1.fType.fKind,.str f.1.fType.fName]]=τ2 at *
 refine zd fun Y hY=>?_
 refine rg U [3,4,5,8,9,12,13,15,16,17,33,34,35,47] fun K J=>?_
 simp only[go_sem,qh,qd,qc,qe,qf,qg,reduceIte,reduceCtorEq];apply J
 clear J K
 have hb2:∀ (b:Bool),(!b)=true→b=false:=by decide
 refine zY (b := !f.2) rfl (fun hc3=>?_) (fun hc3=>?_)
 · have hc4:f.2=false:=by simpa using hc3
   rw[Zc hc4] at h;obtain⟨u,hu,h⟩:=bind_some h;have hrm:=xF hu;have hL5:=hL2.h5;have hl4:(rest.flatMap zy).length=rest.length*4:=yf E35.len rest
   refine rg U [3,4,5,8,9,12,13,33,34,35] fun K J=>?_
   have hlit:=vck τ2 [.int .i64 y.fTag,.int .i64 y.fWire,.int .i64 y.fN,.str y.fB] [];have hat5:=Yi hL5 [.cells 0 [.int .i64 y.fTag,.int .i64 y.fWire,.int .i64 y.fN,.str y.fB]]
   have hap:xj tab 35 35 (.os true 4 5 rver 0 rest.length false) (.os true 4 τ2.length 0 0 1 true) (τ2++[.cells 0 [.int .i64 y.fTag,.int .i64 y.fWire,.int .i64 y.fN,.str y.fB]])=
    some (.os true 4 5 (rver+1) 0 (rest.length+1) false,List.set (τ2++[.cells 0 [.int .i64 y.fTag,.int .i64 y.fWire,.int .i64 y.fN,.str y.fB]]) 5 (.cells (rver+1) (rest.flatMap zy++[.int .i64 y.fTag,.int .i64 y.fWire,.int .i64 y.fN,.str y.fB]))):=by
    have e1:y1 (τ2++[.cells 0 [.int .i64 y.fTag,.int .i64 y.fWire,.int .i64 y.fN,.str y.fB]]) 4 (.os true 4 τ2.length 0 0 1 true)=some (1,[.int .i64 y.fTag,.int .i64 y.fWire,.int .i64 y.fN,.str y.fB]):=by
     simp only[y1,hlit]; simp
    simp only[xj,tab_35,tab_139,ti35,ti139,e1,xg,yG,hat5,hl4,hrm]
    simp[AV.one]
   simp only[go_sem,qh,qd,qc,qe,qf,qg,reduceIte,reduceCtorEq,hr2,zV,yI,ug,qW,qU,true_and,uj,qp,qB,hap];apply J
   clear J K
   refine yl ?_;simp only[go_sem,qh,qd,qc,qe,qf,qg,reduceIte,reduceCtorEq]
   have hLs:Loop (List.set (τ2++[.cells 0 [.int .i64 y.fTag,.int .i64 y.fWire,.int .i64 y.fN,.str y.fB]]) 5 (.cells (rver+1) (rest.flatMap zy++[.int .i64 y.fTag,.int .i64 y.fWire,.int .i64 y.fN,.str y.fB]))) a0 a1 ever (rver+1) L (rest++[y]):=by
    have hL3:=hL2.app [.cells 0 [.int .i64 y.fTag,.int .i64 y.fWire,.int .i64 y.fN,.str y.fB]];refine⟨wV hL3.h0 (by decide) _,wV hL3.h1 (by decide) _,wV hL3.h2 (by decide) _,hL3.rep.set_ne (fun hm=>?_) _,?_,hL3.ids⟩
    · simp only[q9,uH] at hm
      rcases hm with h|h|⟨z,hz,h⟩
      · cases h
      · cases h
      have:=hL3.ids z hz; omega
    rw[ze.at_set hL3.h5,qH]
    simp[zy]
   exact fin _ _ L (rest++[y]) ever (rver+1) ⟨rfl,rfl,rfl,rfl,rfl,rfl,by rw[qj]; rfl,rfl,rfl,rfl,trivial⟩ hLs h
 have hc4:f.2=true:=by simpa using hc3
 rw[if_pos hc4] at h;refine zm ?_;refine hY _ _ ?_
 clear hY Y
 obtain⟨x,hx1,h⟩:=bind_some h;have hty:AV.agg (xp f.1.fType)=.agg [.int .i64 f.1.fType.fKind,.str f.1.fType.fName]:=rfl
 refine rc [3,4,5,8,9,12,13,16,18,19,33,34,35] fun K J=>?_
 refine xE U 5 ?_;simp only[go_sem,qh,qd,qc,qe,qf,qg,reduceIte,reduceCtorEq,hm2,hr2,hf2,qp,qB,List.drop_succ_cons,qq,List.take_succ_cons,List.take_zero];refine ZL rfl rfl rfl (ev_one a0 f.1.fType y a3 x hx1 _) ?_;rintro _ _ ⟨rfl,hσ⟩
 rw[hσ]; clear hσ
 refine xE U 6 ?_;simp only[go_sem,qh,qd,qc,qe,qf,qg,reduceIte,reduceCtorEq,zb,hae,hse,qp,qB,uK,uV];refine zz ?_;simp only[zH,ye,yx,Zn,upd,qc,reduceIte,xh,xO];apply J
 clear J K hr2 hm2
 obtain⟨xc,hxc⟩:∃ xc,xc=[AV.int .i64 x.1.fKind,.int .i64 x.1.fN,.str x.1.fS,.ds true (qb zD x.1.fEntries) x.1.fEntries.length false,.ds true (qb zy x.1.fRest) x.1.fRest.length false]:=⟨_,rfl⟩
 rw[← hxc];have hL3:=hL2.app [.cells 0 xc];have hf3:=Yi hf2 [.cells 0 xc];have hx3:=vck τ2 xc []
 clear hf2 hL2
 generalize τ2.length=k3 at *
 generalize τ2++[.cells 0 xc]=τ3 at *
 subst hxc
 refine zd fun Y hY=>?_
 refine rg U [3,4,5,8,9,12,13,16,18,19,33,34,35,62] fun K J=>?_
 simp only[go_sem,qh,qd,qc,qe,qf,qg,reduceIte,reduceCtorEq];apply J
 clear J K
 have h23:=hL3.h2;have h24:=ze.at_set (ver':=0) (cs':=[.int .i64 0,.int .i64 0,.str [],.ds true [] 0 true,.ds true [] 0 true]) h23;refine yv rfl (fun hc5=>?_) (fun hc5=>?_)
 · rw[if_neg hc5] at h;obtain rfl:=Option.some.inj h
   refine rg U [8,9] fun K J=>?_
   simp only[go_sem,qh,qd,qc,qe,qf,qg,reduceIte,reduceCtorEq,h23,qp,qB,uK,uV];apply J
   clear J K
   refine yg ?_;simp only[vbi,ZA,yQ,y5,xN,exists_eq_left',go_sem,qh,qd,qc,qe,qf,qg,reduceIte,reduceCtorEq,h24,qp,qB];exact vb1
 rw[if_pos hc5] at h;obtain⟨pp,hp,h⟩:=bind_some h;refine zm ?_;refine hY _ _ ?_
 clear hY Y
 refine rc [3,4,5,8,9,12,13,33,34,35,68] fun K J=>?_
 refine xE U 2 ?_;simp only[go_sem,qh,qd,qc,qe,qf,qg,reduceIte,reduceCtorEq,hf3,hx3,qp,qB];refine ZL rfl rfl rfl (put_at hL3.rep f.1 x.1 (es':=pp.1) (b:=pp.2) hp) ?_;rintro _ τ4 ⟨ever',L',rfl,hR4,he4,hid4,hle4,hfr4⟩;refine xE U 1 ?_;simp only[go_sem,qh,qd,qc,qe,qf,qg,reduceIte,reduceCtorEq];refine zz ?_;simp only[zH,ye,yx,Zn,upd,qc,reduceIte,xh,xO];apply J
 clear J K
 have hkeep:∀ {j v:Nat} {cs:List AV},ze.at τ3 j v=some cs→j<6→j≠3→j≠4→ze.at τ4 j v=some cs:=by
  intro j v cs hj h6 h3 h4
  have hlt:=ze.at_lt hj;unfold ze.at at hj ⊢;rw[hfr4 j hlt (fun hm=>?_)]
  · exact hj
  simp only[q9,uH] at hm
  rcases hm with h|h|⟨z,hz,h⟩
  · exact h3 h
  · exact h4 h
  have:=hL3.ids z hz; omega
 have h45:6≤τ3.length:=by
  have:=ze.at_lt hL3.h5; omega
 have hL4:Loop τ4 a0 a1 ever' rver L' rest:=by
  refine⟨hkeep hL3.h0 (by decide) (by decide) (by decide),hkeep hL3.h1 (by decide) (by decide) (by decide),hkeep hL3.h2 (by decide) (by decide) (by decide),hR4,hkeep hL3.h5 (by decide) (by decide) (by decide),fun z hz=>?_⟩
  rcases hid4 z hz with h|h
  · obtain⟨w,hw,h'⟩:=uH.1 h
    have:=hL3.ids w hw; omega
  omega
 have h43:=hL4.h2;have h44:=ze.at_set (ver':=0) (cs':=[.int .i64 0,.int .i64 0,.str [],.ds true [] 0 true,.ds true [] 0 true]) h43;refine zY (b := !pp.2) rfl (fun hc6=>?_) (fun hc6=>?_)
 · have hc7:pp.2=false:=by simpa using hc6
   rw[Zc hc7] at h;obtain rfl:=Option.some.inj h
   refine rg U [8,9] fun K J=>?_
   simp only[go_sem,qh,qd,qc,qe,qf,qg,reduceIte,reduceCtorEq,h43,qp,qB,uK,uV];apply J
   clear J K
   refine yg ?_;simp only[vbi,ZA,yQ,y5,xN,exists_eq_left',go_sem,qh,qd,qc,qe,qf,qg,reduceIte,reduceCtorEq,h44,qp,qB];exact vb1
 have hc7:pp.2=true:=by simpa using hc6
 rw[if_pos hc7] at h;refine zm ?_;simp only[Y7,zH];exact fin _ _ L' rest ever' rver ⟨rfl,rfl,rfl,rfl,rfl,rfl,rfl,rfl,rfl,rfl,trivial⟩ hL4 (by rw[he4]; exact h)
end
section
set_option maxRecDepth 8000
open Go.RowKit AM
mutual
def ya : Nat→zB→z8→List UInt8→Int→Option (zp×Int)
 |0,_,_,_,_=>none
 |k+1,a0,a1,a2,a3=>ya.body (ya k) (yy k) a0 a1 a2 a3
def yy : Nat→zB→YH→yC→Int→Option (zp×Int)
 |0,_,_,_,_=>none
 |k+1,a0,a1,a2,a3=>yy.body (ya k) (yy k) a0 a1 a2 a3
end
theorem ya.all (k:Nat):
 (∀ (a0:zB) (a1:z8) (a2:List UInt8) (a3:Int) (r:zp×Int),ya k a0 a1 a2 a3=some r→ACalls qi 149 [.agg (za a0),.agg (zh a1),.ds true (qb Ym a2) (qa a2) false,.int .i64 a3] [] (fun r' _=>r'=.tup [.agg (zb r.1),.int .i64 r.2]))∧
 (∀ (a0:zB) (a1:YH) (a2:yC) (a3:Int) (r:zp×Int),yy k a0 a1 a2 a3=some r→ACalls qi 194 [.agg (za a0),.agg (xp a1),.agg (zy a2),.int .i64 a3] [] (fun r' _=>r'=.tup [.agg (zb r.1),.int .i64 r.2])):=by
 induction k with
 |zero=>exact⟨fun a0 a1 a2 a3 r h=>(by simp only[ya] at h; cases h),fun a0 a1 a2 a3 r h=>(by simp only[yy] at h; cases h)⟩
 |succ k ih=>
  exact⟨fun a0 a1 a2 a3 r h=>ya.step (ya k) (yy k) ih.2 a0 a1 a2 a3 r (by simpa only [ya] using h),
   fun a0 a1 a2 a3 r h=>yy.step (ya k) (yy k) ih.1 ih.2 a0 a1 a2 a3 r (by simpa only [yy] using h)⟩
theorem ya.ok (k:Nat)(a0:zB)(a1:z8)(a2:List UInt8)(a3:Int)(r:zp×Int)(h:ya k a0 a1 a2 a3=some r):ACalls qi 149 [.agg (za a0),.agg (zh a1),.ds true (qb Ym a2) (qa a2) false,.int .i64 a3] [] (fun r' _=>r'=.tup [.agg (zb r.1),.int .i64 r.2]):=
 (ya.all k).1 a0 a1 a2 a3 r h
theorem ya.ev (k:Nat)(a0:zB)(a1:z8)(a2:List UInt8)(a3:Int)(r:zp×Int)(h:ya k a0 a1 a2 a3=some r)(σ:ze):ACalls qi 149 [.agg (za a0),.agg (zh a1),.ds true (qb Ym a2) (qa a2) false,.int .i64 a3] σ (fun r' σ'=>r'=.tup [.agg (zb r.1),.int .i64 r.2]∧σ'=σ):=
 (ya.ok k a0 a1 a2 a3 r h).pureAt (by simp only[AV.canon,xl,xv,qN,qo,uh,qm,qv,qt,uF,uC,zb,zh,za]) (by simp only[AV.canon,xl,xv,qN,qo,uh,qm,qv,qt,uF,uC,zb,zf]) σ
end
section
namespace AM
open Go.RowKit
variable {Φ:Ctx}
end AM
end
section
set_option maxRecDepth 8000
open Go.RowKit AM
section
variable {Φ:Ctx} {P:Program} {n k:Nat} {Q:Exit→Fr→ze→Prop} {F:Fr} {σ:ze}
theorem AM.opsWp_inil {T:TT}(hT:TOK P T){ops:Array Oper}{o:Oper}{l:List Oper}{x:Operand}{t yt:TypeId}{i:TI}{e:Array (String×TypeId)}(hg:Yo ops F o=some true)(ho:o.op=.binOp .eql t x (.const .nilIface) yt)(hi:T t=some i)(hd:i.desc=.interface e)
 (hs:ev F x=.nilI) (hdst:X4 n o.dst=true) (h:Zg Φ P n k ops l Q (Zn F o.dst (.bool true)) σ):Zg Φ P n k ops (o::l) Q F σ:=by
 intro E a hk hS hF
 unfold wpListIn;rw[if_pos (wY hF hg)];have hx:=hF.ev x;rw[hs] at hx
 have hv:a.eval x=.nilIface:=by
  generalize a.eval x=v at hx
  cases hx; rfl
 refine vaB (fun c hc=>by rw[ho] at hc; cases hc) ?_
 have hrun:(execOp a.eval o).run P E.w=.ok (.value (.bool true)) E.w:=by
  obtain⟨dst,op,ty,pos,after,guard⟩:=o;simp only at ho;subst ho
  show (do pure (.value (← (do eqGuard .eql t x (.const .nilIface) (a.eval x) .nilIface; Go.binOp .eql t (a.eval x) .nilIface:Sem Value))):Sem Next).run P E.w=_
  have h3:∀ d,(Op.equalIn (d+1) t .nilIface .nilIface).run P E.w=.ok true E.w:=by
   intro d
   simp only[Op.equalIn,qy,yk _ (hT _ _ hi),ql,hd]; rfl
  have h2:(Op.equal t .nilIface .nilIface).run P E.w=.ok true E.w:=h3 9999
  have h1:(do eqGuard .eql t x (.const .nilIface) .nilIface .nilIface; Go.binOp .eql t .nilIface .nilIface:Sem Value).run P E.w=.ok (.bool true) E.w:=by
   have hgd:(eqGuard .eql t x (.const .nilIface) .nilIface .nilIface).run P E.w=.ok () E.w:=by
    unfold eqGuard
    cases x<;>rfl
   rw[qy,hgd,ql];simp only[Go.binOp,qy,h2,ql,qR]
  rw[hv,qy,h1,ql]; rfl
 rw[hrun];exact h E _ hk hS (hF.put (Xt hdst) (.bool true))
end
theorem kind_num (m:Int)(σ:ze):ACalls qi 275 [.int .i64 m] σ (fun r' σ'=>r'=.int .i64 1∧σ'=σ):=by
 refine ACalls.c (x:=.int .i64 1) ?_ σ;refine zx (rs:=[.tmp 2]) U Tryz.func275 rfl Tryz.ntmps275 rfl Tryz.call275 (by simp) ?_;refine zK [(0,.int .i64 m)] ⟨rfl,trivial⟩ ?_
 refine rg U [2] fun K J=>?_
 simp only[go_sem,qh,qd,qc,qe,qf,qg,reduceIte,reduceCtorEq];apply J
 clear J K
 refine rg U [2] fun K J=>?_
 simp only[go_sem,qh,qd,qc,qe,qf,qg,reduceIte,reduceCtorEq];apply J
 clear J K
 refine yg ?_;exact retA
theorem kind_str (m:List UInt8)(σ:ze):ACalls qi 276 [.str m] σ (fun r' σ'=>r'=.int .i64 2∧σ'=σ):=by
 refine ACalls.c (x:=.int .i64 2) ?_ σ;refine zx (rs:=[.tmp 2]) U Tryz.func276 rfl Tryz.ntmps276 rfl Tryz.call276 (by simp) ?_;refine zK [(0,.str m)] ⟨rfl,trivial⟩ ?_
 refine rg U [2] fun K J=>?_
 simp only[go_sem,qh,qd,qc,qe,qf,qg,reduceIte,reduceCtorEq];apply J
 clear J K
 refine rg U [2] fun K J=>?_
 simp only[go_sem,qh,qd,qc,qe,qf,qg,reduceIte,reduceCtorEq];apply J
 clear J K
 refine yg ?_;exact retA
theorem kind_node (m:zZ)(σ:ze):ACalls qi 274 [.dp (zI m) 0] σ (fun r' σ'=>r'=.int .i64 3∧σ'=σ):=by
 refine ACalls.c (x:=.int .i64 3) ?_ σ;refine zx (rs:=[.tmp 2]) U Tryz.func274 rfl Tryz.ntmps274 rfl Tryz.call274 (by simp) ?_;refine zK [(0,.dp (zI m) 0)] ⟨rfl,trivial⟩ ?_
 refine rg U [2] fun K J=>?_
 simp only[go_sem,qh,qd,qc,qe,qf,qg,reduceIte,reduceCtorEq];apply J
 clear J K
 refine rg U [2] fun K J=>?_
 simp only[go_sem,qh,qd,qc,qe,qf,qg,reduceIte,reduceCtorEq];apply J
 clear J K
 refine yg ?_;exact retA
theorem has_num : vcl qi 348 "concordat/value.kind" 275:=by intro v w; kernel_rfl
theorem has_str : vcl qi 349 "concordat/value.kind" 276:=by intro v w; kernel_rfl
theorem has_node : vcl qi 232 "concordat/value.kind" 274:=by intro v w; kernel_rfl
def wQ (a0:zo):Int:=
 match a0 with|.nil=>0|.num _=>1|.str _=>2|.node _ _=>3
theorem wQ.ok (a0:zo)(r:Int)(h:wQ a0=r):ACalls qi 253 [.agg (zi a0)] [] (fun r' _=>r'=.int .i64 r):=by
 refine zx (rs:=[.tmp 2]) U Tryz.func253 rfl Tryz.ntmps253 rfl Tryz.call253 (by simp) ?_;refine zK [(0,.agg (zi a0))] ⟨rfl,trivial⟩ ?_;unfold wQ at h;have f1:=Ye a0;unfold AV.one at f1
 refine rg U [1] fun K J=>?_
 simp only[go_sem,qh,qd,qc,qe,qf,qg,reduceIte,reduceCtorEq,zi,f1];apply J
 clear J K
 rcases a0 with _|n2|s2|⟨e2,r2⟩
 · dsimp only at h
   try simp only[Xp]
   refine zd fun Z hZ=>?_
   refine rc [1,5] fun K J=>?_
   refine xE U 2 ?_;simp only[go_sem,qh,qd,qc,qe,qf,qg,reduceIte,reduceCtorEq];refine opsWp_inil U rfl rfl rfl rfl rfl rfl ?_;refine zz ?_;simp only[zH,ye,yx,Zn,upd,qc,reduceIte,xh,xO];apply J
   clear J K
   refine zS rfl ?_
   refine rg U [2] fun K J=>?_
   simp only[go_sem,qh,qd,qc,qe,qf,qg,reduceIte,reduceCtorEq];apply J
   clear J K
   refine yg ?_;obtain rfl:=h;exact retA
 · dsimp only at h
   try simp only[Xo]
   refine zd fun Z hZ=>?_
   refine rg U [1,5] fun K J=>?_
   simp only[go_sem,qh,qd,qc,qe,qf,qg,reduceIte,reduceCtorEq,Zp];apply J
   clear J K
   refine zQ rfl ?_;refine zm ?_;refine hZ _ _ ?_
   clear hZ Z
   refine rc [2] fun K J=>?_
   refine xE U 2 ?_;simp only[go_sem,qh,qd,qc,qe,qf,qg,reduceIte,reduceCtorEq];refine vbd rfl rfl rfl has_num rfl (kind_num n2 _) ?_;rintro _ _ ⟨rfl,rfl⟩;refine xE U 1 ?_;simp only[go_sem,qh,qd,qc,qe,qf,qg,reduceIte,reduceCtorEq];refine zz ?_;simp only[zH,ye,yx,Zn,upd,qc,reduceIte,xh,xO];apply J
   clear J K
   refine yg ?_;obtain rfl:=h;exact retA
 · dsimp only at h
   try simp only[Xn]
   refine zd fun Z hZ=>?_
   refine rg U [1,5] fun K J=>?_
   simp only[go_sem,qh,qd,qc,qe,qf,qg,reduceIte,reduceCtorEq,Zp];apply J
   clear J K
   refine zQ rfl ?_;refine zm ?_;refine hZ _ _ ?_
   clear hZ Z
   refine rc [2] fun K J=>?_
   refine xE U 2 ?_;simp only[go_sem,qh,qd,qc,qe,qf,qg,reduceIte,reduceCtorEq];refine vbd rfl rfl rfl has_str rfl (kind_str s2 _) ?_;rintro _ _ ⟨rfl,rfl⟩;refine xE U 1 ?_;simp only[go_sem,qh,qd,qc,qe,qf,qg,reduceIte,reduceCtorEq];refine zz ?_;simp only[zH,ye,yx,Zn,upd,qc,reduceIte,xh,xO];apply J
   clear J K
   refine yg ?_;obtain rfl:=h;exact retA
 dsimp only at h
 try simp only[Yz]
 refine zd fun Z hZ=>?_
 refine rg U [1,5] fun K J=>?_
 simp only[go_sem,qh,qd,qc,qe,qf,qg,reduceIte,reduceCtorEq,Zp];apply J
 clear J K
 refine zQ rfl ?_;refine zm ?_;refine hZ _ _ ?_
 clear hZ Z
 refine rc [2] fun K J=>?_
 refine xE U 2 ?_;simp only[go_sem,qh,qd,qc,qe,qf,qg,reduceIte,reduceCtorEq];refine vbd rfl rfl rfl has_node rfl (kind_node ⟨e2,r2⟩ _) ?_;rintro _ _ ⟨rfl,rfl⟩;refine xE U 1 ?_;simp only[go_sem,qh,qd,qc,qe,qf,qg,reduceIte,reduceCtorEq];refine zz ?_;simp only[zH,ye,yx,Zn,upd,qc,reduceIte,xh,xO];apply J
 clear J K
 refine yg ?_;obtain rfl:=h;exact retA
theorem wQ.ev (a0:zo)(r:Int)(h:wQ a0=r)(σ:ze):ACalls qi 253 [.agg (zi a0)] σ (fun r' σ'=>r'=.int .i64 r∧σ'=σ):=
 (wQ.ok a0 r h).c σ
theorem asNode_nil (σ:ze):ACalls qi 254 [.agg ([.nilI])] σ (fun r' σ'=>r'=.tup [.nilp,.bool false]∧σ'=σ):=by
 refine ACalls.c (x:=.tup [.nilp,.bool false]) ?_ σ;refine zx (rs:=[.tmp 2,.tmp 3]) U Tryz.func254 rfl Tryz.ntmps254 rfl Tryz.call254 (by simp) ?_;refine zK [(0,.agg ([.nilI]))] ⟨rfl,trivial⟩ ?_
 refine rg U [1] fun K J=>?_
 simp only[go_sem,qh,qd,qc,qe,qf,qg,reduceIte,reduceCtorEq];apply J
 clear J K
 refine rg U [4,5] fun K J=>?_
 simp only[go_sem,qh,qd,qc,qe,qf,qg,reduceIte,reduceCtorEq,xA,xC,TypeDesc.isIface];apply J
 clear J K
 refine rg U [2,3] fun K J=>?_
 simp only[go_sem,qh,qd,qc,qe,qf,qg,reduceIte,reduceCtorEq];apply J
 clear J K
 refine yg ?_;exact retA
theorem asNode_num (n:Int)(σ:ze):ACalls qi 254 [.agg ([.ifc 348 (.int .i64 n)])] σ (fun r' σ'=>r'=.tup [.nilp,.bool false]∧σ'=σ):=by
 refine ACalls.c (x:=.tup [.nilp,.bool false]) ?_ σ;refine zx (rs:=[.tmp 2,.tmp 3]) U Tryz.func254 rfl Tryz.ntmps254 rfl Tryz.call254 (by simp) ?_;refine zK [(0,.agg ([.ifc 348 (.int .i64 n)]))] ⟨rfl,trivial⟩ ?_
 refine rg U [1] fun K J=>?_
 simp only[go_sem,qh,qd,qc,qe,qf,qg,reduceIte,reduceCtorEq];apply J
 clear J K
 refine rg U [4,5] fun K J=>?_
 simp only[go_sem,qh,qd,qc,qe,qf,qg,reduceIte,reduceCtorEq,xA,xC,TypeDesc.isIface];apply J
 clear J K
 refine rg U [2,3] fun K J=>?_
 simp only[go_sem,qh,qd,qc,qe,qf,qg,reduceIte,reduceCtorEq];apply J
 clear J K
 refine yg ?_;exact retA
theorem asNode_str (s:List UInt8)(σ:ze):ACalls qi 254 [.agg ([.ifc 349 (.str s)])] σ (fun r' σ'=>r'=.tup [.nilp,.bool false]∧σ'=σ):=by
 refine ACalls.c (x:=.tup [.nilp,.bool false]) ?_ σ;refine zx (rs:=[.tmp 2,.tmp 3]) U Tryz.func254 rfl Tryz.ntmps254 rfl Tryz.call254 (by simp) ?_;refine zK [(0,.agg ([.ifc 349 (.str s)]))] ⟨rfl,trivial⟩ ?_
 refine rg U [1] fun K J=>?_
 simp only[go_sem,qh,qd,qc,qe,qf,qg,reduceIte,reduceCtorEq];apply J
 clear J K
 refine rg U [4,5] fun K J=>?_
 simp only[go_sem,qh,qd,qc,qe,qf,qg,reduceIte,reduceCtorEq,xA,xC,TypeDesc.isIface];apply J
 clear J K
 refine rg U [2,3] fun K J=>?_
 simp only[go_sem,qh,qd,qc,qe,qf,qg,reduceIte,reduceCtorEq];apply J
 clear J K
 refine yg ?_;exact retA
theorem asNode_node (e:List yF)(q:List yC)(σ:ze):ACalls qi 254 [.agg ([.ifc 232 (.dp [.ds true (qb yV e) (qa e) false,.ds true (qb zy q) (qa q) false] 0)])] σ (fun r' σ'=>r'=.tup [.dp (zI ⟨e,q⟩) 0,.bool true]∧σ'=σ):=by
 refine ACalls.c (x:=.tup [.dp (zI ⟨e,q⟩) 0,.bool true]) ?_ σ;refine zx (rs:=[.tmp 2,.tmp 3]) U Tryz.func254 rfl Tryz.ntmps254 rfl Tryz.call254 (by simp) ?_;refine zK [(0,.agg ([.ifc 232 (.dp [.ds true (qb yV e) (qa e) false,.ds true (qb zy q) (qa q) false] 0)]))] ⟨rfl,trivial⟩ ?_
 refine rg U [1] fun K J=>?_
 simp only[go_sem,qh,qd,qc,qe,qf,qg,reduceIte,reduceCtorEq];apply J
 clear J K
 refine rg U [4,5] fun K J=>?_
 simp only[go_sem,qh,qd,qc,qe,qf,qg,reduceIte,reduceCtorEq,xA,xC,TypeDesc.isIface];apply J
 clear J K
 refine rg U [2,3] fun K J=>?_
 simp only[go_sem,qh,qd,qc,qe,qf,qg,reduceIte,reduceCtorEq];apply J
 clear J K
 refine yg ?_;exact retA
end
section
namespace AM
open Go.RowKit
def AYield (P:Program)(l:Nat)(args:List AV)(σ:ze)(R:AV→ze→Prop):Prop:=
 ∀ E (vs:Array Value),SR E σ→X1 E args vs.toList→∃ fn tmps assign body,(Instr.yield l vs).run P E.w=.ok (.round l fn tmps assign body) E.w∧
  RoundIn (fen own0) 0 P l fn tmps assign body E.w fun e w=>∃ v r σ' E',e=.returned v∧E'.w=w∧VR E' r v∧SR E' σ'∧Ext E E'∧R r σ'
def calleeY (F:Fr)(o:Oper):Option (Nat×List AV):=
 match o.op with
 |.call { callee:=.value f,args:=args,argTypes:=_ }=>match ev F f with
  |.fn (.yield l) [] []=>some (l,args.toList.map (ev F))
  |_=>none
 |_=>none
section
variable {Φ:Ctx} {P:Program} {n k:Nat} {Q:Exit→Fr→ze→Prop} {F:Fr} {σ:ze}
theorem opsWp_yield {ops:Array Oper}{o:Oper}{rest:List Oper}{l:Nat}{args:List AV}{K:AV→ze→Prop}(hg:Yo ops F o=some true)(hc:calleeY F o=some (l,args))(hd:X4 n o.dst=true)
 (h:AYield P l args σ K) (kk:∀ r σ',K r σ'→Zg Φ P n k ops rest Q (Zn F o.dst r) σ'):Zg Φ P n k ops (o::rest) Q F σ:=by
 intro E a hk hS hF
 unfold wpListIn;rw[if_pos (wY hF hg)];obtain⟨dst,op,ty,pos,after,guard⟩:=o;unfold calleeY at hc;simp only at hc
 split at hc
 · rename_i fo ao ats
   split at hc
   · rename_i l' hfo
     cases hc;have hv:=hF.ev fo;rw[hfo] at hv
     generalize hfv:a.eval fo=fv at hv
     cases hv with|fn _ _ _ vf vc h1 h2 h3 h4=>
     have e1:vf = #[]:=Array.eq_empty_of_size_eq_zero h1;have e2:vc = #[]:=Array.eq_empty_of_size_eq_zero h2
     subst e1; subst e2
     obtain⟨fn,tmps,assign,body,hy,hR⟩:=h E (ao.map a.eval) hS (vbK (fun x=>hF.ev x) ao);refine vaB (fun c hc=>by cases hc) ?_
     have hrun:(execOp a.eval { dst:=dst,op:=.call { callee:=.value fo,args:=ao,argTypes:=ats },type:=ty,pos:=pos,after:=after,guard:=guard }).run P E.w=.ok (.round l fn tmps assign body) E.w:=by
      simp only[execOp,resolve,hfv,Deferred.ofValue,qy,qR,ql,invoke]
      have e:(#[]:Array Value)++Array.map a.eval ao=Array.map a.eval ao:=by simp
      rw[e]; exact hy
     rw[hrun];refine⟨(fun hh=>by cases hh),(show RoundIn (fen own0) 0 P l fn tmps assign body E.w _ from hR.mono ?_)⟩;rintro e w' ⟨v,r,σ',E',rfl,rfl,h5,h6,h7,h8⟩;exact Y9 (h7.mono hk) rest _ E'.w (kk r σ' h8 E' _ (uB hk h7.n) h6 ((hF.ext h7).put (Xt hd) h5))
   cases hc
 cases hc
end
def vdg (F:Fr):List Tmp→List AV→Fr
 |p::ps,x::xs=>vdg (upd F p x) ps xs
 |_,_=>F
theorem setArgs_R {E:Env}:∀ (ps:List Tmp) (xs:List AV) (vs:List Value) (F:Fr) (tmps:Array Value),xs.length=ps.length→X1 E xs vs→(∀ p∈ps,p<tmps.size)→(∀ t,VR E (F t) (tmps.getD t undef))→
 let T:=(ps.zip vs).foldl (fun (tmps:Array Value) (p:Tmp×Value)=>tmps.setIfInBounds p.1 p.2) tmps
 T.size=tmps.size∧∀ t,VR E (vdg F ps xs t) (T.getD t undef)
 |[],_,_,_,_,_,_,_,h=>by simpa [vdg] using h
 |p::ps,[],_,_,_,hl,_,_,_=>by simp at hl
 |p::ps,x::xs,[],_,_,_,hv,_,_=>by have:=hv.1; simp at this
 |p::ps,x::xs,v::vs,F,tmps,hl,hv,hp,h=>by
  have hx:VR E x v:=by have:=hv.2 0 (by simp); simpa [gc] using this
  have hlt:=hp p (qP ..)
  have:=setArgs_R (E:=E) ps xs vs (upd F p x) (tmps.setIfInBounds p v) (by simpa using hl) ⟨by have:=hv.1; simpa using this,fun i hi=>by have:=hv.2 (i+1) (by simpa using hi); simpa [gc] using this⟩
   (fun q hq=>by simpa using hp q (qL _ hq)) (fun t=>by
    by_cases e:t=p
    · subst e;simp only[upd,if_true]
      have:(tmps.setIfInBounds t v).getD t undef=v:=by simp[hlt]
      rw[this]; exact hx
    simp only[upd,e,if_false]
    have:(tmps.setIfInBounds p v).getD t undef=tmps.getD t undef:=by simp[uS (show p≠t from fun h=>e h.symm)]
    rw[this]; exact h t)
  simp only[List.zip_cons_cons,List.foldl_cons,vdg];refine⟨this.1.trans (by simp),this.2⟩
def roundQ (l i:Nat)(R:AV→ze→Prop):Exit→Fr→ze→Prop
 |.normal,_,σ=>∃ r tm,σ[i]?=some (.loop l r tm)∧R (.bool true) (σ.set i (.loop l { r with state:=.ready,pending:=none } tm))
 |.ret,_,σ=>∃ r tm,σ[i]?=some (.loop l r tm)∧R (.bool false) (σ.set i (.loop l { r with state:=.done,pending:=some .ret } tm))
 |.exit id,_,σ=>∃ r tm,σ[i]?=some (.loop l r tm)∧R (.bool false) (σ.set i (.loop l { r with state:=.done,pending:=some (.exit id) } tm))
 |_,_,_=>False
theorem shape_loop {w:World}{b:Nat}{r:_root_.Go.Loop}(h:w.heap[b]?=some (.loop r)):w.shape? b=none:=by simp only[World.shape?,h]
theorem shape_mark {w:World}{b:Nat}{r:Option (List Deferred)}(h:w.heap[b]?=some (.deferred r)):w.shape? b=none:=by simp only[World.shape?,h]
theorem SR.setLoop {E:Env}{σ:ze}(hS:SR E σ){i l:Nat}{r r':_root_.Go.Loop}{tm:List AV}(hi:σ[i]?=some (.loop l r tm))(ht:r'.tmps=r.tmps):
 SR (E.setB l (.loop r')) (σ.set i (.loop l r' tm))∧Ext E (E.setB l (.loop r'))∧(E.setB l (.loop r')).w=E.w.putObj l (.loop r')∧E.w.heap[l]?=some (.loop r):=by
 have h:=hS.obj i;rw[hi] at h;obtain⟨h1,h2,h3,h4⟩:=h;have hlt:i<σ.length:=(qQ.1 hi).1
 obtain⟨a,b⟩:=hS.setB (x:=.loop l r' tm) h1 (shape_loop h2) (o:=.loop r') hlt fun hx=>⟨h1,vae (hS.blk _ _ _ h1).1,by rw[ht]; exact h3,fun j hj=>by rw[ht]; exact (h4 j hj).ext hx⟩
 exact⟨a,b,rfl,h2⟩
theorem ayield {P:Program}{l i:Nat}{r:_root_.Go.Loop}{tm:List AV}{σ:ze}{ps:List Tmp}{assign body:Code}{args:List AV}{R:AV→ze→Prop}(hi:σ[i]?=some (.loop l r tm))(hst:r.state=.ready)(hps:r.params.toList=ps)
 (hpn:∀ p∈ps,p<tm.length) (ha:r.assign=assign) (hb:r.body=body) (hargs:args.length=ps.length)
 (h:awp ⟨some l,[]⟩ P tm.length σ.length assign (vac (fun F σ1=>∃ r1 tm1,σ1[i]?=some (.loop l r1 tm1)∧r1.state=.ready∧
  awp ⟨some l,[]⟩ P tm.length σ.length body (roundQ l i R) F (σ1.set i (.loop l { r1 with state:=.busy } tm1))) fun _ _ _=>False) (vdg (fr tm) ps args) σ):AYield P l args σ R:=by
 intro E vs hS hl
 have ho:=hS.obj i;rw[hi] at ho;obtain⟨h1,h2,h3,h4⟩:=ho
 have hvl:vs.size=args.length:=by simpa using hl.1
 have hsz:vs.size=r.params.size:=by rw[hvl,hargs,← hps]; simp
 have hT:∀ t,VR E (fr tm t) (r.tmps.getD t undef):=by
  intro t
  by_cases ht:t<tm.length
  · exact h4 t ht
  unfold fr
  rw[qC,uw (u7 ht)]; exact .u _
 obtain⟨g1,g2⟩:=setArgs_R ps args vs.toList (fr tm) r.tmps hargs hl (fun p hp=>by rw[h3]; exact hpn p hp) hT
 have hfold:(r.params.zip vs).foldl (fun tmps (t,a)=>tmps.setIfInBounds t a) r.tmps=(ps.zip vs.toList).foldl (fun (tmps:Array Value) (p:Tmp×Value)=>tmps.setIfInBounds p.1 p.2) r.tmps:=by
  rw[← Array.foldl_toList,Array.toList_zip,hps]
 refine⟨_,_,_,_,run_yield h2 hsz,?_⟩;rw[hfold,ha,hb];refine roundIn_of_wpIn (F:=fen own0) trivial ?_
 show assign.wpIn (fen ⟨some l,[]⟩) 0 P _ _ E.w
 refine wpIn_mono (h E _ (by rw[hS.len]; exact qx _) hS ⟨g1.trans h3,rfl,g2⟩) ?_;rintro e a1 w1 ⟨E1,F1,σ1,rfl,s2,s3,s4,s5⟩
 cases e with
 |normal=>
  obtain⟨r1,tm1,t1,t2,t3⟩:=s5;obtain⟨u1,u2,u3,u4⟩:=s2.setLoop (r' := { r1 with state:=.busy }) t1 rfl;refine⟨_,run_beginRound u4 t2,?_⟩;rw[← u3]
  show body.wpIn (fen ⟨some l,[]⟩) 0 P _ _ _
  refine wpIn_mono (t3 _ a1 (uB s4.n u2.n) u1 (s3.ext u2)) ?_;rintro e a2 w2 ⟨E2,F2,σ2,rfl,q2,q3,q4,q5⟩
  have fin:∀ (r2:_root_.Go.Loop) (tm2:List AV) (j:Option Code),σ2[i]?=some (.loop l r2 tm2)→R (.bool j.isNone) (σ2.set i (.loop l { r2 with state:=if j.isNone then .ready else .done,pending:=j } tm2))→
   ∃ v w',(Instr.endRound l j).run P E2.w=.ok v w'∧∃ v' r' σ' E',Ending.returned v=.returned v'∧E'.w=w'∧VR E' r' v'∧SR E' σ'∧Ext E E'∧R r' σ':=by
   intro r2 tm2 j v1 v2
   obtain⟨x1,x2,x3,x4⟩:=q2.setLoop (r' := { r2 with state:=if j.isNone then .ready else .done,pending:=j }) v1 rfl;refine⟨_,_,run_endRound j x4,_,.bool j.isNone,_,_,rfl,x3,.bool _,x1,?_,v2⟩
   have e0:XU E.n E E1:=by rw[← hS.len]; exact s4
   have e1:XU E.n E _:=e0.trans (u2.mono e0.n)
   have q4':XU E.n (E1.setB l (.loop { r1 with state:=.busy })) E2:=by rw[← hS.len]; exact q4
   have e2:=e1.trans q4';exact e2.trans (x2.mono e2.n)
  cases e with
  |normal=>obtain⟨r2,tm2,v1,v2⟩:=q5; exact fin r2 tm2 none v1 v2
  |ret=>obtain⟨r2,tm2,v1,v2⟩:=q5; exact fin r2 tm2 (some .ret) v1 v2
  |exit id=>obtain⟨r2,tm2,v1,v2⟩:=q5; exact fin r2 tm2 (some (.exit id)) v1 v2
  |goto t=>exact q5.elim
  |panic c=>exact q5.elim
  |outgrown=>exact q5.elim
 |ret=>exact s5.elim
 |exit i=>exact s5.elim
 |goto l=>exact s5.elim
 |panic c=>exact s5.elim
 |outgrown=>exact s5.elim
def markOf (b:Nat):Deferred := { target:=.collected b,args := #[] }
abbrev mctx (b:Nat):Ctx:=⟨none,[markOf b]⟩
def slots (F:Fr)(n:Nat):List AV:=(uJ n).map F
theorem slots_get {F:Fr}{n t:Nat}(h:t<n):gc (slots F n) t=F t:=by
 simp[gc,slots,qC,h]
def afterR (P:Program)(n k i b l:Nat)(Q:Exit→Fr→ze→Prop)(F:Fr)(σ:ze):Prop:=
 ∃ r tm,σ[i]?=some (.loop l r tm)∧r.state≠.busy∧match r.pending with
  |none=>Q .normal F (σ.set i (.loop l { r with state:=.exhausted } tm))
  |some c=>awp (mctx b) P n k c Q F (σ.set i (.loop l { r with state:=.exhausted } tm))
theorem range_wp {P:Program}{n k:Nat}{F:Fr}{σ:ze}{g:Operand}{ps:Array Tmp}{assign body:Code}{gf:FuncId}{cap:List AV}{Q:Nat→Exit→Fr→ze→Prop}(hk:k≤σ.length)(hg:ev F g=.fn (.func gf) [] cap)
 (hcall:∀ b l (r:_root_.Go.Loop),r.state=.ready→r.pending=none→r.params=ps→r.assign=assign→r.body=body→
  ACalls P gf (.fn (.yield l) [] []::cap) (σ++[.mark b]++[.loop l r (slots F n)]) fun _ σ'=>afterR P n k (σ.length+1) b l (Q b) F σ')
 {E:Env} {a:Act} (hS:SR E σ) (hF:FR own0 E n F a):
 (Code.rangeFunc g ps assign body).wpIn (fen own0) 0 P (fun e a' w'=>∃ b,post (mctx b) n k (Q b) E e a' w') a E.w:=by
 refine wpIn_rangeFunc fun fn _=>?_
 obtain⟨hS1,hx1⟩:=hS.new (XB.alloc E.w (.deferred (some []))) (ob:=some E.w.heap.size) (fun b hb=>by cases hb; simp) (o:=.mark E.w.heap.size) ⟨by simp[Env.new],xK _ _⟩;have hF1:=hF.ext hx1
 generalize hE1:E.new (E.w.alloc (.deferred (some []))) (some E.w.heap.size)=E1 at hS1 hx1 hF1
 have hw1:E1.w=E.w.alloc (.deferred (some [])):=by rw[← hE1]; rfl
 have hsz:E1.w.heap.size=E.w.heap.size+1:=by rw[hw1]; simp
 obtain⟨rec,hrec⟩:∃ rec:_root_.Go.Loop,rec = { state:=.ready,pending:=none,fn:=fn,tmps:=a.tmps,params:=ps,assign:=assign,body:=body,defers:=E.w.heap.size }:=⟨_,rfl⟩
 obtain⟨hS2,hx2⟩:=hS1.new (XB.alloc E1.w (.loop rec)) (ob:=some E1.w.heap.size) (fun b hb=>by cases hb; simp) (o:=.loop E1.w.heap.size rec (slots F n)) ⟨by simp[Env.new],xK _ _,by rw[hrec]; simp[slots,hF.size],fun i hi=>by
  have hrt:rec.tmps=a.tmps:=by rw[hrec]
  rw[slots_get (by simpa [slots] using hi),hrt]
  exact (hF1.tmps i).ext (Ext.new hS1.stb (XB.alloc E1.w (.loop rec)) (some E1.w.heap.size) fun b hb=>by cases hb; simp)⟩
 have hF2:=hF1.ext hx2
 generalize hE2:E1.new (E1.w.alloc (.loop rec)) (some E1.w.heap.size)=E2 at hS2 hx2 hF2
 have hw2:E2.w=(E.w.alloc (.deferred (some []))).alloc (.loop rec):=by rw[← hE2]; show E1.w.alloc _=_; rw[hw1]
 have hv:=hF2.ev g;rw[hg] at hv
 generalize hfv:a.eval g=fv at hv
 cases hv with|fn _ _ _ vf vc h1 h2 h3 h4=>
 have e1:vf = #[]:=Array.eq_empty_of_size_eq_zero h1;subst e1;have hc:=hcall E.w.heap.size (E.w.heap.size+1) rec (by rw[hrec]) (by rw[hrec]) (by rw[hrec]) (by rw[hrec]) (by rw[hrec]);rw[hsz] at hS2
 have hargs:X1 E2 (.fn (.yield (E.w.heap.size+1)) [] []::cap) (#[Value.func (.yield (E.w.heap.size+1)) #[] #[]]++vc).toList:=by
  have:=Xy (l:=[AV.fn (.yield (E.w.heap.size+1)) [] []]) (vs := #[Value.func (.yield (E.w.heap.size+1)) #[] #[]]) (vbp rfl fun i hi=>by
   have:i=0:=by simp at hi; omega
   subst this
   exact .fn _ _ _ #[] #[] rfl rfl (fun i h=>absurd h (by simp)) (fun i h=>absurd h (by simp))) (vbp (E:=E2) h2 h4)
  exact this
 refine⟨E.w.heap.size+1,[markOf E.w.heap.size],E2.w,{ target:=.fn (.func gf) vc,args := #[Value.func (.yield (E.w.heap.size+1)) #[] #[]] },E2.w,gf,#[Value.func (.yield (E.w.heap.size+1)) #[] #[]]++vc,E2.w,?_,?_,fun _ _=>trivial,?_,(fun hh=>by cases hh),Xk.2 ((hc.2 E2 _ hS2 hargs).mono ?_)⟩
 · rw[hw2,hrec]; exact run_enterLoop_outer fn a.tmps ps assign body
 · simp only[resolve,rangeCall,hfv,Deferred.ofValue,qy,qR,ql]
   simp[Act.eval]
 · exact hc.1 _ _
 rintro e w ⟨v,r,σ',E3,rfl,rfl,h5,h6,h7,r3,tm3,t1,t2,t3⟩;obtain⟨x1,x2,x3,x4⟩:=h6.setLoop (r' := { r3 with state:=.exhausted }) t1 rfl;refine⟨_,_,run_endLoop x4 t2,?_⟩;rw[← x3]
 generalize hr4:({ r3 with state:=.exhausted }:_root_.Go.Loop)=r4 at *
 have hx:XU k E (E3.setB (E.w.heap.size+1) (.loop r4)):=by
  have q1:Ext E _:=((hx1.trans hx2).trans h7).trans x2;exact q1.mono (by rw[← hS.len]; exact hk)
 have hFf:FR (mctx E.w.heap.size) (E3.setB (E.w.heap.size+1) (.loop r4)) n F { a with defers:=[markOf E.w.heap.size]++a.defers }:=by
  have q:=(hF2.ext h7).ext x2;exact⟨q.size,by show _++a.defers=_; rw[hF.defers]; rfl,q.tmps⟩
 split at t3
 · rename_i hp
   rw[hp];exact⟨_,_,_,_,rfl,x1,hFf,hx,t3⟩
 rename_i c hp
 rw[hp]
 show c.wpIn (fen own0) 0 P _ _ _
 exact wpIn_mono (t3 _ { a with defers:=[markOf E.w.heap.size]++a.defers } hx.n x1 hFf) fun e a w hq=>⟨_,Xd hx hq⟩
theorem SR.kill {E:Env}{σ:ze}(hS:SR E σ){i b:Nat}(hi:σ[i]?=some (.mark b))(o:Obj):
 ∃ E',E'.w=E.w.putObj b o∧SR E' (σ.set i .dead)∧Ext E E'∧E.w.heap[b]?=some (.deferred (some [])):=by
 have h:=hS.obj i;rw[hi] at h;obtain⟨h1,h2⟩:=h;have hlt:i<σ.length:=(qQ.1 hi).1;have hb:=hS.blk _ _ _ h1;refine⟨{ w:=E.w.putObj b o,st:=E.st,n:=E.n,loc:=fun j=>if j=i then none else E.loc j,base:=E.base },rfl,?_⟩
 have hx:Ext E { w:=E.w.putObj b o,st:=E.st,n:=E.n,loc:=fun j=>if j=i then none else E.loc j,base:=E.base } := {
  os:=rfl
  tape:=rfl
  output:=rfl
  size:=by simp
  shape:=fun b' m hm=>shape_setB (shape_mark h2) hm
  st:=fun b' h=>⟨h,World.putObj_heap_other (fun e=>hb.2 (e▸h))⟩
  n:=qx _
  loc:=fun j _ v ob h=>by
   by_cases e:j=i
   · have h:(if j=i then none else E.loc j)=_:=h
     rw[if_pos e] at h; cases h
   have h:(if j=i then none else E.loc j)=_:=h
   rw[if_neg e] at h; exact⟨v,ob,h,qx _,fun _=>rfl⟩
  old:=fun b' _ hn=>World.putObj_heap_other (fun e=>by subst e; exact hn _ _ h1)
  own:=fun j v b' h _=>by
   by_cases e:j=i
   · have h:(if j=i then none else E.loc j)=_:=h
     rw[if_pos e] at h; cases h
   have h:(if j=i then none else E.loc j)=_:=h
   rw[if_neg e] at h; exact⟨j,v,h⟩
  stn:=fun _ h=>.inl h }
 have hl:∀ j v b',(if j=i then none else E.loc j)=some (v,some b')→j≠i∧E.loc j=some (v,some b'):=by
  intro j v b' h
  by_cases e:j=i
  · rw[if_pos e] at h; cases h
  rw[if_neg e] at h; exact⟨e,h⟩
 refine⟨⟨by simpa using hS.len,fun j=>?_,fun j j' v v' b' h h'=>hS.inj _ _ _ _ _ (hl _ _ _ h).2 (hl _ _ _ h').2,fun j v b' h=>⟨by simpa using (hS.blk j v b' (hl _ _ _ h).2).1,(hS.blk j v b' (hl _ _ _ h).2).2⟩,fun b' h=>by simpa using hS.stb b' h,hS.glb.mono hx.st,fun b' h=>hS.bas b' (by simpa using h)⟩,hx,h2⟩
 by_cases e:j=i
 · subst e;rw[uv hlt];exact if_pos rfl
 rw[ue (fun h=>e h.symm)]
 exact (hS.obj j).ext hx (.inr rfl) (if_neg e) fun v b' h=>World.putObj_heap_other (fun h'=>e (hS.inj j i v 0 b (h'▸h) h1))
def retM (T:TT)(rs:List ResultVar)(R:AV→ze→Prop)(b:Nat):Exit→Fr→ze→Prop
 |.normal,F,σ|.ret,F,σ=>∃ i l,σ[i]?=some (.mark b)∧yQ T F (σ.set i .dead) rs=some l∧R (xN l) (σ.set i .dead)
 |_,_,_=>False
def seqs : List Code→Code→Code
 |[],c=>c
 |x::l,c=>.seq x (seqs l c)
def awpL (P:Program)(n k:Nat)(K:Fr→ze→Prop):List Code→Fr→ze→Prop
 |[],F,σ=>K F σ
 |c::l,F,σ=>awp own0 P n k c (vac (awpL P n k K l) fun _ _ _=>False) F σ
theorem wpL {P:Program}{n k:Nat}{K:Fr→ze→Prop}{X:Code}{Q:Exit→Act→World→Prop}{E:Env}(hX:∀ E1 F σ a,SR E1 σ→FR own0 E1 n F a→XU k E E1→K F σ→X.wpIn (fen own0) 0 P Q a E1.w):
 ∀ (l:List Code) (E1:Env) (F:Fr) (σ:ze) (a:Act),SR E1 σ→FR own0 E1 n F a→XU k E E1→awpL P n k K l F σ→(seqs l X).wpIn (fen own0) 0 P Q a E1.w
 |[],E1,F,σ,a,h1,h2,h3,h=>hX E1 F σ a h1 h2 h3 h
 |c::l,E1,F,σ,a,h1,h2,h3,h=>by
  refine wpIn_seq (wpIn_mono (h E1 a h3.n h1 h2) ?_);rintro e a w ⟨E2,F2,σ2,rfl,g2,g3,g4,g5⟩
  cases e with
  |normal=>exact wpL hX l E2 F2 σ2 a g2 g3 (h3.trans g4) g5
  |ret=>exact g5.elim
  |exit i=>exact g5.elim
  |goto i=>exact g5.elim
  |panic c=>exact g5.elim
  |outgrown=>exact g5.elim
theorem acalls_range {P:Program}{T:TT}(hT:TOK P T){f:FuncId}{fn:Func}{n bk:Nat}{rs:List ResultVar}{args:List AV}{σ:ze}{R:AV→ze→Prop}{heads:List Code}{hd rest assign body:Code}{g:Operand}{ps:Array Tmp}(hf:P.funcs[f]?=some fn)
 (hb:fn.body=some (seqs heads (.seq (.seq hd (.block bk (.rangeFunc g ps assign body))) rest))) (hn:fn.ntmps=n) (hr:fn.results.toList=rs) (hent:∀ vs w,(callFunc f vs).run P w=.ok (.enter f vs) w) (hl:args.length≤n)
 (h:awpL P n σ.length (fun F σ0=>awp own0 P n σ.length hd (vac (fun F σ1=>σ.length≤σ1.length∧∃ gf cap,ev F g=.fn (.func gf) [] cap∧∀ b l (r:_root_.Go.Loop),r.state=.ready→r.pending=none→r.params=ps→r.assign=assign→r.body=body→
  ACalls P gf (.fn (.yield l) [] []::cap) (σ1++[.mark b]++[.loop l r (slots F n)]) fun _ σ'=>
   afterR P n σ.length (σ1.length+1) b l (vbi bk (vac (fun F τ=>awp (mctx b) P n σ.length rest (retM T rs R b) F τ) (retM T rs R b))) F σ') fun _ _ _=>False) F σ0) heads (fr args) σ):ACalls P f args σ R:=by
 refine⟨hent,fun E vs hS hvs=>?_⟩;obtain⟨v1,v2⟩:=hvs.arr
 have hF:FR own0 E n (fr args) { tmps:=vs++u5 (fn.ntmps-vs.size) undef,defers:=[] }:=by
  refine⟨by simp; omega,rfl,fun t=>?_⟩
  by_cases ht:t<args.length
  · have:(vs++u5 (fn.ntmps-vs.size) undef).getD t undef=vs.getD t undef:=by simp[Array.getElem?_append_left (show t<vs.size by omega)]
    show VR E (fr args t) ((vs++u5 (fn.ntmps-vs.size) undef).getD t undef)
    rw[this]; exact v2 t ht
  unfold fr;rw[qC,uw (u7 ht)];exact .u _
 refine Xk.1 (callsIn_of_wp_marks (F:=fen own0) (n:=0) hf hb trivial (wpL (E:=E) ?_ heads E _ _ _ hS hF (XU.refl E (by rw[hS.len]; exact qx _)) h));rintro E0 F0 σ0 a0 d2 d3 d4 hd;refine wpIn_seq (wpIn_seq (wpIn_mono (hd E0 a0 d4.n d2 d3) ?_));rintro e a w ⟨E1,F1,σ1,rfl,h2,h3,d6,h5⟩;have h4:=d4.trans d6
 cases e with
 |ret=>exact h5.elim
 |exit i=>exact h5.elim
 |goto i=>exact h5.elim
 |panic c=>exact h5.elim
 |outgrown=>exact h5.elim
 |normal=>
  obtain⟨hlen,gf,cap,hg,hcall⟩:=h5
  -- what is behind the function's end
  have fin:∀ b (E2:Env) (F2:Fr) (σ2:ze) (a2:Act) (e:Exit),SR E2 σ2→FR (mctx b) E2 n F2 a2→XU σ.length E1 E2→e=.normal∨e=.ret→retM T rs R b .ret F2 σ2→
   LeavesInM (fen own0) 0 P fn a2.tmps (fun e w=>∃ v r σ' E',e=.returned v∧E'.w=w∧VR E' r v∧SR E' σ'∧Ext E E'∧R r σ') a2.defers .returning E2.w:=by
   intro b E2 F2 σ2 a2 e g1 g2 g3 _ hm
   obtain⟨i,l,m1,m2,m3⟩:=hm;obtain⟨E3,k1,k2,k3,k4⟩:=g1.kill m1 (.deferred none);have hF3:FR (mctx b) E3 n F2 a2:=g2.ext k3;obtain⟨v,r1,r2⟩:=vdi hT k2 hF3 hr m2;rw[g2.defers];refine⟨by simp,.inl ⟨b,E2.w.putObj b (.deferred none),rfl,run_takeDeferred k4,v,by rw[← k1]; exact r1.trans (by rw[k1]),v,_,_,E3,rfl,k1,r2,k2,?_,m3⟩⟩;have q:=h4.trans g3;have q2:=q.trans (k3.mono q.n)
   rw[hS.len] at q2; exact q2
  refine wpIn_block (wpIn_mono (range_wp (Q:=fun b=>vbi bk (vac (fun F σ'=>awp (mctx b) P n σ.length rest (retM T rs R b) F σ') (retM T rs R b))) hlen hg hcall h2 h3) ?_);rintro e a w ⟨b,E2,F2,σ2,rfl,g2,g3,g4,g5⟩
  have norm:awp (mctx b) P n σ.length rest (retM T rs R b) F2 σ2→rest.wpIn (fen own0) 0 P (bodyPostM (fen own0) 0 P fn fun e w=>∃ v r σ' E',e=.returned v∧E'.w=w∧VR E' r v∧SR E' σ'∧Ext E E'∧R r σ') a E2.w:=by
   intro hr
   show rest.wpIn (fen (mctx b)) 0 P _ _ _
   refine wpIn_mono (hr E2 a g4.n g2 g3) ?_;rintro e a3 w ⟨E3,F3,σ3,rfl,q2,q3,q4,q5⟩;have q6:=g4.trans q4
   cases e with
   |normal=>exact fin b E3 F3 σ3 a3 .normal q2 q3 q6 (.inl rfl) q5
   |ret=>exact fin b E3 F3 σ3 a3 .ret q2 q3 q6 (.inr rfl) q5
   |exit i=>exact q5.elim
   |goto i=>exact q5.elim
   |panic c=>exact q5.elim
   |outgrown=>exact q5.elim
  cases e with
  |normal=>exact norm g5
  |exit i=>
   show (if i=bk then _ else _)
   by_cases hi:i=bk
   · rw[if_pos hi];simp only[vbi] at g5;rw[if_pos hi] at g5;exact norm g5
   simp only[vbi] at g5;rw[if_neg hi] at g5;exact g5.elim
  |ret=>exact fin b E2 F2 σ2 a .ret g2 g3 g4 (.inr rfl) g5
  |goto i=>exact g5.elim
  |panic c=>exact g5.elim
  |outgrown=>exact g5.elim
end AM
end
section
set_option maxRecDepth 8000
open Go.RowKit AM
theorem backward (cs:List AV)(n:Nat)(t:Bool)(σ:ze):ACalls qi 131 [.ds true cs n t] σ (fun r σ'=>r=.fn (.func 173) [] [.op σ.length 0 0]∧σ'=σ++[.cells 0 [.ds true cs n t]]):=by
 refine ZO (rs:=[.tmp 2]) U Tryz.func131 rfl Tryz.ntmps131 rfl Tryz.call131 (by simp) ?_;refine zK [(0,.ds true cs n t)] ⟨rfl,trivial⟩ ?_
 refine rg U [1] fun K J=>?_
 simp only[go_sem,qh,qd,qc,qe,qf,qg,reduceIte,reduceCtorEq];apply J
 clear J K
 refine rg U [2] fun K J=>?_
 simp only[go_sem,qh,qd,qc,qe,qf,qg,reduceIte,reduceCtorEq];apply J
 clear J K
 refine yg ?_;exact⟨_,rfl,rfl,rfl⟩
theorem idx_at {α:Type}{A B:List α}{x:α}{i:Int}(h:i=A.length):YI (A++x::B) i=some x:=by
 subst h
 rw[YI,if_pos (by omega),uc,uo (qx _),uQ]; rfl
def inB (body:List UInt8)(n:Int):Bool:=body.any fun b=>decide ((b.toNat:Int)=n)
def Zj (a0:xy)(a1:List UInt8):Option Int:=(grd (qa a1<9223372036854775807)).bind fun _=>some ((a0.fnumbers.reverse.find? (inB a1)).getD 0)
theorem agrees_any (s:Int)(ns:List Int)(body:List UInt8)(c2 c3 c4 c5 c6 c7 c8 c9:AV)(x1 x2 x3 x4 x5:Yq)(hbl:qa body<9223372036854775807):ACalls qi 86 [.op 0 0 0,.str body]
 [.cells 0 [.int .i64 s,.ds true (qb wJ ns) (qa ns) false,c2,c3,c4,c5,c6,c7,c8,c9],x1,x2,x3,x4,x5]
 (fun r σ'=>r=.int .i64 ((ns.reverse.find? (inB body)).getD 0)∧∃ G,σ'=[.cells 0 [.int .i64 s,.ds true (qb wJ ns) (qa ns) false,c2,c3,c4,c5,c6,c7,c8,c9],x1,x2,x3,x4,x5]++G):=by
 refine acalls_range (rs:=[.cell 4 3]) (heads:=[_]) U Tryz.func86 rfl Tryz.ntmps86 rfl Tryz.call86 (by simp) ?_
 show awp _ _ _ _ _ _ _ _
 refine zK [(0,.op 0 0 0),(1,.str body)] ⟨rfl,rfl,trivial⟩ ?_
 refine rgE U [0,3,4] fun K J=>?_
 simp only[go_sem,qh,qd,qc,qe,qf,qg,reduceIte,reduceCtorEq];apply J
 clear J K
 show awp _ _ _ _ _ _ _ _
 refine rcE [3,4,12] fun K J=>?_
 refine xE U 4 ?_;simp only[go_sem,qh,qd,qc,qe,qf,qg,reduceIte,reduceCtorEq];refine ZL rfl rfl rfl (backward (qb wJ ns) (qa ns) false _) ?_;rintro _ _ ⟨rfl,rfl⟩;refine zz ?_;simp only[zH,ye,yx,Zn,upd,qc,reduceIte,xh,xO];apply J
 clear J K
 refine⟨by simp,_,_,rfl,fun b l r hst hp hps ha hb=>?_⟩
 have hr0:({ r with state:=.ready,pending:=none }:_root_.Go.Loop)=r:=by
  cases r; simp only at hst hp; subst hst; subst hp; rfl
 generalize htm:slots _ 28=tm
 have ht3:fr tm 3=.op 6 0 0:=by rw[← htm]; rfl
 have ht4:fr tm 4=.op 7 0 0:=by rw[← htm]; rfl
 have htl:tm.length=28:=by rw[← htm]; rfl
 have round:∀ (i n:Int),AYield qi l [.int .i64 i,.int .i64 n] [.cells 0 [.int .i64 s,.ds true (qb wJ ns) (qa ns) false,c2,c3,c4,c5,c6,c7,c8,c9],x1,x2,x3,x4,x5,.cells 0 [.str body],.cells 0 [.int .i64 0],.cells 0 [.ds true (qb wJ ns) (qa ns) false],.mark b,.loop l r tm]
  (fun v σ'=>(inB body n=false∧v=.bool true∧σ'=[.cells 0 [.int .i64 s,.ds true (qb wJ ns) (qa ns) false,c2,c3,c4,c5,c6,c7,c8,c9],x1,x2,x3,x4,x5,.cells 0 [.str body],.cells 0 [.int .i64 0],.cells 0 [.ds true (qb wJ ns) (qa ns) false],.mark b,.loop l r tm]) ∨
   (inB body n=true∧v=.bool false∧σ'=[.cells 0 [.int .i64 s,.ds true (qb wJ ns) (qa ns) false,c2,c3,c4,c5,c6,c7,c8,c9],x1,x2,x3,x4,x5,.cells 0 [.str body],.cells 0 [.int .i64 n],.cells 0 [.ds true (qb wJ ns) (qa ns) false],.mark b,.loop l { r with state:=.done,pending:=some .ret } tm])):=by
  intro i n
  refine ayield (i:=10) (r:=r) (tm:=tm) rfl hst (ps:=[13,14]) (by rw[hps]) (by rw[htl]; decide) ha hb rfl ?_;rw[htl];refine xB (L:=[(3,.op 6 0 0),(4,.op 7 0 0),(14,.int .i64 n)]) (.same ⟨ht3,ht4,rfl,trivial⟩ rfl) ?_
  refine rgE U [3,4,6] fun K J=>?_
  simp only[go_sem,qh,qd,qc,qe,qf,qg,reduceIte,reduceCtorEq];apply J
  clear J K
  refine⟨r,tm,rfl,hst,?_⟩;refine zq ?_
  refine rg U [3,4,6,16,17] fun K J=>?_
  simp only[go_sem,qh,qd,qc,qe,qf,qg,reduceIte,reduceCtorEq];apply J
  clear J K
  refine zq ?_
  refine yp (fun m L τ=>∃ (p q:List UInt8),m=q.length∧L=[(3,.op 6 0 0),(4,.op 7 0 0),(6,.int .i64 n),(16,.int .i64 (body.length:Int)),(17,.int .i64 (p.length:Int))]∧
   τ=[.cells 0 [.int .i64 s,.ds true (qb wJ ns) (qa ns) false,c2,c3,c4,c5,c6,c7,c8,c9],x1,x2,x3,x4,x5,.cells 0 [.str body],.cells 0 [.int .i64 0],.cells 0 [.ds true (qb wJ ns) (qa ns) false],.mark b,.loop l { r with state:=.busy } tm]∧
   body=p++q∧inB p n=false) _ ⟨[],body,rfl,rfl,rfl,rfl,rfl⟩ .s ?_
  rintro m L τ ⟨p,q,rfl,rfl,rfl,hpq,hnp⟩
  have hlen:body.length=p.length+q.length:=by rw[hpq,qj]
  rcases q with _|⟨y,q⟩
  · have hlt:((p.length:Int)<(body.length:Int))=False:=eq_false (by simp only[qB] at hlen; omega)
    refine rg U [3,4,6,16,17,18] fun K J=>?_
    simp only[go_sem,qh,qd,qc,qe,qf,qg,reduceIte,reduceCtorEq,hlt,decide_false];apply J
    clear J K
    refine zd fun Z hZ=>?_
    refine zQ rfl ?_;refine yl ?_;refine⟨{ r with state:=.busy },tm,rfl,.inl ⟨?_,rfl,?_⟩⟩
    · rw[hpq,qD]; exact hnp
    rw[← hr0]; rfl
  simp only[qp] at hlen;have hlt:((p.length:Int)<(body.length:Int))=True:=eq_true (by omega)
  have hx:YI body (p.length:Int)=some y:=by rw[hpq]; exact idx_at rfl
  have hw:IntKind.i64.wrap ((p.length:Int)+1)=((p.length+1:Nat):Int):=by rw[IntKind.wrap_i64]; omega
  have hy:IntKind.i64.wrap (y.toNat:Int)=(y.toNat:Int):=by have:=y.toNat_lt; rw[IntKind.wrap_i64]; omega
  have f1:=idx_str (T:=tab) (t:=9) rfl rfl hx;have f2:=Zz (T:=tab) (src:=5) (dst:=3) rfl rfl rfl
  refine rg U [3,4,6,16,17,18] fun K J=>?_
  simp only[go_sem,qh,qd,qc,qe,qf,qg,reduceIte,reduceCtorEq,hlt,decide_true];apply J
  clear J K
  refine zd fun Z hZ=>?_
  refine zS rfl ?_;refine zm ?_;refine hZ _ _ ?_
  clear hZ Z
  refine zd fun Z hZ=>?_
  refine zq ?_
  refine rg U [3,4,6,7,16,17] fun K J=>?_
  simp only[go_sem,qh,qd,qc,qe,qf,qg,reduceIte,reduceCtorEq];apply J
  clear J K
  refine rg U [3,4,6,16,17,25] fun K J=>?_
  simp only[go_sem,qh,qd,qc,qe,qf,qg,reduceIte,reduceCtorEq,f1,f2,hy];apply J
  clear J K
  refine yv rfl (fun hc=>?_) (fun hc=>?_)
  · refine rg U [3,4] fun K J=>?_
    simp only[go_sem,qh,qd,qc,qe,qf,qg,reduceIte,reduceCtorEq];apply J
    clear J K
    refine yg ?_;refine⟨{ r with state:=.busy },tm,rfl,.inr ⟨?_,rfl,rfl⟩⟩;rw[hpq,inB,List.any_append,List.any_cons,decide_eq_true hc,uC,qt]
  refine zm ?_;refine hZ _ _ ?_
  clear hZ Z
  refine rgE U [3,4,6,16,17] fun K J=>?_
  simp only[go_sem,qh,qd,qc,qe,qf,qg,reduceIte,reduceCtorEq,hw];apply J
  clear J K
  refine⟨_,_,_,qK q.length,⟨p++[y],q,rfl,rfl,rfl,by rw[hpq,qA]; rfl,?_⟩,.same ⟨rfl,rfl,rfl,rfl,(by show AV.int .i64 _=_; rw[qj]; rfl),trivial⟩ rfl⟩;rw[inB,List.any_append];rw[inB] at hnp
  rw[hnp,List.any_cons,decide_eq_false hc]; rfl
 clear hps ha hb
 show ACalls _ _ _ [.cells 0 [.int .i64 s,.ds true (qb wJ ns) (qa ns) false,c2,c3,c4,c5,c6,c7,c8,c9],x1,x2,x3,x4,x5,.cells 0 [.str body],.cells 0 [.int .i64 0],.cells 0 [.ds true (qb wJ ns) (qa ns) false],.mark b,.loop l r tm] _
 refine ZO (rs:=[]) U Tryz.func173 rfl Tryz.ntmps173 rfl Tryz.call173 (by simp) ?_;refine zK [(0,.fn (.yield l) [] []),(1,.op 8 0 0)] ⟨rfl,rfl,trivial⟩ ?_
 refine awp_deepS 8 rfl fun hdp=>?_
 have hnb:qa ns≤9223372036854775807:=hdp.1.1
 refine rg U [0,1,3] fun K J=>?_
 have hw0:IntKind.i64.wrap ((ns.length:Int)-1)=(ns.length:Int)-1:=by rw[IntKind.wrap_i64]; omega
 simp only[go_sem,qh,qd,qc,qe,qf,qg,reduceIte,reduceCtorEq,hw0];apply J
 clear J K
 refine zq ?_
 refine yp (fun m L τ=>∃ i:Nat,m=i∧i≤ns.length∧L=[(0,.fn (.yield l) [] []),(1,.op 8 0 0),(3,.int .i64 ((i:Int)-1))]∧
  τ=[.cells 0 [.int .i64 s,.ds true (qb wJ ns) (qa ns) false,c2,c3,c4,c5,c6,c7,c8,c9],x1,x2,x3,x4,x5,.cells 0 [.str body],.cells 0 [.int .i64 0],.cells 0 [.ds true (qb wJ ns) (qa ns) false],.mark b,.loop l r tm]∧
  (ns.take i).reverse.find? (inB body)=ns.reverse.find? (inB body)) _ ⟨ns.length,rfl,qx _,rfl,rfl,by rw[uk]⟩ .s ?_
 rintro m L τ ⟨i,rfl,hi,rfl,rfl,hf⟩
 rcases m with _|j
 · have hge:((0:Int)≤((0:Nat):Int)-1)=False:=eq_false (by omega)
   refine zd fun Z hZ=>?_
   refine rg U [0,1,3,8] fun K J=>?_
   simp only[go_sem,qh,qd,qc,qe,qf,qg,reduceIte,reduceCtorEq,hge,decide_false];apply J
   clear J K
   refine zQ rfl ?_;refine yl ?_;refine⟨[],rfl,r,tm,rfl,by rw[hst]; decide,?_⟩;rw[hp]
   show awp (mctx b) _ _ _ _ _ _ _
   refine rg U [4] fun K J=>?_
   simp only[go_sem,qh,qd,qc,qe,qf,qg,reduceIte,reduceCtorEq];apply J
   clear J K
   refine yg ?_;refine⟨9,[.int .i64 0],rfl,rfl,?_,?_⟩
   · rw[← hf]; rfl
   exact⟨_,rfl⟩
 have hge:((0:Int)≤((j+1:Nat):Int)-1)=True:=eq_true (by omega)
 have hj:j<ns.length:=by omega
 have ej:(((j+1:Nat):Int)-1)=(j:Int):=by omega
 have hx:YI ns (j:Int)=some (ns[j]'hj):=by
  rw[YI,if_pos (by omega),uc,qX hj]
 have hw1:IntKind.i64.wrap ((j:Int)-1)=(j:Int)-1:=by rw[IntKind.wrap_i64]; omega
 have htk:(ns.take (j+1)).reverse=ns[j]'hj::(ns.take j).reverse:=by
  rw[List.take_add_one,qX hj]; simp
 rw[htk,List.find?_cons] at hf;rw[ej];rw[ej] at hge
 generalize hv:ns[j]'hj=v at hx hf
 have f1:=E26.idxS hx;have f2:=E26.fldS0 (f:=3) rfl rfl hx
 refine zd fun Z hZ=>?_
 refine rg U [0,1,3,8] fun K J=>?_
 simp only[go_sem,qh,qd,qc,qe,qf,qg,reduceIte,reduceCtorEq,hge,decide_true];apply J
 clear J K
 refine zS rfl ?_;refine zm ?_;refine hZ _ _ ?_
 clear hZ Z
 refine zd fun Z hZ=>?_
 refine zq ?_
 refine rc [0,1,3,18] fun K J=>?_
 refine xE U 6 ?_;simp only[go_sem,qh,qd,qc,qe,qf,qg,reduceIte,reduceCtorEq,f1,f2,wJ];refine opsWp_yield rfl rfl rfl (round j v) ?_;rintro _ _ (⟨h1,rfl,rfl⟩|⟨h1,rfl,rfl⟩)
 · refine xE U 1 ?_;simp only[go_sem,qh,qd,qc,qe,qf,qg,reduceIte,reduceCtorEq];refine zz ?_;simp only[zH,ye,yx,Zn,upd,qc,reduceIte,xh,xO];apply J
   clear J K
   refine zQ rfl ?_;refine zm ?_;refine hZ _ _ ?_
   clear hZ Z
   refine rgE U [0,1,3] fun K J=>?_
   simp only[go_sem,qh,qd,qc,qe,qf,qg,reduceIte,reduceCtorEq,hw1];apply J
   clear J K
   rw[h1] at hf;exact⟨_,_,_,qK j,⟨j,rfl,by omega,rfl,rfl,hf⟩,.s⟩
 refine xE U 1 ?_;simp only[go_sem,qh,qd,qc,qe,qf,qg,reduceIte,reduceCtorEq];refine zz ?_;simp only[zH,ye,yx,Zn,upd,qc,reduceIte,xh,xO];apply J
 clear J K
 refine zS rfl ?_;refine yg ?_;refine⟨[],rfl,{ r with state:=.done,pending:=some .ret },tm,rfl,by simp,?_⟩
 show awp (mctx b) _ _ _ _ _ _ _
 refine yg ?_;refine⟨9,[.int .i64 v],rfl,rfl,?_,?_⟩
 · rw[h1] at hf; rw[← hf]; rfl
 exact⟨_,rfl⟩
end
section
set_option maxRecDepth 8000
open AM
theorem Zj.ok (a0:xy)(a1:List UInt8)(r:Int)(h:Zj a0 a1=some r):ACalls qi 86 [.op 0 0 0,.str a1] [.cells 0 [.int .i64 a0.fself,.ds true (qb wJ a0.fnumbers) (qa a0.fnumbers) false,.ds true (qb za a0.fschemas) (qa a0.fschemas) false,.str a0.fnewest.fName,.ds true (qb zh a0.fnewest.fMessages) (qa a0.fnewest.fMessages) false,.ds true (qb zk a0.fnewest.fEnums) (qa a0.fnewest.fEnums) false,.ds true (qb zr a0.fnewest.fMethods) (qa a0.fnewest.fMethods) false,.ds true (qb yE a0.frows) (qa a0.frows) false,.op 1 0 0,.os true 8 5 (a0.veffects) 0 (qa a0.feffects) false],.cells 0 [.int .i64 a0.fcache.fsize,.os true 2 2 (a0.fcache.vorder) 0 (qa a0.fcache.forder) false,.mp 3,.mp 4],.cells (a0.fcache.vorder) (qb zl a0.fcache.forder),.map (y0 zC zT a0.fcache.freplies.l) (some (a0.fcache.freplies.bs,a0.fcache.freplies.ck)),.map (y0 (AV.int .i64) (AV.int .i64) a0.fcache.flast.l) (some (a0.fcache.flast.bs,a0.fcache.flast.ck)),.cells (a0.veffects) (qb zj a0.feffects)] (fun r' σ'=>r'=.int .i64 r∧σ'=[.cells 0 [.int .i64 a0.fself,.ds true (qb wJ a0.fnumbers) (qa a0.fnumbers) false,.ds true (qb za a0.fschemas) (qa a0.fschemas) false,.str a0.fnewest.fName,.ds true (qb zh a0.fnewest.fMessages) (qa a0.fnewest.fMessages) false,.ds true (qb zk a0.fnewest.fEnums) (qa a0.fnewest.fEnums) false,.ds true (qb zr a0.fnewest.fMethods) (qa a0.fnewest.fMethods) false,.ds true (qb yE a0.frows) (qa a0.frows) false,.op 1 0 0,.os true 8 5 (a0.veffects) 0 (qa a0.feffects) false],.cells 0 [.int .i64 a0.fcache.fsize,.os true 2 2 (a0.fcache.vorder) 0 (qa a0.fcache.forder) false,.mp 3,.mp 4],.cells (a0.fcache.vorder) (qb zl a0.fcache.forder),.map (y0 zC zT a0.fcache.freplies.l) (some (a0.fcache.freplies.bs,a0.fcache.freplies.ck)),.map (y0 (AV.int .i64) (AV.int .i64) a0.fcache.flast.l) (some (a0.fcache.flast.bs,a0.fcache.flast.ck)),.cells (a0.veffects) (qb zj a0.feffects)]):=by
 unfold Zj at h;obtain⟨u,hu,h⟩:=bind_some h;obtain rfl:=Option.some.inj h;refine ACalls.told ((agrees_any _ _ a1 _ _ _ _ _ _ _ _ _ _ _ _ _ (ZP hu)).mono ?_);rintro r σ' ⟨rfl,G,rfl⟩;refine⟨[0,1,2,3,4,5],true,12,by decide,fun id hid=>?_,rfl,rfl,?_⟩
 · simp only[q9,List.not_mem_nil,or_false] at hid
   simp only[qI,qp]; omega
 first|rfl|(simp only[go_sem,qh,qd,qc,qe,qf,qg,reduceIte,reduceCtorEq,push_cast,if_true,qI,qG,qq,qn,qu,qr,qs,qt,qz,qo,qw,qv,qm,zw,zb,zl,za,zj,zf]<;>rfl)
end
section
set_option maxRecDepth 8000
open Go.RowKit AM

end
section
open Go.RowKit AM
theorem AM.Enc.slO1 {T:TT}{t e:TypeId}{sz:Nat}{α:Type}{enc:α→List AV}(h:Enc T t e sz enc){len:Nat}(hg:(0:Int)≤1∧(1:Int)≤(len:Int))(q:IntKind)(id ver:Nat)(tt:Bool):
 ZN T t (.os true sz id ver 0 len tt) (some (.int q 1)) none none=some (.os true sz id ver sz (len-1) tt):=by
 obtain⟨i,hi,hd⟩:=h.sl;obtain⟨j,hj,hs⟩:=h.el;simp only[ZN,hi,hd,hj,vcI];rw[if_pos ⟨hg.1,hg.2,Int.le_refl _,hs.symm⟩]
 simp
theorem flatMap_drop1 {α:Type}{enc:α→List AV}{sz:Nat} [X2 enc sz]:∀ {l:List α},1≤l.length→(l.flatMap enc).drop sz=(l.drop 1).flatMap enc
 |[],h=>by simp at h
 |x::l,_=>by
  rw[qE,List.drop_succ_cons,qq,← X2.h (enc:=enc) (sz:=sz) x,List.drop_left]
theorem flat_len {α:Type}{enc:α→List AV}{sz:Nat} [X2 enc sz]:∀ {l:List α},1≤l.length→sz≤(l.flatMap enc).length
 |[],h=>by simp at h
 |x::l,_=>by rw[qE,qj,X2.h (enc:=enc) (sz:=sz) x]; omega
section
variable {Φ:Ctx} {P:Program} {n k:Nat} {Q:Exit→Fr→ze→Prop} {F:Fr} {σ τ:ze} {c:Code}
theorem AM.TellS.cut {α:Type}{enc:α→List AV}{sz:Nat} [X2 enc sz]{l:List α}{L:List (Nat×AV)}{τ':ze}(hg:(0:Int)≤1∧(1:Int)≤(l.length:Int))(id j i:Nat){ver:Nat}{tt:Bool}{cj:List AV}(τ:ze)(h:TellS k F τ L τ')
 (h0:σ[id]?=some (.cells ver (l.flatMap enc)):=by rfl) (h1:σ[j]?=some (.cells 0 cj):=by rfl) (hij:j≠id:=by decide) (hi:i<cj.length:=by simp) (hc:gc cj i=.os true sz id ver sz (l.length-1) tt:=by rfl)
 (hτ:(σ.set id (.cells (ver+1) ((l.drop 1).flatMap enc))).set j (.cells 0 (cj.set i (.os true sz id (ver+1) 0 (l.drop 1).length tt)))=τ:=by rfl):TellS k F σ L τ':=by
 have h2:ze.at σ id ver=some (l.flatMap enc):=by unfold ze.at; rw[h0]; simp
 have h3:ze.at σ j 0=some cj:=by unfold ze.at; rw[h1]; simp
 have hl:1≤l.length:=by omega
 refine .any fun hk hS hF=>?_
 obtain⟨E',hw,hS',hx⟩:=hS.shiftIn h2 (flat_len hl) h3 hij hi hc;rw[flatMap_drop1 hl,show l.length-1=(l.drop 1).length by rw[uU],hτ] at hS';obtain⟨E2,g1,g2,g3,g4⟩:=h.env (uB hk hx.n) hS' (hF.ext hx);exact⟨E2,g1.trans hw,g2,g3,(hx.mono hk).trans g4⟩
end
end
end Go.Proofs.YtaahlckibpiphaaGreatDoor
