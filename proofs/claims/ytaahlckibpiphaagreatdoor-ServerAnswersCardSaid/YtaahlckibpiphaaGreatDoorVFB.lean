/- Parts of the proof, cut down to what it needs. -/
import Derived.Test.YtaahlckibpiphaaGreatDoorVT
import Derived.Shelf.Unicode.DecodeAny
import Derived.KernelRfl
import Derived.Shelf.Spec.SlicesInsert
import Derived.Lib.AppendZerosOnto
import Derived.RangeFuncRecord
set_option linter.constructorNameAsVariable false
set_option linter.unusedSimpArgs false
set_option linter.unusedVariables false
namespace Go.Proofs.YtaahlckibpiphaaGreatDoor
open _root_.List renaming length → qa, flatMap → qb, length_cons → qk, length_nil → qp, map_nil → qq, length_append → qt, drop_zero → qw, getD_eq_getElem?_getD → qx, map_cons → qy, mem_cons_of_mem → qB, nil_append → qC, map_append → qE, mem_cons_self → qG, length_eq_zero_iff → qH, cons_append → qK, range_zero → qL, replicate → qN, append_assoc → qP, all_cons → qQ, getElem?_append_left → qR, append_nil → qT, range_succ → qV, all_nil → qW, getElem?_eq_getElem → qY, length_singleton → qZ, eq_nil_of_length_eq_zero → q1, flatMap_cons → ua, mem_cons → uc, length_map → ud, getElem?_set_ne → ue, take_length → uh, getElem?_append_right → uj, all_eq_true → uk, flatMap_append → um, flatMap_nil → uo, getElem?_set_self → uu, take_append_drop → uz, getElem?_eq_none → uA, mem_map → uB, take_succ_cons → uC, drop_succ_cons → uD, range → uG, getElem?_cons_zero → uH, mem_append_left → uL, take_zero → uO, set_cons_zero → uP, set_cons_succ → uQ, mem_append_right → uR, length_drop → uT, drop_eq_getElem_cons → uU, length_take → u0, mem_append → u4, drop_drop → u7
open _root_.Option renaming bind_some → qh
open _root_.Nat renaming reduceEqDiff → qc, reduceLT → qd, reduceAdd → qe, reduceLeDiff → qg, reduceMul → qj, zero_add → ql, lt_succ_self → qo, reduceSub → qr, le_refl → qA, add_zero → qF, reduceMod → q5, mul_le_mul_right → uf, lt_of_lt_of_le → un, zero_mul → uq, zero_le → ux, sub_zero → uK, sub_self → uV, add_mul → u6
open _root_.Bool renaming not_false → qn, not_true → qu, or_true → qv, and_false → qz, and_self → qD, and_true → qI, or_false → qM, false_eq_true → qU, true_and → qX, false_and → ub, true_or → ug, false_or → ur
open _root_.Int renaming toNat → q2, toNat_natCast → uw
open _root_.BitVec renaming ofInt → q3, toNat → uX

open Result renaming andThen_ok → qi
open Sem renaming run_bind → qm, run_pure → qJ
open _root_.Go.Proofs.Tryz renaming prog → qf
section
open AM
def optV {α:Type}(enc:α→List AV):Option α→AV
 |none=>.nilp
 |some x=>.dp (enc x) 0
theorem optV_none {α:Type}{enc:α→List AV}:optV enc none=.nilp:=rfl
theorem optV_some {α:Type}{enc:α→List AV}{x:α}:optV enc (some x)=.dp (enc x) 0:=rfl
theorem vde {α:Type}{enc:α→List AV} [hc:wq enc]{s:Bool}{x:Option α}:(optV enc x).canon s=true:=by
 cases x with
 |none=>rfl
 |some x=>exact hc.h s x
theorem one_optV {α:Type}{enc:α→List AV}{x:Option α}:(optV enc x).one=true:=by cases x<;>rfl
structure xF where
 fTag:Int
 fWire:Int
 fN:Int
 fB:List UInt8
 deriving DecidableEq
def zA (x:xF):List AV:=[.int .i64 x.fTag,.int .i64 x.fWire,.int .i64 x.fN,.str x.fB]
instance : wq zA := ⟨fun _ _ => rfl⟩
instance : vaO zA := ⟨fun _ => rfl⟩
instance : vaP zA 4 := ⟨fun _ => rfl⟩
mutual
inductive zi where
 |mk (fKind fN:Int) (fS:List UInt8) (fEntries:List zp) (fRest:List xF)
inductive zp where
 |mk (fTag:Int) (fTrees:List zi)
end
def zi.fKind : zi→Int|.mk a _ _ _ _=>a
def zi.fN : zi→Int|.mk _ a _ _ _=>a
def zi.fS : zi→List UInt8|.mk _ _ a _ _=>a
def zi.fEntries : zi→List zp|.mk _ _ _ a _=>a
def zi.fRest : zi→List xF|.mk _ _ _ _ a=>a
def zp.fTag : zp→Int|.mk a _=>a
def zp.fTrees : zp→List zi|.mk _ a=>a
mutual
def ya : zi→List AV
 |.mk k n s es rs=>[.int .i64 k,.int .i64 n,.str s,.ds true (vak es) (qa es) false,.ds true (qb zA rs) (qa rs) false]
def zx : zp→List AV
 |.mk t ts=>[.int .i64 t,.ds true (va0 ts) (qa ts) false]
def vak : List zp→List AV
 |[]=>[]
 |e::l=>zx e++vak l
def va0 : List zi→List AV
 |[]=>[]
 |e::l=>ya e++va0 l
end
theorem encGEntryL_eq (l:List zp):vak l=qb zx l:=by
 induction l with
 |nil=>rfl
 |cons e l ih=>rw[vak,ih]; rfl
theorem encGTreeL_eq (l:List zi):va0 l=qb ya l:=by
 induction l with
 |nil=>rfl
 |cons e l ih=>rw[va0,ih]; rfl
abbrev zb (x:zi):List AV:=[.int .i64 x.fKind,.int .i64 x.fN,.str x.fS,.ds true (qb zx x.fEntries) (qa x.fEntries) false,.ds true (qb zA x.fRest) (qa x.fRest) false]
abbrev zK (x:zp):List AV:=[.int .i64 x.fTag,.ds true (qb ya x.fTrees) (qa x.fTrees) false]
theorem yC (x:zi):ya x=zb x:=by
 cases x; rw[ya,encGEntryL_eq]; rfl
theorem yh (x:zp):zx x=zK x:=by
 cases x; rw[zx,encGTreeL_eq]; rfl
mutual
theorem vdg (s:Bool):∀ x:zi,xo s (ya x)=true
 |.mk k n t es rs=>by
  simp only[ya,xo,AV.canon,vdn s es,xA,qD,qn,qv]
theorem vci (s:Bool):∀ x:zp,xo s (zx x)=true
 |.mk t ts=>by simp only[zx,xo,AV.canon,veb s ts,qD,qn,qv]
theorem vdn (s:Bool):∀ l:List zp,xo s (vak l)=true
 |[]=>rfl
 |e::l=>by rw[vak,vae,vci s e,vdn s l]; rfl
theorem veb (s:Bool):∀ l:List zi,xo s (va0 l)=true
 |[]=>rfl
 |e::l=>by rw[va0,vae,vdg s e,veb s l]; rfl
end
instance : wq ya := ⟨vdg⟩
instance : wq zx := ⟨vci⟩
instance : wq zb := ⟨fun s x => by rw [← yC]; exact vdg s x⟩
instance : wq zK := ⟨fun s x => by rw [← yh]; exact vci s x⟩
instance : vaO ya := ⟨fun x => by rw [yC]; rfl⟩
instance : vaO zx := ⟨fun x => by rw [yh]; rfl⟩
instance : vaP ya 5 := ⟨fun x => by rw [yC]; rfl⟩
instance : vaP zx 2 := ⟨fun x => by rw [yh]; rfl⟩
mutual
inductive zt where
 |nil
 |num (n:Int)
 |str (s:List UInt8)
 |node (es:List xE) (rs:List xF)
inductive xE where
 |mk (ftag:Int) (fl:List zt)
end
def xE.ftag : xE→Int|.mk a _=>a
def xE.fl : xE→List zt|.mk _ a=>a
structure yA where
 fentries:List xE
 frest:List xF
mutual
def vdC : zt→AV
 |.nil=>.nilI
 |.num n=>.ifc 348 (.int .i64 n)
 |.str s=>.ifc 349 (.str s)
 |.node es rs=>.ifc 232 (.dp [.ds true (Yj es) (qa es) false,.ds true (qb zA rs) (qa rs) false] 0)
def xG : xE→List AV
 |.mk t l=>[.int .i64 t,.ds true (Yi l) (qa l) false]
def Yj : List xE→List AV
 |[]=>[]
 |e::l=>xG e++Yj l
def Yi : List zt→List AV
 |[]=>[]
 |e::l=>vdC e::Yi l
end
def zn (v:zt):List AV:=[vdC v]
theorem vcR (l:List xE):Yj l=qb xG l:=by
 induction l with
 |nil=>rfl
 |cons e l ih=>rw[Yj,ih]; rfl
theorem vcQ (l:List zt):Yi l=qb zn l:=by
 induction l with
 |nil=>rfl
 |cons e l ih=>rw[Yi,ih]; rfl
abbrev wA (x:xE):List AV:=[.int .i64 x.ftag,.ds true (qb zn x.fl) (qa x.fl) false]
theorem wo (x:xE):xG x=wA x:=by
 cases x; rw[xG,vcQ]; rfl
abbrev zO (x:yA):List AV:=[.ds true (qb xG x.fentries) (qa x.fentries) false,.ds true (qb zA x.frest) (qa x.frest) false]
theorem vcK : vdC .nil=.nilI:=by rw[vdC]
theorem vcJ {n:Int}:vdC (.num n)=.ifc 348 (.int .i64 n):=by rw[vdC]
theorem vcI {s:List UInt8}:vdC (.str s)=.ifc 349 (.str s):=by rw[vdC]
theorem vaV {es:List xE}{rs:List xF}:vdC (.node es rs)=.ifc 232 (.dp [.ds true (qb xG es) (qa es) false,.ds true (qb zA rs) (qa rs) false] 0):=by
 rw[vdC,vcR]
mutual
theorem va5 (s:Bool):∀ x:zt,(vdC x).canon s=true
 |.nil=>by simp only[vdC,AV.canon]
 |.num n=>by simp only[vdC,AV.canon]
 |.str n=>by simp only[vdC,AV.canon]
 |.node es rs=>by simp only[vdC,AV.canon,xo,va7 s es,xA,qD,qn,qv]
theorem X6 (s:Bool):∀ x:xE,xo s (xG x)=true
 |.mk t ts=>by simp only[xG,xo,AV.canon,va6 s ts,qD,qn,qv]
theorem va7 (s:Bool):∀ l:List xE,xo s (Yj l)=true
 |[]=>rfl
 |e::l=>by rw[Yj,vae,X6 s e,va7 s l]; rfl
theorem va6 (s:Bool):∀ l:List zt,xo s (Yi l)=true
 |[]=>rfl
 |e::l=>by rw[Yi,xo,va5 s e,va6 s l]; rfl
end
theorem Xb (x:zt):(vdC x).one=true:=by cases x<;>simp only[vdC,AV.one]
instance : vaw vdC := ⟨va5⟩
theorem tell_ifcV {σ:zf}{keep:List Nat}{ls:Bool}{f:Nat}{x:zt}:tell σ keep ls f (vdC x)=vdC x:=vah _ _ _ _ _ (va5 ls x)
instance : wq zn := ⟨fun s x => by simp only [zn, xo, va5, qD]⟩
instance : wq xG := ⟨X6⟩
instance : wq wA := ⟨fun s x => by rw [← wo]; exact X6 s x⟩
theorem vbK (s:Bool)(x:yA):xo s (zO x)=true:=by simp only[zO,xo,AV.canon,xA,qD,qn,qv]
instance : wq zO := ⟨vbK⟩
instance : vaO zn := ⟨fun x => by simp only [zn, qQ, Xb, qW, qD]⟩
instance : vaO xG := ⟨fun x => by rw [wo]; rfl⟩
instance : vaO zO := ⟨fun x => rfl⟩
instance : vaP zn 1 := ⟨fun x => rfl⟩
instance : vaP xG 2 := ⟨fun x => by rw [wo]; rfl⟩
instance : vaP zO 2 := ⟨fun x => rfl⟩
def anyV : zt→AV
 |.nil=>.nilI
 |.num n=>.ifc 3 (.int .i64 n)
 |.str s=>.ifc 9 (.str s)
 |.node es rs=>vdC (.node es rs)
theorem anyV_nil : anyV .nil=.nilI:=rfl
theorem anyV_num {n:Int}:anyV (.num n)=.ifc 3 (.int .i64 n):=rfl
theorem anyV_str {s:List UInt8}:anyV (.str s)=.ifc 9 (.str s):=rfl
theorem anyV_node {es:List xE}{rs:List xF}:anyV (.node es rs)=.ifc 232 (.dp [.ds true (qb xG es) (qa es) false,.ds true (qb zA rs) (qa rs) false] 0):=vaV
theorem vec (s:Bool)(x:zt):(anyV x).canon s=true:=by
 cases x with
 |nil=>rfl
 |num n=>rfl
 |str t=>rfl
 |node es rs=>exact va5 s (.node es rs)
instance : vaw anyV := ⟨vec⟩
theorem tell_anyV {σ:zf}{keep:List Nat}{ls:Bool}{f:Nat}{x:zt}:tell σ keep ls f (anyV x)=anyV x:=vah _ _ _ _ _ (vec ls x)
structure YE where
 fKind:Int
 fName:List UInt8
 deriving DecidableEq
def wd (x:YE):List AV:=[.int .i64 x.fKind,.str x.fName]
instance : wq wd := ⟨fun _ _ => rfl⟩
instance : vaO wd := ⟨fun _ => rfl⟩
instance : vaP wd 2 := ⟨fun _ => rfl⟩
structure yY where
 fName:List UInt8
 fTag:Int
 fLabel:Int
 fType:YE
 deriving DecidableEq
abbrev z7 (x:yY):List AV:=[.str x.fName,.int .i64 x.fTag,.int .i64 x.fLabel,.int .i64 x.fType.fKind,.str x.fType.fName]
instance : wq z7 := ⟨fun _ _ => rfl⟩
instance : vaO z7 := ⟨fun _ => rfl⟩
instance : vaP z7 5 := ⟨fun _ => rfl⟩
structure zz where
 fName:List UInt8
 fFields:List yY
 fReserved:List Int
 deriving DecidableEq
abbrev ze (x:zz):List AV:=[.str x.fName,.ds true (qb z7 x.fFields) (qa x.fFields) false,.ds true (qb ZC x.fReserved) (qa x.fReserved) false]
instance : wq ze := ⟨fun s x => by simp only [ze, xo, AV.canon, xA, qD, qn, qv]⟩
instance : vaO ze := ⟨fun _ => rfl⟩
instance : vaP ze 3 := ⟨fun _ => rfl⟩
structure Zx where
 fName:List UInt8
 fN:Int
 deriving DecidableEq
def wS (x:Zx):List AV:=[.str x.fName,.int .i64 x.fN]
instance : wq wS := ⟨fun _ _ => rfl⟩
instance : vaO wS := ⟨fun _ => rfl⟩
instance : vaP wS 2 := ⟨fun _ => rfl⟩
structure zT where
 fName:List UInt8
 fValues:List Zx
 deriving DecidableEq
abbrev zh (x:zT):List AV:=[.str x.fName,.ds true (qb wS x.fValues) (qa x.fValues) false]
instance : wq zh := ⟨fun s x => by simp only [zh, xo, AV.canon, xA, qD, qn, qv]⟩
instance : vaO zh := ⟨fun _ => rfl⟩
instance : vaP zh 2 := ⟨fun _ => rfl⟩
structure Zk where
 fName:List UInt8
 fIn:List UInt8
 fOut:List UInt8
 deriving DecidableEq
def zv (x:Zk):List AV:=[.str x.fName,.str x.fIn,.str x.fOut]
instance : wq zv := ⟨fun _ _ => rfl⟩
instance : vaO zv := ⟨fun _ => rfl⟩
instance : vaP zv 3 := ⟨fun _ => rfl⟩
structure zm where
 fName:List UInt8
 fMessages:List zz
 fEnums:List zT
 fMethods:List Zk
 deriving DecidableEq
abbrev zd (x:zm):List AV:=[.str x.fName,.ds true (qb ze x.fMessages) (qa x.fMessages) false,.ds true (qb zh x.fEnums) (qa x.fEnums) false,.ds true (qb zv x.fMethods) (qa x.fMethods) false]
instance : wq zd := ⟨fun s x => by simp only [zd, xo, AV.canon, xA, qD, qn, qv]⟩
instance : vaO zd := ⟨fun _ => rfl⟩
instance : vaP zd 4 := ⟨fun _ => rfl⟩
structure Zd where
 fKind:Int
 fFrom:Int
 fTo:Int
 fID:Int
 fVersion:Int
 fMethod:List UInt8
 fErr:Int
 fBody:List UInt8
 deriving DecidableEq
abbrev zH (x:Zd):List AV:=[.int .i64 x.fKind,.int .i64 x.fFrom,.int .i64 x.fTo,.int .i64 x.fID,.int .i64 x.fVersion,.str x.fMethod,.int .i64 x.fErr,.str x.fBody]
instance : wq zH := ⟨fun _ _ => rfl⟩
instance : vaO zH := ⟨fun _ => rfl⟩
instance : vaP zH 8 := ⟨fun _ => rfl⟩
structure GR23Set where
 fN:List Int
 fS:List zm
 deriving DecidableEq
abbrev Y9 (x:GR23Set):List AV:=[.ds true (qb ZC x.fN) (qa x.fN) false,.ds true (qb zd x.fS) (qa x.fS) false]
instance : wq Y9 := ⟨fun s x => by simp only [Y9, xo, AV.canon, xA, qD, qn, qv]⟩
instance : vaO Y9 := ⟨fun _ => rfl⟩
instance : vaP Y9 2 := ⟨fun _ => rfl⟩
structure GL23Op where
 fKind:Int
 fMethod:List UInt8
 fT:zi
 fL:List Int
 fP:Zd
 fMine:Bool
abbrev XA (x:GL23Op):List AV:=[.int .i64 x.fKind,.str x.fMethod,.int .i64 x.fT.fKind,.int .i64 x.fT.fN,.str x.fT.fS,.ds true (qb zx x.fT.fEntries) (qa x.fT.fEntries) false,.ds true (qb zA x.fT.fRest) (qa x.fT.fRest) false,.ds true (qb ZC x.fL) (qa x.fL) false,.int .i64 x.fP.fKind,.int .i64 x.fP.fFrom,.int .i64 x.fP.fTo,.int .i64 x.fP.fID,.int .i64 x.fP.fVersion,.str x.fP.fMethod,.int .i64 x.fP.fErr,.str x.fP.fBody,.bool x.fMine]
instance : wq XA := ⟨fun s x => by simp only [XA, xo, AV.canon, xA, qD, qn, qv]⟩
instance : vaO XA := ⟨fun _ => rfl⟩
instance : vaP XA 17 := ⟨fun _ => rfl⟩
structure xy where
 fFrom:Int
 fID:Int
 fMethod:List UInt8
 fIn:zi
abbrev zo (x:xy):List AV:=[.int .i64 x.fFrom,.int .i64 x.fID,.str x.fMethod,.int .i64 x.fIn.fKind,.int .i64 x.fIn.fN,.str x.fIn.fS,.ds true (qb zx x.fIn.fEntries) (qa x.fIn.fEntries) false,.ds true (qb zA x.fIn.fRest) (qa x.fIn.fRest) false]
instance : wq zo := ⟨fun s x => by simp only [zo, xo, AV.canon, xA, qD, qn, qv]⟩
instance : vaO zo := ⟨fun _ => rfl⟩
instance : vaP zo 8 := ⟨fun _ => rfl⟩
structure vay where
 fMethod:List UInt8
 fIn:zi
 fOut:zi
abbrev yd (x:vay):List AV:=[.str x.fMethod,.int .i64 x.fIn.fKind,.int .i64 x.fIn.fN,.str x.fIn.fS,.ds true (qb zx x.fIn.fEntries) (qa x.fIn.fEntries) false,.ds true (qb zA x.fIn.fRest) (qa x.fIn.fRest) false,.int .i64 x.fOut.fKind,.int .i64 x.fOut.fN,.str x.fOut.fS,.ds true (qb zx x.fOut.fEntries) (qa x.fOut.fEntries) false,.ds true (qb zA x.fOut.fRest) (qa x.fOut.fRest) false]
instance : wq yd := ⟨fun s x => by simp only [yd, xo, AV.canon, xA, qD, qn, qv]⟩
instance : vaO yd := ⟨fun _ => rfl⟩
instance : vaP yd 11 := ⟨fun _ => rfl⟩
structure GL24Op where
 fKind:Int
 fP:Zd
 fL:List Int
 fN:List Int
 fS:List zm
 deriving DecidableEq
abbrev Xz (x:GL24Op):List AV:=[.int .i64 x.fKind,.int .i64 x.fP.fKind,.int .i64 x.fP.fFrom,.int .i64 x.fP.fTo,.int .i64 x.fP.fID,.int .i64 x.fP.fVersion,.str x.fP.fMethod,.int .i64 x.fP.fErr,.str x.fP.fBody,.ds true (qb ZC x.fL) (qa x.fL) false,.ds true (qb ZC x.fN) (qa x.fN) false,.ds true (qb zd x.fS) (qa x.fS) false]
instance : wq Xz := ⟨fun s x => by simp only [Xz, xo, AV.canon, xA, qD, qn, qv]⟩
instance : vaO Xz := ⟨fun _ => rfl⟩
instance : vaP Xz 12 := ⟨fun _ => rfl⟩
structure GR22K where
 fFrom:Int
 fID:Int
 fP:Zd
 deriving DecidableEq
abbrev XW (x:GR22K):List AV:=[.int .i64 x.fFrom,.int .i64 x.fID,.int .i64 x.fP.fKind,.int .i64 x.fP.fFrom,.int .i64 x.fP.fTo,.int .i64 x.fP.fID,.int .i64 x.fP.fVersion,.str x.fP.fMethod,.int .i64 x.fP.fErr,.str x.fP.fBody]
instance : wq XW := ⟨fun _ _ => rfl⟩
instance : vaO XW := ⟨fun _ => rfl⟩
instance : vaP XW 10 := ⟨fun _ => rfl⟩
structure GR22C where
 fSize:Int
 fL:List GR22K
 fMost:List GR22K
 deriving DecidableEq
abbrev XX (x:GR22C):List AV:=[.int .i64 x.fSize,.ds true (qb XW x.fL) (qa x.fL) false,.ds true (qb XW x.fMost) (qa x.fMost) false]
instance : wq XX := ⟨fun s x => by simp only [XX, xo, AV.canon, xA, qD, qn, qv]⟩
instance : vaO XX := ⟨fun _ => rfl⟩
instance : vaP XX 3 := ⟨fun _ => rfl⟩
structure GR24Effect where
 fFrom:Int
 fID:Int
 fMethod:List UInt8
 fIn:zi
abbrev Zt (x:GR24Effect):List AV:=[.int .i64 x.fFrom,.int .i64 x.fID,.str x.fMethod,.int .i64 x.fIn.fKind,.int .i64 x.fIn.fN,.str x.fIn.fS,.ds true (qb zx x.fIn.fEntries) (qa x.fIn.fEntries) false,.ds true (qb zA x.fIn.fRest) (qa x.fIn.fRest) false]
instance : wq Zt := ⟨fun s x => by simp only [Zt, xo, AV.canon, xA, qD, qn, qv]⟩
instance : vaO Zt := ⟨fun _ => rfl⟩
instance : vaP Zt 8 := ⟨fun _ => rfl⟩
structure GR24S where
 fSelf:Int
 fX:GR23Set
 fNewest:zm
 fRows:List vay
 fC:Option GR22C
 fL:List GR24Effect
abbrev XV (x:GR24S):List AV:=[.int .i64 x.fSelf,.ds true (qb ZC x.fX.fN) (qa x.fX.fN) false,.ds true (qb zd x.fX.fS) (qa x.fX.fS) false,.str x.fNewest.fName,.ds true (qb ze x.fNewest.fMessages) (qa x.fNewest.fMessages) false,.ds true (qb zh x.fNewest.fEnums) (qa x.fNewest.fEnums) false,.ds true (qb zv x.fNewest.fMethods) (qa x.fNewest.fMethods) false,.ds true (qb yd x.fRows) (qa x.fRows) false,optV XX x.fC,.ds true (qb Zt x.fL) (qa x.fL) false]
instance : wq XV := ⟨fun s x => by simp only [XV, xo, AV.canon, xA, vde, qD, qn, qv]⟩
instance : vaO XV := ⟨fun x => by simp only [XV, qQ, qW, one_optV]; rfl⟩
instance : vaP XV 10 := ⟨fun _ => rfl⟩
structure vcX where
 fid:Int
 ft:zi
 ferr:Int
abbrev wM (x:vcX):List AV:=[.int .i64 x.fid,.int .i64 x.ft.fKind,.int .i64 x.ft.fN,.str x.ft.fS,.ds true (qb zx x.ft.fEntries) (qa x.ft.fEntries) false,.ds true (qb zA x.ft.fRest) (qa x.ft.fRest) false,.int .i64 x.ferr]
instance : wq wM := ⟨fun s x => by simp only [wM, xo, AV.canon, xA, qD, qn, qv]⟩
instance : vaO wM := ⟨fun _ => rfl⟩
instance : vaP wM 7 := ⟨fun _ => rfl⟩
structure GClientClient where
 fself:Int
 fserver:Int
 fnumbers:List Int
 fschemas:List zm
 fid:Int
 fwaits:Int
 fmethod:List UInt8
 ft:zi
 fagreed:Int
 fsent:Zd
 fresult:Option vcX
abbrev wN (x:GClientClient):List AV:=[.int .i64 x.fself,.int .i64 x.fserver,.ds true (qb ZC x.fnumbers) (qa x.fnumbers) false,.ds true (qb zd x.fschemas) (qa x.fschemas) false,.int .i64 x.fid,.int .i64 x.fwaits,.str x.fmethod,.int .i64 x.ft.fKind,.int .i64 x.ft.fN,.str x.ft.fS,.ds true (qb zx x.ft.fEntries) (qa x.ft.fEntries) false,.ds true (qb zA x.ft.fRest) (qa x.ft.fRest) false,.int .i64 x.fagreed,.int .i64 x.fsent.fKind,.int .i64 x.fsent.fFrom,.int .i64 x.fsent.fTo,.int .i64 x.fsent.fID,.int .i64 x.fsent.fVersion,.str x.fsent.fMethod,.int .i64 x.fsent.fErr,.str x.fsent.fBody,optV wM x.fresult]
instance : wq wN := ⟨fun s x => by simp only [wN, xo, AV.canon, xA, vde, qD, qn, qv]⟩
instance : vaO wN := ⟨fun x => by simp only [wN, qQ, qW, one_optV]; rfl⟩
instance : vaP wN 22 := ⟨fun _ => rfl⟩
structure GR23C where
 fSelf:Int
 fServer:Int
 fX:GR23Set
 fID:Int
 fStep:Int
 fMethod:List UInt8
 fT:zi
 fLast:Zd
 fHas:Bool
 fOut:zi
 fErr:Int
abbrev vab (x:GR23C):List AV:=[.int .i64 x.fSelf,.int .i64 x.fServer,.ds true (qb ZC x.fX.fN) (qa x.fX.fN) false,.ds true (qb zd x.fX.fS) (qa x.fX.fS) false,.int .i64 x.fID,.int .i64 x.fStep,.str x.fMethod,.int .i64 x.fT.fKind,.int .i64 x.fT.fN,.str x.fT.fS,.ds true (qb zx x.fT.fEntries) (qa x.fT.fEntries) false,.ds true (qb zA x.fT.fRest) (qa x.fT.fRest) false,.int .i64 x.fLast.fKind,.int .i64 x.fLast.fFrom,.int .i64 x.fLast.fTo,.int .i64 x.fLast.fID,.int .i64 x.fLast.fVersion,.str x.fLast.fMethod,.int .i64 x.fLast.fErr,.str x.fLast.fBody,.bool x.fHas,.int .i64 x.fOut.fKind,.int .i64 x.fOut.fN,.str x.fOut.fS,.ds true (qb zx x.fOut.fEntries) (qa x.fOut.fEntries) false,.ds true (qb zA x.fOut.fRest) (qa x.fOut.fRest) false,.int .i64 x.fErr]
instance : wq vab := ⟨fun s x => by simp only [vab, xo, AV.canon, xA, qD, qn, qv]⟩
instance : vaO vab := ⟨fun _ => rfl⟩
instance : vaP vab 27 := ⟨fun _ => rfl⟩
structure wb where
 ffrom:Int
 fid:Int
 deriving DecidableEq
def zC (x:wb):List AV:=[.int .i64 x.ffrom,.int .i64 x.fid]
instance : wq zC := ⟨fun _ _ => rfl⟩
instance : vaO zC := ⟨fun _ => rfl⟩
instance : vaP zC 2 := ⟨fun _ => rfl⟩
structure Ya where
 fOp:Int
 fTag:Int
 fSub:Int
 deriving DecidableEq
def yW (x:Ya):List AV:=[.int .i64 x.fOp,.int .i64 x.fTag,.int .i64 x.fSub]
instance : wq yW := ⟨fun _ _ => rfl⟩
instance : vaO yW := ⟨fun _ => rfl⟩
instance : vaP yW 3 := ⟨fun _ => rfl⟩
structure wE where
 fParts:List (List Ya)
 deriving DecidableEq
abbrev yr (x:wE):List AV:=[.ds true (qb (vaz yW) x.fParts) (qa x.fParts) false]
instance : wq yr := ⟨fun s x => by simp only [yr, xo, AV.canon, xA, qD, qn, qv]⟩
instance : vaO yr := ⟨fun _ => rfl⟩
instance : vaP yr 1 := ⟨fun _ => rfl⟩
structure vbi where
 fschema:zm
 fown:Zk
 ftheirs:Zk
 fin:zi
abbrev xL (x:vbi):List AV:=[.str x.fschema.fName,.ds true (qb ze x.fschema.fMessages) (qa x.fschema.fMessages) false,.ds true (qb zh x.fschema.fEnums) (qa x.fschema.fEnums) false,.ds true (qb zv x.fschema.fMethods) (qa x.fschema.fMethods) false,.str x.fown.fName,.str x.fown.fIn,.str x.fown.fOut,.str x.ftheirs.fName,.str x.ftheirs.fIn,.str x.ftheirs.fOut,.int .i64 x.fin.fKind,.int .i64 x.fin.fN,.str x.fin.fS,.ds true (qb zx x.fin.fEntries) (qa x.fin.fEntries) false,.ds true (qb zA x.fin.fRest) (qa x.fin.fRest) false]
instance : wq xL := ⟨fun s x => by simp only [xL, xo, AV.canon, xA, qD, qn, qv]⟩
instance : vaO xL := ⟨fun _ => rfl⟩
instance : vaP xL 15 := ⟨fun _ => rfl⟩
structure wQ where
 ffrom:List UInt8
 fto:List UInt8
 deriving DecidableEq
def yk (x:wQ):List AV:=[.str x.ffrom,.str x.fto]
instance : wq yk := ⟨fun _ _ => rfl⟩
instance : vaO yk := ⟨fun _ => rfl⟩
instance : vaP yk 2 := ⟨fun _ => rfl⟩
structure yc where
 fp:wE
 flooks:Int
 deriving DecidableEq
abbrev yx (x:yc):List AV:=[.ds true (qb (vaz yW) x.fp.fParts) (qa x.fp.fParts) false,.int .i64 x.flooks]
instance : wq yx := ⟨fun s x => by simp only [yx, xo, AV.canon, xA, qD, qn, qv]⟩
instance : vaO yx := ⟨fun _ => rfl⟩
instance : vaP yx 2 := ⟨fun _ => rfl⟩
structure GR14Pair where
 fA:List UInt8
 fB:List UInt8
 deriving DecidableEq
def YZ (x:GR14Pair):List AV:=[.str x.fA,.str x.fB]
instance : wq YZ := ⟨fun _ _ => rfl⟩
instance : vaO YZ := ⟨fun _ => rfl⟩
instance : vaP YZ 2 := ⟨fun _ => rfl⟩
structure GR16R where
 fP:List (List Ya)
 fN:Int
 deriving DecidableEq
abbrev vac (x:GR16R):List AV:=[.ds true (qb (vaz yW) x.fP) (qa x.fP) false,.int .i64 x.fN]
instance : wq vac := ⟨fun s x => by simp only [vac, xo, AV.canon, xA, qD, qn, qv]⟩
instance : vaO vac := ⟨fun _ => rfl⟩
instance : vaP vac 2 := ⟨fun _ => rfl⟩
structure Yw where
 fsize:Int
 forder:List wb
 vorder:Nat
 freplies:vbX (wb) (Zd)
 flast:vbX (Int) (Int)
structure Yx where
 ffrom:zm
 fto:zm
 fl:List wQ
 vl:Nat
 fplace:List (wQ×Int)
structure wx where
 fself:Int
 fnumbers:List Int
 fschemas:List zm
 fnewest:zm
 frows:List vay
 fcache:Yw
 feffects:List xy
 veffects:Nat
def yw (k:Zd):AV:=.agg (zH k)
instance : vaw yw := ⟨fun s k => wq.h s k⟩
def zV (k:wb):AV:=.agg (zC k)
instance : vaw zV := ⟨fun s k => wq.h s k⟩
def xi (k:wQ):AV:=.agg (yk k)
instance : vaw xi := ⟨fun s k => wq.h s k⟩
theorem E26 : Enc tab 26 3 1 ZC:=⟨⟨_,rfl,rfl⟩,⟨_,rfl,rfl⟩,by decide,fun _=>rfl⟩
theorem E27 : Enc tab 27 129 3 ze:=⟨⟨_,rfl,rfl⟩,⟨_,rfl,rfl⟩,by decide,fun _=>rfl⟩
theorem E28 : Enc tab 28 142 2 zh:=⟨⟨_,rfl,rfl⟩,⟨_,rfl,rfl⟩,by decide,fun _=>rfl⟩
theorem E29 : Enc tab 29 61 3 zv:=⟨⟨_,rfl,rfl⟩,⟨_,rfl,rfl⟩,by decide,fun _=>rfl⟩
theorem E33 : Enc tab 33 31 4 zd:=⟨⟨_,rfl,rfl⟩,⟨_,rfl,rfl⟩,by decide,fun _=>rfl⟩
theorem E34 : Enc tab 34 40 2 zx:=⟨⟨_,rfl,rfl⟩,⟨_,rfl,rfl⟩,by decide,fun x=>by rw[yh]; rfl⟩
theorem E35 : Enc tab 35 139 4 zA:=⟨⟨_,rfl,rfl⟩,⟨_,rfl,rfl⟩,by decide,fun _=>rfl⟩
theorem E38 : Enc tab 38 37 5 ya:=⟨⟨_,rfl,rfl⟩,⟨_,rfl,rfl⟩,by decide,fun x=>by rw[yC]; rfl⟩
theorem E48 : Enc tab 48 5 1 XD:=⟨⟨_,rfl,rfl⟩,⟨_,rfl,rfl⟩,by decide,fun _=>rfl⟩
theorem E82 : Enc tab 82 98 11 yd:=⟨⟨_,rfl,rfl⟩,⟨_,rfl,rfl⟩,by decide,fun _=>rfl⟩
theorem E92 : Enc tab 92 95 8 zo:=⟨⟨_,rfl,rfl⟩,⟨_,rfl,rfl⟩,by decide,fun _=>rfl⟩
theorem E127 : Enc tab 127 126 5 z7:=⟨⟨_,rfl,rfl⟩,⟨_,rfl,rfl⟩,by decide,fun _=>rfl⟩
theorem E140 : Enc tab 140 144 2 wS:=⟨⟨_,rfl,rfl⟩,⟨_,rfl,rfl⟩,by decide,fun _=>rfl⟩
theorem E146 : Enc tab 146 9 1 vck:=⟨⟨_,rfl,rfl⟩,⟨_,rfl,rfl⟩,by decide,fun _=>rfl⟩
theorem E176 : Enc tab 176 246 1 (vaz yW):=⟨⟨_,rfl,rfl⟩,⟨_,rfl,rfl⟩,by decide,fun _=>rfl⟩
theorem E183 : Enc tab 183 21 1 (encK .i32):=⟨⟨_,rfl,rfl⟩,⟨_,rfl,rfl⟩,by decide,fun _=>rfl⟩
theorem E207 : Enc tab 207 268 2 zC:=⟨⟨_,rfl,rfl⟩,⟨_,rfl,rfl⟩,by decide,fun _=>rfl⟩
theorem E240 : Enc tab 240 245 2 yk:=⟨⟨_,rfl,rfl⟩,⟨_,rfl,rfl⟩,by decide,fun _=>rfl⟩
theorem E246 : Enc tab 246 248 3 yW:=⟨⟨_,rfl,rfl⟩,⟨_,rfl,rfl⟩,by decide,fun _=>rfl⟩
theorem E282 : Enc tab 282 228 1 zn:=⟨⟨_,rfl,rfl⟩,⟨_,rfl,rfl⟩,by decide,fun _=>rfl⟩
theorem E324 : Enc tab 324 328 2 xG:=⟨⟨_,rfl,rfl⟩,⟨_,rfl,rfl⟩,by decide,fun x=>by rw[wo]; rfl⟩
theorem KA268 : veh tab 268 zV:=veh.agg (enc:=zC) (l:=[.int .i64,.int .i64]) rfl rfl rfl (fun _=>rfl) (fun a b=>by cases a; cases b; simp[zC,vaH,ceq,wb.mk.injEq,Bool.decide_and])
theorem KA245 : veh tab 245 xi:=veh.agg (enc:=yk) (l:=[.string,.string]) rfl rfl rfl (fun _=>rfl) (fun a b=>by cases a; cases b; simp[yk,vaH,ceq,wQ.mk.injEq,Bool.decide_and])
attribute [push_cast] osE1 osE2 tell_u tell_bool vbQ vbP tell_nilp tell_nilm tell_nilI tell_nilF tell_agg tell_tup tell_ifc XF tell_dp tell_op ZS tell_mp Zp YG vbu Xl YO tellO_map tellO_iter tellO_dead encM_tell Xm XG zL TLS AV.canon xo xA qD qI qX qz ub qv qM ur ug qn qu if_true qw ql qy qq qE decide_true decide_false and_self optV_none optV_some vde u8_wrap tell_ifcV tell_anyV anyV_nil anyV_num anyV_str anyV_node vcK vcJ vcI vaV va5 vec vbK zA zn zO wd z7 ze wS zh zv zd zH Y9 XA zo yd Xz XW XX Zt XV wM wN vab zC yW yr xL yk yx YZ vac zb zK wA yC yh wo
section
variable {k:Nat} {F:Fr} {σ τ:zf} {L:List (Nat×AV)} {P:Program} {f:FuncId} {args:List AV} {x:AV}
theorem AM.TellS.t (keep:List Nat)(ls:Bool)(h1:keep.Nodup:=by decide)(h2:∀ id∈keep,id<σ.length:=by simp)(h3:keep.take k=uG k:=by first|rfl|simp)(h4:vca σ keep ls 12=τ:=by first|rfl|(simp only[← um,← qt]; simp only[go_sem,qd,qg,qc,qe,qj,qr,reduceIte,reduceCtorEq,push_cast]; done)|(simp only[go_sem,qd,qg,qc,qe,qj,qr,reduceIte,reduceCtorEq,push_cast,XD,ZC,vck,encBo,encK,Xf,um,ua,uo,qT,qC,qt,qk,qp,ql,qP,qK,Nat.add_assoc]<;>first|rfl|(and_intros<;>rfl)))(h5:TLS σ keep ls F L:=by first|rfl|(simp only[← um,← qt]; simp only[go_sem,qd,qg,qc,qe,qj,qr,reduceIte,reduceCtorEq,push_cast]; done)|(simp only[go_sem,qd,qg,qc,qe,qj,qr,reduceIte,reduceCtorEq,push_cast,XD,ZC,vck,encBo,encK,Xf,um,ua,uo,qT,qC,qt,qk,qp,ql,qP,qK,Nat.add_assoc]<;>first|rfl|(and_intros<;>rfl))):TellS k F σ L τ:=.told keep ls h1 h2 h3 h4 h5
theorem AM.TellS.s (h:vdh F L:=by first|(and_intros<;>first|rfl|trivial)|simp only[go_sem,qd,qg,qc,qe,qj,qr,reduceIte,reduceCtorEq,vdh,push_cast,Xf,um,ua,uo,qT,qC,qt,qk,qp,ql,qP,qK,Nat.add_assoc])(e:σ=τ:=by first|rfl|(simp only[go_sem,qd,qg,qc,qe,qj,qr,reduceIte,reduceCtorEq,push_cast,XD,ZC,vck,encK,Xf,um,ua,uo,qT,qC,qt,qk,qp,ql,qP,qK,Nat.add_assoc]<;>rfl)):TellS k F σ L τ:=.same h e
theorem AM.TellS.p {p q:Prop}(hp:p=q)(h:p=q→vdh F L:=by intro hp; simp only[go_sem,qd,qg,qc,qe,qj,qr,reduceIte,reduceCtorEq,vdh,hp,decide_true,decide_false,qX,ub,ug,ur,qu,qn,and_self]<;>rfl)(e:σ=τ:=by rfl):TellS k F σ L τ:=.same (h hp) e
theorem AM.TellS.b {a b:Bool}(hp:a=b)(h:a=b→vdh F L:=by intro hp; simp only[go_sem,qd,qg,qc,qe,qj,qr,reduceIte,reduceCtorEq,vdh,hp,decide_true,decide_false,qX,ub,ug,ur,qu,qn,and_self]<;>rfl)(e:σ=τ:=by rfl):TellS k F σ L τ:=.same (h hp) e
theorem retA {Q:Exit→Fr→zf→Prop}{e:Exit}{F:Fr}{σ:zf}(h:Q e F σ:=by simp only[Yk,xg,xw,wu,exists_eq_left',go_sem,qd,qg,qc,qe,qj,qr,reduceIte,reduceCtorEq,push_cast]<;>first|rfl|(and_intros<;>rfl)):Q e F σ:=h
theorem cut {Φ:Ctx}{n:Nat}{Q:Exit→Fr→zf→Prop}{ops:Array Oper}{l:List Oper}(N t d:Nat)(m:List Nat)(c:Bool){b:Bool}{p q W:Prop}(w:W) [hb:vbZ b p q](ht:F t=.bool b)(h:ZJ Φ qf n k ops (l.drop N) Q (fs L) σ)(e:vcc F m++[(d,.bool c)]=L:=by simp only[van,upd,qc,reduceIte,yD,xj,XN,vaq,qK,qC]<;>rfl)(h1:W→p→Run (vaX tab n ops (l.take N) (upd F t (.bool true)) σ) (fun l' F' τ=>l'=[]∧τ=σ∧vdh F' L):=by intro w hg; first|(have t:=eq_false hg; simp only[go_sem,qd,qg,qc,qe,qj,qr,reduceIte,reduceCtorEq,evEq,vdh,w,t,decide_true,decide_false,qX,ub,ug,ur,qI,qz,qv,qM,qu,qn,and_self]<;>rfl)|(have t:=eq_true hg; simp only[go_sem,qd,qg,qc,qe,qj,qr,reduceIte,reduceCtorEq,evEq,vdh,w,t,decide_true,decide_false,qX,ub,ug,ur,qI,qz,qv,qM,qu,qn,and_self]<;>rfl)|(simp only[go_sem,qd,qg,qc,qe,qj,qr,reduceIte,reduceCtorEq,evEq,vdh,w,hg,decide_true,decide_false,qX,ub,ug,ur,qI,qz,qv,qM,qu,qn,and_self]<;>rfl))(h0:W→q→Run (vaX tab n ops (l.take N) (upd F t (.bool false)) σ) (fun l' F' τ=>l'=[]∧τ=σ∧vdh F' L):=by intro w hg; first|(have t:=eq_false hg; simp only[go_sem,qd,qg,qc,qe,qj,qr,reduceIte,reduceCtorEq,evEq,vdh,w,t,decide_true,decide_false,qX,ub,ug,ur,qI,qz,qv,qM,qu,qn,and_self]<;>rfl)|(have t:=eq_true hg; simp only[go_sem,qd,qg,qc,qe,qj,qr,reduceIte,reduceCtorEq,evEq,vdh,w,t,decide_true,decide_false,qX,ub,ug,ur,qI,qz,qv,qM,qu,qn,and_self]<;>rfl)|(simp only[go_sem,qd,qg,qc,qe,qj,qr,reduceIte,reduceCtorEq,evEq,vdh,w,hg,decide_true,decide_false,qX,ub,ug,ur,qI,qz,qv,qM,qu,qn,and_self]<;>rfl)):ZJ Φ qf n k ops l Q F σ:=ops_cut U N t L ht (h1 w) (h0 w) h
theorem AM.ACalls.c (h:ACalls P f args [] fun r _=>r=x)(σ:zf)(ha:xo false args=true:=by simp only[push_cast])(hx:x.canon false=true:=by simp only[push_cast]):ACalls P f args σ fun r σ'=>r=x∧σ'=σ:=h.pureAt ha hx σ
theorem AM.ACalls.ld (h:ACalls P f args [] fun r _=>r=x){args':List AV}(hx:x.flat=true:=by rfl)(ha:args'.map (tell σ [] true 12)=args:=by first|(simp only[go_sem,qd,qg,qc,qe,qj,qr,reduceIte,reduceCtorEq,push_cast,qC,qT,Array.toList_map,List.toList_toArray]; done)|(simp only[← um,← qt]; simp only[go_sem,qd,qg,qc,qe,qj,qr,reduceIte,reduceCtorEq,push_cast,qC,qT,Array.toList_map,List.toList_toArray]; done)|(simp only[go_sem,qd,qg,qc,qe,qj,qr,reduceIte,reduceCtorEq,push_cast,XD,ZC,vck,encBo,encK,Xf,um,ua,uo,qT,qC,qt,qk,qp,ql,qP,qK,Nat.add_assoc,Array.toList_map,List.toList_toArray]<;>first|rfl|(and_intros<;>rfl))):ACalls P f args' σ fun r σ'=>r=x∧σ'=σ:=h.lend hx true 12 ha
theorem AM.ACalls.i {σs τs:zf}(h:ACalls P f args σs fun r' σ'=>r'=x∧σ'=τs)(ids:List Nat){args':List AV}(hn:ids.Nodup:=by decide)(hlt:∀ id∈ids,id<σ.length:=by simp)(hobj:ids.map (fun id=>σ[id]?)=σs.map some:=by rfl)(hs:σs.all vb9=true:=by simp only[qQ,qW,vdf,vdm,push_cast])(ht:τs.all vb9=true:=by simp only[qQ,qW,vdf,vdm,push_cast])(hl:ids.length=τs.length:=by rfl)(hx:x.canon true=true:=by simp only[push_cast])(ha:vcj (vbL ids σ.length) args=args':=by first|rfl|(simp only[vcj,AV.ren,renL_E,vbd,vbL]; rfl)):ACalls P f args' σ fun r' σ'=>r'=x∧σ'=putI ids τs σ:=h.io ids hn hlt hobj hs ht hl hx ha
theorem AM.renO_cells {g:Nat→Nat}{v:Nat}{cs:List AV}:vdS g (.cells v cs)=.cells v (vcj g cs):=rfl
theorem AM.renO_dead {g:Nat→Nat}:vdS g .dead=.dead:=rfl
theorem AM.renO_iter {g:Nat→Nat}{s:List UInt8}{p:Nat}:vdS g (.iter s p)=.iter s p:=rfl
theorem AM.renO_mapE {K V:Type}{ek:K→AV}{ev:V→AV} [vaw ek] [vaw ev](g:Nat→Nat)(M:List (K×V)){gh:Option (List Nat×Nat)}:vdS g (.map (xp ek ev M) gh)=.map (xp ek ev M) gh:=vc4 g _ (vdf M)
theorem AM.ACalls.ix {σs τs τ':zf}{x':AV}(h:ACalls P f args σs fun r' σ'=>r'=x∧σ'=τs)(ids:List Nat){args':List AV}(hn:ids.Nodup:=by decide)(hlt:∀ id∈ids,id<σ.length:=by simp)(hobj:ids.map (fun id=>σ[id]?)=σs.map (fun o=>some (vdS (vbL ids σ.length) o)):=by first|rfl|(simp only[qy,qq,renO_mapE,renO_cells,renO_dead,renO_iter,vcj,AV.ren,renL_E,vbd,Xs,zA,zn,zO,wd,z7,ze,wS,zh,zv,zd,zH,Y9,XA,zo,yd,Xz,XW,XX,Zt,XV,wM,wN,vab,zC,yW,yr,xL,yk,yx,YZ,vac,zb,zK,wA,yC,yh,wo]<;>first|rfl|(and_intros<;>rfl)))(hx:x.ren (vbL ids σ.length)=x':=by first|rfl|(simp only[qy,qq,renO_mapE,renO_cells,renO_dead,renO_iter,vcj,AV.ren,renL_E,vbd,Xs,zA,zn,zO,wd,z7,ze,wS,zh,zv,zd,zH,Y9,XA,zo,yd,Xz,XW,XX,Zt,XV,wM,wN,vab,zC,yW,yr,xL,yk,yx,YZ,vac,zb,zK,wA,yC,yh,wo]<;>first|rfl|(and_intros<;>rfl)))(ha:vcj (vbL ids σ.length) args=args':=by first|rfl|(simp only[qy,qq,renO_mapE,renO_cells,renO_dead,renO_iter,vcj,AV.ren,renL_E,vbd,Xs,zA,zn,zO,wd,z7,ze,wS,zh,zv,zd,zH,Y9,XA,zo,yd,Xz,XW,XX,Zt,XV,wM,wN,vab,zC,yW,yr,xL,yk,yx,YZ,vac,zb,zK,wA,yC,yh,wo]<;>first|rfl|(and_intros<;>rfl)))(ht:Xs (vbL ids σ.length) ids τs σ=τ':=by first|rfl|(simp only[qy,qq,renO_mapE,renO_cells,renO_dead,renO_iter,vcj,AV.ren,renL_E,vbd,Xs,zA,zn,zO,wd,z7,ze,wS,zh,zv,zd,zH,Y9,XA,zo,yd,Xz,XW,XX,Zt,XV,wM,wN,vab,zC,yW,yr,xL,yk,yx,YZ,vac,zb,zK,wA,yC,yh,wo]<;>first|rfl|(and_intros<;>rfl))):ACalls P f args' σ fun r' σ'=>r'=x'∧σ'=τ':=(h.embed ids hn hlt hobj ha).mono (by rintro r σ' ⟨r0,τ,⟨rfl,rfl⟩,rfl,rfl⟩; exact⟨hx,ht⟩)
end
section
variable {Φ:Ctx} {n k:Nat} {Q:Exit→Fr→zf→Prop} {F F':Fr} {σ σ':zf} {L:List (Nat×AV)} {l l':List Oper} {y:Code}
theorem O (m:List Nat){id:Nat}(h:awp Φ qf n k y Q (fs L) σ')(e:∀ K:List (Nat×AV)→zf→Prop,Run (vaX tab n l.toArray l F σ) (fun l' F' τ=>l'=[]∧K (vcc F' m) τ)=K L σ':=by intro K; simp only[go_sem,qd,qg,qc,qe,qj,qr,reduceIte,reduceCtorEq]; exact rfl):awp Φ qf n k (.seq (.region id l.toArray false) y) Q F σ:=rg U m fun K J=>by rw[e K]; exact J _ _ h
theorem aI {a b:Prop}(x:a)(y:b):a∧b:=⟨x,y⟩
theorem rgW (m:List Nat){W:Prop}(w:W){id:Nat}(h:awp Φ qf n k y Q (fs L) σ')(e:W→∀ K:List (Nat×AV)→zf→Prop,Run (vaX tab n l.toArray l F σ) (fun l' F' τ=>l'=[]∧K (vcc F' m) τ)=K L σ':=by intro w K; simp only[go_sem,qd,qg,qc,qe,qj,qr,reduceIte,reduceCtorEq,evEq,w]; exact rfl):awp Φ qf n k (.seq (.region id l.toArray false) y) Q F σ:=rg U m fun K J=>by rw[e w K]; exact J _ _ h
theorem rnW (N:Nat){W:Prop}(w:W){ops:Array Oper}(h:ZJ Φ qf n k ops l' Q F' σ')(e:W→∀ K:List Oper→Fr→zf→Prop,Run (vaX tab n ops (l.take N) F σ) (fun a F' τ=>a=[]∧K (l.drop N) F' τ)=K l' F' σ':=by intro w K; simp only[go_sem,qd,qg,qc,qe,qj,qr,reduceIte,reduceCtorEq,evEq,w]; exact rfl):ZJ Φ qf n k ops l Q F σ:=xO U N (by
 have:=e w (fun a F' τ=>ZJ Φ qf n k ops a Q F' τ)
 rw[this]; exact h)
theorem κ (N:Nat){ops:Array Oper}(h:ZJ Φ qf n k ops l' Q F' σ')(e:∀ K:List Oper→Fr→zf→Prop,Run (vaX tab n ops (l.take N) F σ) (fun a F' τ=>a=[]∧K (l.drop N) F' τ)=K l' F' σ':=by intro K; simp only[go_sem,qd,qg,qc,qe,qj,qr,reduceIte,reduceCtorEq]; exact rfl):ZJ Φ qf n k ops l Q F σ:=xO U N (by
 have:=e (fun a F' τ=>ZJ Φ qf n k ops a Q F' τ)
 rw[this]; exact h)
theorem nkN {K A:List (Nat×AV)→zf→Prop}{g:Fr→List (Nat×AV)}{ops:Array Oper}(J:∀ L σ,A L σ→K L σ)(h:A L σ)(e:g F=L:=by first|(simp only[van,upd,qc,reduceIte,yD,xj,XN,vaq]; exact rfl)|exact rfl):ZJ Φ qf n k ops [] (vbY (fun F σ=>K (g F) σ) Q) F σ:=zl (by subst e; exact J _ _ h)
theorem clN {ops:Array Oper}{o:Oper}{f:FuncId}{args:List AV}{x:AV}{τ:zf}(hg:YX ops F o=some true)(hc:callee F o=some (f,args))(hd:vaN n o.dst=true)(hf:ACalls qf f args σ fun r s=>r=x∧s=τ)(h:ZJ Φ qf n k ops l Q (van F o.dst x) τ):ZJ Φ qf n k ops (o::l) Q F σ:=Ys hg hc hd hf (by rintro _ _ ⟨rfl,rfl⟩; exact h)
theorem rtA (h:Q .ret F σ:=by simp only[Yk,xg,xw,wu,exists_eq_left',go_sem,qd,qg,qc,qe,qj,qr,reduceIte,reduceCtorEq,push_cast]<;>first|rfl|(and_intros<;>rfl)):awp Φ qf n k .ret Q F σ:=yE h
end
end
section
open Go.Shelf Go.RowKit
def vc0 : Go.Shelf.Ren:=⟨fun|197=>242|260=>251|n=>n,fun|0=>0|3=>3|4=>4|5=>5|9=>9|21=>21|46=>100|105=>346|119=>360|138=>362|139=>363|n=>n,fun|3=>0|4=>1|n=>n⟩
theorem vcp : Lays.n197 qf vc0 where
 mixed:=by kernel_rfl
 f197:=Tryz.func242.trans (congrArg some (by kernel_rfl))
 f260:=Tryz.func251.trans (congrArg some (by kernel_rfl))
 t0:=Tryz.underlying0
 a0:=Tryz.isAgg0
 z0:=Tryz.sizeOf0
 v0:=Tryz.zeroValue0
 t3:=Tryz.underlying3
 a3:=Tryz.isAgg3
 z3:=Tryz.sizeOf3
 v3:=Tryz.zeroValue3
 t4:=Tryz.underlying4
 a4:=Tryz.isAgg4
 z4:=Tryz.sizeOf4
 v4:=Tryz.zeroValue4
 t5:=Tryz.underlying5
 a5:=Tryz.isAgg5
 z5:=Tryz.sizeOf5
 v5:=Tryz.zeroValue5
 t9:=Tryz.underlying9
 a9:=Tryz.isAgg9
 z9:=Tryz.sizeOf9
 v9:=Tryz.zeroValue9
 t21:=Tryz.underlying21
 a21:=Tryz.isAgg21
 z21:=Tryz.sizeOf21
 v21:=Tryz.zeroValue21
 t46:=Tryz.underlying100
 a46:=Tryz.isAgg100
 z46:=Tryz.sizeOf100
 v46:=Tryz.zeroValue100
 t105:=Tryz.underlying346
 a105:=Tryz.isAgg346
 z105:=Tryz.sizeOf346
 v105:=Tryz.zeroValue346
 t119:=Tryz.underlying360
 a119:=Tryz.isAgg360
 z119:=Tryz.sizeOf360
 t138:=Tryz.underlying362
 a138:=Tryz.isAgg362
 z138:=Tryz.sizeOf362
 v138:=Tryz.zeroValue362
 t139:=Tryz.underlying363
 a139:=Tryz.isAgg363
 z139:=Tryz.sizeOf363
 v139:=Tryz.zeroValue363
 g3:=by kernel_rfl
 g4:=by kernel_rfl
namespace AM
def dec0 (s:List UInt8):Nat×Nat:=if s=[] then (65533,0) else vba s 0
theorem dec0_eq (s:List UInt8):Lib.decodeGo ⟨s.toArray⟩=dec0 s:=by
 unfold Lib.decodeGo dec0 vba
 by_cases h:s=[]
 · subst h; rfl
 rw[if_neg h,if_neg]
 intro h0
 exact h (q1 (by simpa [ByteArray.size] using h0))
theorem decode_ev (s:List UInt8)(σ:zf):ACalls qf 242 [.str s] σ (fun r σ'=>r=.tup [.int .i32 ((dec0 s).1:Int),.int .i64 ((dec0 s).2:Int)]∧σ'=σ):=by
 refine⟨Tryz.call242,fun E vs hS hl=>?_⟩
 obtain⟨v,e⟩:∃ v,vs = #[v]:=by
  have h1:vs.toList.length=1:=hl.1
  obtain⟨l⟩:=vs
  match l,h1 with
  |[v],_=>exact⟨v,rfl⟩
 subst e
 have h2:VR E (.str s) v:=hl.2 0 (by simp)
 cases h2 with|str _ b hb=>
 subst hb
 refine (Any.utf8_DecodeRuneInString vcp b E.w hS.glb.utf8).mono ?_
 rintro e w' ⟨rfl,hb⟩
 obtain⟨hS',hx⟩:=hS.grew (w':=w') ⟨hb.os,hb.tape,hb.output,hb.size,hb.block⟩
 refine⟨_,.tup [.int .i32 ((dec0 b.data.toList).1:Int),.int .i64 ((dec0 b.data.toList).2:Int)],σ,{ E with w:=w' },rfl,rfl,?_,hS',hx,rfl,rfl⟩
 rw[← dec0_eq]
 refine .tup _ _ rfl fun i hi=>?_
 match i,hi with
 |0,_=>exact .int _ _
 |1,_=>exact .int _ _
def XE (a0:List UInt8):Int×Int:=(((dec0 a0).1:Int),((dec0 a0).2:Int))
theorem XE.ev (a0:List UInt8)(r:Int×Int)(h:XE a0=r)(σ:zf):ACalls qf 242 [.str a0] σ (fun r' σ'=>r'=.tup [.int .i32 r.1,.int .i64 r.2]∧σ'=σ):=by subst h; exact decode_ev a0 σ
end AM
end
section
set_option maxRecDepth 4000
set_option maxHeartbeats 1000000
open AM
def Y5 (a0:List UInt8)(a1:Int):Option (Int×Int×Bool):=
 (if ((decide (a1<0))||(decide ((qa a0:Int)≤a1)))=true then some (0,0,false) else (grd ((0:Int)≤a1∧a1≤(qa a0:Int)∧(qa a0:Int)≤(qa a0:Int))).bind fun _u5=>bnd (XE (va3 a0 a1 (qa a0:Int))) fun r7=>(if ((decide (r7.1=65533))&&(decide (r7.2<2)))=true then some (0,0,false) else some (r7.1,r7.2,true)))
theorem Y5.ok {a0 a1 r}(h:Y5 a0 a1=some r):ACalls qf 224 [.str a0,.int .i64 a1] [] (fun r' _=>r'=.tup [.int .i32 r.1,.int .i64 r.2.1,.bool r.2.2]):=by
 refine zk (rs:=[.tmp 4,.tmp 5,.tmp 6]) U Tryz.func224 rfl Tryz.ntmps224 rfl Tryz.call224 (by simp) ?_;refine zu [(0,.str a0),(1,.int .i64 a1)] ⟨rfl,rfl,trivial⟩ ?_;unfold Y5 at h;refine O [0,1] ?_
 refine za fun Z1 hZ1=>?_
 refine rc [0,1,16] fun K J=>?_
 refine κ 3 ?_;refine yv 5 (fun L τ=>L=[(0,.str a0),(1,.int .i64 a1),(16,.bool ((decide (a1<0))||(decide ((qa a0:Int)≤a1))))]∧τ=([]:zf)) ?_ ?_
 · refine Yz 11 rfl (fun hg11=>?_) (fun hg11=>?_)
   · have t2:=eq_true hg11;refine κ 5 ?_;refine zl ⟨rfl,_,_,⟨rfl,rfl⟩,.p t2⟩
   have t3:=eq_false hg11;refine κ 5 ?_;refine zl ⟨rfl,_,_,⟨rfl,rfl⟩,.p t3⟩
 rintro _ _ ⟨rfl,rfl⟩;refine nkN J ?_;refine zB (b:=((decide (a1<0))||(decide ((qa a0:Int)≤a1)))) rfl (fun hc4=>?_) (fun hc4=>?_)
 · rw[if_pos hc4] at h;refine O [4,5,6] ?_;cases h;exact rtA
 rw[wn hc4] at h;apply zg;apply hZ1
 refine rc [7,8] fun K J=>?_
 obtain⟨_u5,hu5,h⟩:=bind_some h;have gu5:=Yb hu5;have f6:=str_lo (T:=tab) (t:=9) rfl rfl gu5;obtain⟨r7,hr7,h⟩:=yb h;refine rnW 3 f6 ?_;refine clN rfl rfl rfl (XE.ev (va3 a0 a1 (qa a0:Int)) r7 hr7 _) ?_;refine κ 5 ?_;refine nkN J ?_
 refine za fun Z8 hZ8=>?_
 refine rc [7,8,29] fun K J=>?_
 refine κ 3 ?_;refine yv 3 (fun L τ=>L=[(7,.int .i32 r7.1),(8,.int .i64 r7.2),(29,.bool ((decide (r7.1=65533))&&(decide (r7.2<2))))]∧τ=([]:zf)) ?_ ?_
 · refine Yz 26 rfl (fun hg26=>?_) (fun hg26=>?_)
   · have t9:=eq_true hg26;refine κ 3 ?_;refine zl ⟨rfl,_,_,⟨rfl,rfl⟩,.p t9⟩
   have t10:=eq_false hg26;refine κ 3 ?_;refine zl ⟨rfl,_,_,⟨rfl,rfl⟩,.p t10⟩
 rintro _ _ ⟨rfl,rfl⟩;refine nkN J ?_;refine zB (b:=((decide (r7.1=65533))&&(decide (r7.2<2)))) rfl (fun hc11=>?_) (fun hc11=>?_)
 · rw[if_pos hc11] at h;refine O [4,5,6] ?_;cases h;exact rtA
 rw[wn hc11] at h;apply zg;apply hZ8;refine O [4,5,6] ?_;cases h;exact rtA
def xD.l4 (a0:List UInt8):Nat→Nat→Option Bool
 |0,_=>none
 |k4+1,p2=>(if p2<qa a0 then (if ((vba a0 p2).1:Int)=65533 then (Y5 a0 ((p2:Nat):Int)).bind fun r12=>(if (!r12.2.2)=true then some false else ((xD.l4 a0 k4) (p2+(vba a0 p2).2))) else ((xD.l4 a0 k4) (p2+(vba a0 p2).2))) else some true)
def xD (a0:List UInt8):Option Bool:=
 (xD.l4 a0 yp 0)
theorem xD.ok {a0 r}(h:xD a0=some r):ACalls qf 184 [.str a0] [] (fun r' _=>r'=.bool r):=by
 refine zk (rs:=[.tmp 2]) U Tryz.func184 rfl Tryz.ntmps184 rfl Tryz.call184 (by simp) ?_;refine zu [(0,.str a0)] ⟨rfl,trivial⟩ ?_;unfold xD at h;refine O [0] ?_
 refine za fun Z1 hZ1=>?_
 refine O [0,9] ?_;apply zj;refine zG (fun m L τ=>∃ (k4:Nat) (p2:Nat),m=0+k4∧L=[(0,.str a0),(9,.it 0)]∧τ=([.iter a0 p2]:zf)∧xD.l4 a0 k4 p2=some r) _ ⟨yp,0,rfl,rfl,rfl,h⟩ .s ?_;rintro m L τ ⟨k4,p2,rfl,rfl,rfl,h⟩
 rcases k4 with _|k4
 · cases h
 simp only[xD.l4] at h
 by_cases hn5:p2<qa a0
 · rw[if_pos hn5] at h;have t6:=eq_true hn5
   refine rg U [0,9,10,11] fun K J=>?_
   simp only[go_sem,qd,qc,qe,reduceCtorEq,vcM,if_true,if_false,t6];apply J
   refine za fun Z7 hZ7=>?_
   refine zE rfl ?_;apply zg;apply hZ7;apply zj;refine O [0,3,4,9] ?_
   refine za fun Z8 hZ8=>?_
   refine O [0,3,9,15] ?_;refine zR rfl (fun hc9=>?_) (fun hc9=>?_)
   · rw[if_neg hc9] at h;have t10:=eq_false hc9;apply zJ;exact⟨_,_,_,qo (0+k4),⟨k4,p2+(vba a0 p2).2,rfl,rfl,rfl,h⟩,.s⟩
   rw[if_pos hc9] at h;have t11:=eq_true hc9;apply zg;apply hZ8
   refine rc [0,7,9] fun K J=>?_
   obtain⟨r12,hr12,h⟩:=bind_some h;refine rnW 2 t11 ?_;refine clN rfl rfl rfl ((Y5.ok hr12).c _) ?_;refine κ 7 ?_;refine nkN J ?_;refine O [0,9,24] ?_;refine zB (b:=(!r12.2.2)) rfl (fun hc13=>?_) (fun hc13=>?_)
   · rw[if_pos hc13] at h;refine O [2] ?_;cases h;exact rtA
   rw[wn hc13] at h;apply zg;exact⟨_,_,_,qo (0+k4),⟨k4,p2+(vba a0 p2).2,rfl,rfl,rfl,h⟩,.s⟩
 rw[if_neg hn5] at h;have t14:=eq_false hn5
 refine rg U [0,9,10,11] fun K J=>?_
 simp only[go_sem,qd,qc,reduceCtorEq,vcM,if_true,if_false,t14];apply J
 refine za fun Z15 hZ15=>?_
 refine zD rfl ?_;apply zJ;apply hZ1;refine O [2] ?_;cases h;exact rtA
def zP.l4 (a1:List UInt8):List zz→Int→zz×Bool
 |[],x2=>((⟨[],([]:List yY),([]:List Int)⟩:zz),false)
 |y4::q4,x2=>(if y4.fName=a1 then (y4,true) else ((zP.l4 a1 q4) (x2+1)))
def zP (a0:zm)(a1:List UInt8):zz×Bool:=
 (zP.l4 a1 a0.fMessages 0)
theorem zP.ok {a0 a1 r}(h:zP a0 a1=r):ACalls qf 92 [.agg (zd a0),.str a1] [] (fun r' _=>r'=.tup [.agg (ze r.1),.bool r.2]):=by
 refine zk (rs:=[.cell 4 129,.tmp 5]) U Tryz.func92 rfl Tryz.ntmps92 rfl Tryz.call92 (by simp) ?_;refine zu [(0,.agg (zd a0)),(1,.str a1)] ⟨rfl,rfl,trivial⟩ ?_;unfold zP at h;refine rgW [1,2,4] @zd.eq_1 ?_
 refine za fun Z1 hZ1=>?_
 refine O [1,4,9,10,11] ?_;apply zj
 refine xq 9 fun hb4=>?_
 replace hb4:qa a0.fMessages≤9223372036854775807:=hb4.1;refine zG (fun m L τ=>∃ (p4 q4:List zz) (x2:Int),m=qa q4∧L=[(1,.str a1),(4,.op 0 0 0),(9,.ds true (qb ze a0.fMessages) (qa a0.fMessages) false),(10,.int .i64 (qa a0.fMessages:Int)),(11,.int .i64 x2)]∧τ=([.cells 0 [.str [],.ds true [] 0 true,.ds true [] 0 true]]:zf)∧a0.fMessages=p4++q4∧x2=(qa p4:Int)∧zP.l4 a1 q4 x2=r) _ ⟨[],a0.fMessages,0,rfl,rfl,rfl,rfl,rfl,h⟩ (.t [1] false) ?_;rintro m L τ ⟨p4,q4,x2,rfl,rfl,rfl,hE4,hi4,h⟩
 rcases q4 with _|⟨y4,q4⟩
 · have hz4:=yH hE4 hi4;simp only[zP.l4] at h;refine rgW [1,4,9,10,11,12] hz4 ?_
   refine za fun Z5 hZ5=>?_
   refine zD rfl ?_;apply zJ;apply hZ1;refine O [4,5] ?_;cases h;exact rtA
 obtain⟨hz4,hw4,hx4,hE'4,hi'4⟩:=yo hE4 hi4 hb4;simp only[zP.l4] at h;refine rgW [1,4,9,10,11,12] hz4 ?_
 refine za fun Z6 hZ6=>?_
 refine zE rfl ?_;apply zg;apply hZ6
 refine za fun Z7 hZ7=>?_
 apply zj;have f8:=E27.idxS hx4;have f9:=E27.loadS rfl rfl hx4;refine rgW [1,4,7,9,10,11] (aI @ze.eq_1 (aI f8 f9)) ?_;refine O [1,4,7,9,10,11,18] ?_;refine zR rfl (fun hc10=>?_) (fun hc10=>?_)
 · rw[if_pos hc10] at h;have t11:=eq_true hc10;refine rgW [4,5] t11 ?_;cases h;exact rtA
 rw[if_neg hc10] at h;have t12:=eq_false hc10;apply zg;apply hZ7
 refine rgE U [1,4,9,10,11] fun K J=>?_
 simp only[go_sem,qd,qc,hw4,t12];apply J
 exact⟨_,_,_,qo q4.length,⟨p4++[y4],q4,x2+1,rfl,rfl,rfl,hE'4,hi'4,h⟩,(.t [0] false)⟩
def zQ.l4 (a1:Int):List yY→Int→yY×Bool
 |[],x2=>((⟨[],0,0,(⟨0,[]⟩:YE)⟩:yY),false)
 |y4::q4,x2=>(if y4.fTag=a1 then (y4,true) else ((zQ.l4 a1 q4) (x2+1)))
def zQ (a0:zz)(a1:Int):yY×Bool:=
 (zQ.l4 a1 a0.fFields 0)
theorem zQ.ok {a0 a1 r}(h:zQ a0 a1=r):ACalls qf 141 [.agg (ze a0),.int .i64 a1] [] (fun r' _=>r'=.tup [.agg (z7 r.1),.bool r.2]):=by
 refine zk (rs:=[.cell 4 126,.tmp 5]) U Tryz.func141 rfl Tryz.ntmps141 rfl Tryz.call141 (by simp) ?_;refine zu [(0,.agg (ze a0)),(1,.int .i64 a1)] ⟨rfl,rfl,trivial⟩ ?_;unfold zQ at h;refine rgW [1,2,4] @ze.eq_1 ?_
 refine za fun Z1 hZ1=>?_
 refine O [1,4,9,10,11] ?_;apply zj
 refine xq 9 fun hb4=>?_
 replace hb4:qa a0.fFields≤9223372036854775807:=hb4.1;refine zG (fun m L τ=>∃ (p4 q4:List yY) (x2:Int),m=qa q4∧L=[(1,.int .i64 a1),(4,.op 0 0 0),(9,.ds true (qb z7 a0.fFields) (qa a0.fFields) false),(10,.int .i64 (qa a0.fFields:Int)),(11,.int .i64 x2)]∧τ=([.cells 0 [.str [],.int .i64 0,.int .i64 0,.int .i64 0,.str []]]:zf)∧a0.fFields=p4++q4∧x2=(qa p4:Int)∧zQ.l4 a1 q4 x2=r) _ ⟨[],a0.fFields,0,rfl,rfl,rfl,rfl,rfl,h⟩ (.t [1] false) ?_;rintro m L τ ⟨p4,q4,x2,rfl,rfl,rfl,hE4,hi4,h⟩
 rcases q4 with _|⟨y4,q4⟩
 · have hz4:=yH hE4 hi4;simp only[zQ.l4] at h;refine rgW [1,4,9,10,11,12] hz4 ?_
   refine za fun Z5 hZ5=>?_
   refine zD rfl ?_;apply zJ;apply hZ1;refine O [4,5] ?_;cases h;exact rtA
 obtain⟨hz4,hw4,hx4,hE'4,hi'4⟩:=yo hE4 hi4 hb4;simp only[zQ.l4] at h;refine rgW [1,4,9,10,11,12] hz4 ?_
 refine za fun Z6 hZ6=>?_
 refine zE rfl ?_;apply zg;apply hZ6
 refine za fun Z7 hZ7=>?_
 apply zj;have f8:=E127.idxS hx4;have f9:=E127.loadS rfl rfl hx4;refine rgW [1,4,7,9,10,11] (aI @z7.eq_1 (aI f8 f9)) ?_;refine O [1,4,7,9,10,11,18] ?_;refine zR rfl (fun hc10=>?_) (fun hc10=>?_)
 · rw[if_pos hc10] at h;have t11:=eq_true hc10;refine rgW [4,5] t11 ?_;cases h;exact rtA
 rw[if_neg hc10] at h;have t12:=eq_false hc10;apply zg;apply hZ7
 refine rgE U [1,4,9,10,11] fun K J=>?_
 simp only[go_sem,qd,qc,hw4,t12];apply J
 exact⟨_,_,_,qo q4.length,⟨p4++[y4],q4,x2+1,rfl,rfl,rfl,hE'4,hi'4,h⟩,(.t [0] false)⟩
def Zo (a0:YE)(a1:Int):Bool:=
 (if a0.fKind=1 then ((decide ((-2147483648)≤a1))&&(decide (a1≤2147483647))) else (if a0.fKind=3 then ((decide (a1=0))||(decide (a1=1))) else (if a0.fKind=6 then ((decide (0≤a1))&&(decide (a1≤2147483647))) else decide (a0.fKind=2))))
theorem Zo.ok {a0 a1 r}(h:Zo a0 a1=r):ACalls qf 183 [.agg (wd a0),.int .i64 a1] [] (fun r' _=>r'=.bool r):=by
 refine zk (rs:=[.tmp 4]) U Tryz.func183 rfl Tryz.ntmps183 rfl Tryz.call183 (by simp) ?_;refine zu [(0,.agg (wd a0)),(1,.int .i64 a1)] ⟨rfl,rfl,trivial⟩ ?_;unfold Zo at h;refine rgW [1,2] @wd.eq_1 ?_
 refine za fun Z1 hZ1=>?_
 refine O [1,2,6] ?_;apply zj;refine O [1,2,6,7] ?_;refine zR rfl (fun hc2=>?_) (fun hc2=>?_)
 · rw[if_pos hc2] at h;have t3:=eq_true hc2
   refine rc [4] fun K J=>?_
   refine rnW 3 t3 ?_;refine yv 3 (fun L τ=>L=[(14,.bool ((decide ((-2147483648)≤a1))&&(decide (a1≤2147483647))))]∧τ=([.cells 0 [.int .i64 a0.fKind,.str a0.fName]]:zf)) ?_ ?_
   · refine Yz 11 rfl (fun hg11=>?_) (fun hg11=>?_)
     · have t4:=eq_true hg11;refine κ 3 ?_;refine zl ⟨rfl,_,_,⟨rfl,rfl⟩,.p t4⟩
     have t5:=eq_false hg11;refine κ 3 ?_;refine zl ⟨rfl,_,_,⟨rfl,rfl⟩,.p t5⟩
   rintro _ _ ⟨rfl,rfl⟩;refine κ 1 ?_;refine nkN J ?_;cases h;exact rtA
 rw[if_neg hc2] at h;have t6:=eq_false hc2;refine rgW [1,2,6,15] t6 ?_;refine zR rfl (fun hc7=>?_) (fun hc7=>?_)
 · rw[if_pos hc7] at h;have t8:=eq_true hc7
   refine rc [4] fun K J=>?_
   refine rnW 3 t8 ?_;refine yv 3 (fun L τ=>L=[(22,.bool ((decide (a1=0))||(decide (a1=1))))]∧τ=([.cells 0 [.int .i64 a0.fKind,.str a0.fName]]:zf)) ?_ ?_
   · refine Yz 19 rfl (fun hg19=>?_) (fun hg19=>?_)
     · have t9:=eq_true hg19;refine κ 3 ?_;refine zl ⟨rfl,_,_,⟨rfl,rfl⟩,.p t9⟩
     have t10:=eq_false hg19;refine κ 3 ?_;refine zl ⟨rfl,_,_,⟨rfl,rfl⟩,.p t10⟩
   rintro _ _ ⟨rfl,rfl⟩;refine κ 1 ?_;refine nkN J ?_;cases h;exact rtA
 rw[if_neg hc7] at h;have t11:=eq_false hc7;refine rgW [1,2,23] t11 ?_;refine zR rfl (fun hc12=>?_) (fun hc12=>?_)
 · rw[if_pos hc12] at h;have t13:=eq_true hc12
   refine rc [4] fun K J=>?_
   refine rnW 3 t13 ?_;refine yv 3 (fun L τ=>L=[(30,.bool ((decide (0≤a1))&&(decide (a1≤2147483647))))]∧τ=([.cells 0 [.int .i64 a0.fKind,.str a0.fName]]:zf)) ?_ ?_
   · refine Yz 27 rfl (fun hg27=>?_) (fun hg27=>?_)
     · have t14:=eq_true hg27;refine κ 3 ?_;refine zl ⟨rfl,_,_,⟨rfl,rfl⟩,.p t14⟩
     have t15:=eq_false hg27;refine κ 3 ?_;refine zl ⟨rfl,_,_,⟨rfl,rfl⟩,.p t15⟩
   rintro _ _ ⟨rfl,rfl⟩;refine κ 1 ?_;refine nkN J ?_;cases h;exact rtA
 rw[if_neg hc12] at h;have t16:=eq_false hc12;apply zg;apply hZ1;refine rgW [4] t16 ?_;cases h;exact rtA
def YF (a0:zi):Bool:=
 ((((((decide (1≤a0.fKind))&&(decide (a0.fKind≤3)))&&(decide (a0.fN=0)))&&(decide (a0.fS=[])))&&(decide ((qa a0.fEntries:Int)=0)))&&(decide ((qa a0.fRest:Int)=0)))
theorem YF.ok {a0 r}(h:YF a0=r):ACalls qf 143 [.agg (zb a0)] [] (fun r' _=>r'=.bool r):=by
 refine zk (rs:=[.tmp 2]) U Tryz.func143 rfl Tryz.ntmps143 rfl Tryz.call143 (by simp) ?_;refine zu [(0,.agg (zb a0))] ⟨rfl,trivial⟩ ?_;unfold YF at h;refine rgW [1] @zb.eq_1 ?_
 refine rc [2] fun K J=>?_
 refine κ 4 ?_;refine yv 4 (fun L τ=>L=[(1,.op 0 0 0),(10,.bool ((decide (1≤a0.fKind))&&(decide (a0.fKind≤3))))]∧τ=([.cells 0 (zb a0)]:zf)) ?_ ?_
 · refine Yz 6 rfl (fun hg6=>?_) (fun hg6=>?_)
   · have t1:=eq_true hg6;refine κ 4 ?_;refine zl ⟨rfl,_,_,⟨rfl,rfl⟩,.p t1⟩
   have t2:=eq_false hg6;refine κ 4 ?_;refine zl ⟨rfl,_,_,⟨rfl,rfl⟩,.p t2⟩
 rintro _ _ ⟨rfl,rfl⟩;refine κ 1 ?_;refine yv 4 (fun L τ=>L=[(1,.op 0 0 0),(15,.bool (((decide (1≤a0.fKind))&&(decide (a0.fKind≤3)))&&(decide (a0.fN=0))))]∧τ=([.cells 0 (zb a0)]:zf)) ?_ ?_
 · refine xm (b:=((decide (1≤a0.fKind))&&(decide (a0.fKind≤3)))) 11 rfl (fun hg11=>?_) (fun hg11=>?_)
   · refine κ 4 ?_;refine zl ⟨rfl,_,_,⟨rfl,rfl⟩,.b hg11⟩
   refine κ 4 ?_;refine zl ⟨rfl,_,_,⟨rfl,rfl⟩,.b hg11⟩
 rintro _ _ ⟨rfl,rfl⟩;refine κ 1 ?_;refine yv 4 (fun L τ=>L=[(1,.op 0 0 0),(20,.bool ((((decide (1≤a0.fKind))&&(decide (a0.fKind≤3)))&&(decide (a0.fN=0)))&&(decide (a0.fS=[]))))]∧τ=([.cells 0 (zb a0)]:zf)) ?_ ?_
 · refine xm (b:=(((decide (1≤a0.fKind))&&(decide (a0.fKind≤3)))&&(decide (a0.fN=0)))) 16 rfl (fun hg16=>?_) (fun hg16=>?_)
   · refine κ 4 ?_;refine zl ⟨rfl,_,_,⟨rfl,rfl⟩,.b hg16⟩
   refine κ 4 ?_;refine zl ⟨rfl,_,_,⟨rfl,rfl⟩,.b hg16⟩
 rintro _ _ ⟨rfl,rfl⟩;refine κ 1 ?_;refine yv 5 (fun L τ=>L=[(1,.op 0 0 0),(26,.bool (((((decide (1≤a0.fKind))&&(decide (a0.fKind≤3)))&&(decide (a0.fN=0)))&&(decide (a0.fS=[])))&&(decide ((qa a0.fEntries:Int)=0))))]∧τ=([.cells 0 (zb a0)]:zf)) ?_ ?_
 · refine xm (b:=((((decide (1≤a0.fKind))&&(decide (a0.fKind≤3)))&&(decide (a0.fN=0)))&&(decide (a0.fS=[])))) 21 rfl (fun hg21=>?_) (fun hg21=>?_)
   · refine κ 5 ?_;refine zl ⟨rfl,_,_,⟨rfl,rfl⟩,.b hg21⟩
   refine κ 5 ?_;refine zl ⟨rfl,_,_,⟨rfl,rfl⟩,.b hg21⟩
 rintro _ _ ⟨rfl,rfl⟩;refine κ 1 ?_;refine yv 5 (fun L τ=>L=[(32,.bool ((((((decide (1≤a0.fKind))&&(decide (a0.fKind≤3)))&&(decide (a0.fN=0)))&&(decide (a0.fS=[])))&&(decide ((qa a0.fEntries:Int)=0)))&&(decide ((qa a0.fRest:Int)=0))))]∧τ=([.cells 0 (zb a0)]:zf)) ?_ ?_
 · refine xm (b:=(((((decide (1≤a0.fKind))&&(decide (a0.fKind≤3)))&&(decide (a0.fN=0)))&&(decide (a0.fS=[])))&&(decide ((qa a0.fEntries:Int)=0)))) 27 rfl (fun hg27=>?_) (fun hg27=>?_)
   · refine κ 5 ?_;refine zl ⟨rfl,_,_,⟨rfl,rfl⟩,.b hg27⟩
   refine κ 5 ?_;refine zl ⟨rfl,_,_,⟨rfl,rfl⟩,.b hg27⟩
 rintro _ _ ⟨rfl,rfl⟩;refine κ 1 ?_;refine nkN J ?_;cases h;exact rtA
def xu.j20 (x5:Int)(l4:List xF)(rec8:Int→List xF→Option (List xF))(y8:xF)(x15:Int)(rec17:Int→Option (List xF))(x19:Bool):Option (List xF):=
 (if x19=true then (rec17 (IntKind.i64.wrap (x15-1))) else (grd ((0:Int)≤IntKind.i64.wrap (x15+1)∧IntKind.i64.wrap (x15+1)≤x5+1∧x5+1≤(qa l4:Int))).bind fun _u22=>(grd ((0:Int)≤x15∧x15≤x5∧x5≤(qa l4:Int))).bind fun _u24=>(Yl (vdc l4 (q2 (IntKind.i64.wrap (x15+1))) (q2 x15) (min (q2 x5-q2 x15) (q2 (x5+1)-q2 (IntKind.i64.wrap (x15+1))))) x15).bind fun y28=>(rec8 (x5+1) (setI (vdc l4 (q2 (IntKind.i64.wrap (x15+1))) (q2 x15) (min (q2 x5-q2 x15) (q2 (x5+1)-q2 (IntKind.i64.wrap (x15+1))))) x15 y8)))
def xu.l17 (x5:Int)(l4:List xF)(rec8:Int→List xF→Option (List xF))(y8:xF):Nat→Int→Option (List xF)
 |0,_=>none
 |k17+1,x15=>(if 0<x15 then (Yl l4 (IntKind.i64.wrap (x15-1))).bind fun y33=>(xu.j20 x5 l4 rec8 y8 x15 (xu.l17 x5 l4 rec8 y8 k17) (decide (y8.fTag<y33.fTag))) else (xu.j20 x5 l4 rec8 y8 x15 (xu.l17 x5 l4 rec8 y8 k17) false))
def xu.l8 : List xF→Int→List xF→Option (List xF)
 |[],x5,l4=>some l4
 |y8::q8,x5,l4=>(xu.l17 x5 l4 (xu.l8 q8) y8 yp x5)
def xu (a0:List xF):Option (List xF):=
 (grd ((0:Int)≤(qa a0:Int)∧(40:Int)*(qa a0:Int)≤281474976710656∧(qa a0:Int)<9223372036854775807)).bind fun _u1=>(xu.l8 a0 0 (qN (q2 (qa a0:Int)) ((⟨0,0,0,[]⟩:xF):xF)))
theorem xu.ok {a0 r}(h:xu a0=some r):ACalls qf 190 [.ds true (qb zA a0) (qa a0) false] [] (fun r' _=>r'=.ds true (qb zA r) (qa r) false):=by
 refine zk (rs:=[.tmp 2]) U Tryz.func190 rfl Tryz.ntmps190 rfl Tryz.call190 (by simp) ?_;refine zu [(0,.ds true (qb zA a0) (qa a0) false)] ⟨rfl,trivial⟩ ?_;unfold xu at h;refine O [0] ?_;obtain⟨_u1,hu1,h⟩:=bind_some h;have gu1:=Yb hu1;have f2:=E35.mk0 rfl (z:=((⟨0,0,0,[]⟩:xF):xF)) rfl rfl gu1 .i64 .i64;refine rgW [0,3] f2 ?_;refine yX (L:=[(0,.ds true (qb zA a0) (qa a0) false),(3,.os true 4 0 0 0 (qa (qN (q2 (qa a0:Int)) ((⟨0,0,0,[]⟩:xF):xF))) true)]) (τ:=[.cells 0 (qb zA (qN (q2 (qa a0:Int)) ((⟨0,0,0,[]⟩:xF):xF)))]) .s ?_
 refine za fun Z3 hZ3=>?_
 refine O [3,10,11,12] ?_;apply zj
 refine xq 10 fun hb8=>?_
 replace hb8:qa a0≤9223372036854775807:=hb8.1;refine zG (fun m L τ=>∃ (p8 q8:List xF) (x5:Int) (l4:List xF),m=qa q8∧L=[(3,.os true 4 0 0 0 (qa l4) true),(10,.ds true (qb zA a0) (qa a0) false),(11,.int .i64 (qa a0:Int)),(12,.int .i64 x5)]∧τ=([.cells 0 (qb zA l4)]:zf)∧a0=p8++q8∧x5=(qa p8:Int)∧xu.l8 q8 x5 l4=some r) _ ⟨[],a0,0,qN (q2 (qa a0:Int)) ((⟨0,0,0,[]⟩:xF):xF),rfl,rfl,rfl,rfl,rfl,h⟩ .s ?_;rintro m L τ ⟨p8,q8,x5,l4,rfl,rfl,rfl,hE8,hi8,h⟩
 rcases q8 with _|⟨y8,q8⟩
 · have hz8:=yH hE8 hi8;simp only[xu.l8] at h;refine rgW [3,10,11,12,13] hz8 ?_
   refine za fun Z9 hZ9=>?_
   refine zD rfl ?_;apply zJ;apply hZ3;refine O [2] ?_;cases h;exact rtA
 obtain⟨hz8,hw8,hx8,hE'8,hi'8⟩:=yo hE8 hi8 hb8;simp only[xu.l8] at h;refine rgW [3,10,11,12,13] hz8 ?_
 refine za fun Z10 hZ10=>?_
 refine zE rfl ?_;apply zg;apply hZ10
 refine za fun Z11 hZ11=>?_
 apply zj;have f12:=E35.idxS hx8;have f13:=E35.loadS rfl rfl hx8;refine rgW [3,4,5,10,11,12] (aI @zA.eq_1 (aI f12 f13)) ?_;refine O [3,4,5,6,10,11,12] ?_
 refine za fun Z14 hZ14=>?_
 apply zj;refine zG (fun m L τ=>∃ (k17:Nat) (x15:Int),m=0+k17∧L=[(3,.os true 4 0 0 0 (qa l4) true),(4,.int .i64 x5),(5,.op 1 0 0),(6,.int .i64 x15),(10,.ds true (qb zA a0) (qa a0) false),(11,.int .i64 (qa a0:Int)),(12,.int .i64 x5)]∧τ=([.cells 0 (qb zA l4),.cells 0 [.int .i64 y8.fTag,.int .i64 y8.fWire,.int .i64 y8.fN,.str y8.fB]]:zf)∧xu.l17 x5 l4 (xu.l8 q8) y8 k17 x15=some r) _ ⟨yp,x5,rfl,rfl,rfl,h⟩ .s ?_;rintro m L τ ⟨k17,x15,rfl,rfl,rfl,h⟩
 rcases k17 with _|k17
 · cases h
 simp only[xu.l17] at h
 refine za fun Z18 hZ18=>?_
 refine we (fun L τ=>∃ (x19:Bool),L=[(3,.os true 4 0 0 0 (qa l4) true),(4,.int .i64 x5),(5,.op 1 0 0),(6,.int .i64 x15),(10,.ds true (qb zA a0) (qa a0) false),(11,.int .i64 (qa a0:Int)),(12,.int .i64 x5),(30,.bool x19)]∧τ=([.cells 0 (qb zA l4),.cells 0 [.int .i64 y8.fTag,.int .i64 y8.fWire,.int .i64 y8.fN,.str y8.fB]]:zf)∧xu.j20 x5 l4 (xu.l8 q8) y8 x15 (xu.l17 x5 l4 (xu.l8 q8) y8 k17) x19=some r) ?_ ?_
 · refine rdE [3,4,5,6,10,11,12,30] fun K J=>?_
   refine DW.start (T:=tab) [.any,.any,.any,.any,.any,.any,.any,.any,.at [],.any,.at [],.any,.any] [] ?_;refine DW.runN U 3 ?_;simp only[go_sem,qd,qc]
   refine DW.if 20 rfl (fun hg20=>?_) (fun hg20=>?_)
   · rw[if_pos hg20] at h;have t32:=eq_true hg20;obtain⟨y33,hy33,h⟩:=bind_some h;have f34:=E35.idxO hy33;have f35:=E35.rdfO0 hy33;refine DW.runN U 8 ?_;simp only[go_sem,qd,qc,qe,zA,t32,f34,f35];refine DW.runN U 2 ?_;simp only[go_sem,qd,qc];refine DW.fin U (by decide +kernel) rfl ?_;simp only[zq,upd,qc,reduceIte,yD,xj];apply J
     exact⟨_,_,⟨decide (y8.fTag<y33.fTag),rfl,rfl,h⟩,.s⟩
   rw[if_neg hg20] at h;have t36:=eq_false hg20;refine DW.runN U 8 ?_;simp only[go_sem,qd,qc,t36];refine DW.runN U 2 ?_;simp only[go_sem,qd,qc];refine DW.fin U (by decide +kernel) rfl ?_;simp only[zq,upd,qc,reduceIte,yD,xj];apply J
   exact⟨_,_,⟨false,rfl,rfl,h⟩,.s⟩
 rintro _ _ ⟨x19,rfl,rfl,h⟩;unfold xu.j20 at h;refine zB (b:=x19) rfl (fun hc21=>?_) (fun hc21=>?_)
 · rw[if_pos hc21] at h;apply zg;apply hZ18;apply zj
   refine rgE U [3,4,5,6,10,11,12] fun K J=>?_
   simp only[go_sem,qd,qc];apply J
   exact⟨_,_,_,qo (0+k17),⟨k17,IntKind.i64.wrap (x15-1),rfl,rfl,rfl,h⟩,.s⟩
 rw[wn hc21] at h;apply zJ;apply hZ14;obtain⟨_u22,hu22,h⟩:=bind_some h;have gu22:=Yb hu22
 have f23:=fun id ver=>E35.slO gu22 .i64 .i64 id ver true
 obtain⟨_u24,hu24,h⟩:=bind_some h;have gu24:=Yb hu24
 have f25:=fun id ver=>E35.slO gu24 .i64 .i64 id ver true
 have f26:=fun (τ:zf) (t1 t2:Bool)=>E35.cpO vaO.h gu22 gu24 t1 t2 (.cells 0 (qb zA l4)::τ) 0 0 (by simp only[zf.at_hd,if_true]) rfl
 have f27:qa (vdc l4 (q2 (IntKind.i64.wrap (x15+1))) (q2 x15) (min (q2 x5-q2 x15) (q2 (x5+1)-q2 (IntKind.i64.wrap (x15+1)))))=qa l4:=copyI_length (by omega) (by omega)
 refine rd [3,5,6,10,11,12] fun K J=>?_
 refine DW.start (T:=tab) [.any,.any,.any,.any,.any,.any,.any,.any,.any,.any,.eff] [] ?_;refine DW.runN U 8 ?_;simp only[go_sem,qd,qc,hw8,f23];refine DW.runN U 3 ?_;simp only[go_sem,qd,qc,f25,f26];refine DW.fin U (by decide +kernel) rfl ?_;simp only[zq,upd,qc,reduceIte,yD,xj];apply J
 refine yX (L:=[(3,.os true 4 0 0 0 (qa (vdc l4 (q2 (IntKind.i64.wrap (x15+1))) (q2 x15) (min (q2 x5-q2 x15) (q2 (x5+1)-q2 (IntKind.i64.wrap (x15+1)))))) true),(5,.op 1 0 0),(6,.int .i64 x15),(10,.ds true (qb zA a0) (qa a0) false),(11,.int .i64 (qa a0:Int)),(12,.int .i64 x5)]) (τ:=[.cells 0 (qb zA (vdc l4 (q2 (IntKind.i64.wrap (x15+1))) (q2 x15) (min (q2 x5-q2 x15) (q2 (x5+1)-q2 (IntKind.i64.wrap (x15+1)))))),.cells 0 [.int .i64 y8.fTag,.int .i64 y8.fWire,.int .i64 y8.fN,.str y8.fB]]) (.same (by first|exact⟨rfl,rfl,rfl,rfl,rfl,rfl,trivial⟩|rfl|(simp only[go_sem,qc,vdh,f27,and_self]<;>rfl)) (by first|exact⟨rfl,rfl,rfl,rfl,rfl,rfl,trivial⟩|rfl|(simp only[go_sem,qd,qg,qc,qe,qj,qr,reduceIte,reduceCtorEq,vdh,XD,ZC,vck,encK,Xf,um,ua,uo,qT,qC,qt,qk,qp,ql,qP,qK,Nat.add_assoc,zA,f27,and_self]<;>rfl))) ?_;obtain⟨y28,hy28,h⟩:=bind_some h;have f29:=E35.idxO hy28;have f30:=E35.stOc hy28;have f31:=E35.stOr hy28 (y:=y8) (cs:=[.int .i64 y8.fTag,.int .i64 y8.fWire,.int .i64 y8.fN,.str y8.fB]) rfl;simp only[wr] at f31
 refine rgE U [3,10,11,12] fun K J=>?_
 simp only[go_sem,qd,qg,qc,qe,f29,f30,f31];apply J
 apply hZ11
 refine rgE U [3,10,11,12] fun K J=>?_
 simp only[go_sem,qd,qc,hw8];apply J
 exact⟨_,_,_,qo q8.length,⟨p8++[y8],q8,x5+1,setI (vdc l4 (q2 (IntKind.i64.wrap (x15+1))) (q2 x15) (min (q2 x5-q2 x15) (q2 (x5+1)-q2 (IntKind.i64.wrap (x15+1))))) x15 y8,rfl,rfl,rfl,hE'8,hi'8,h⟩,(.t [0] false)⟩
def Y4.l12 (a1:Int):List UInt8→Int→Int→Option (Int×Int×Int)
 |[],x9,x8=>some (0,0,2)
 |y12::q12,x9,x8=>(if ((decide (x9=9))&&(decide (1<(y12.toNat:Int))))=true then some (0,0,3) else (grd (0≤IntKind.i64.wrap (7*x9))).bind fun _u23=>(if 128≤(y12.toNat:Int) then ((Y4.l12 a1 q12) (x9+1) (IntKind.u64.wrap ((uX (q3 64 x8 ||| q3 64 (IntKind.u64.wrap ((IntKind.u64.wrap (IntKind.u8.wrap ((uX (q3 8 (y12.toNat:Int) &&& ~~~(q3 8 128)):Nat):Int)))*2^(min (q2 (IntKind.i64.wrap (7*x9))) 64)))):Nat):Int))) else (if ((decide ((y12.toNat:Int)=0))&&(decide (0<x9)))=true then some (0,0,3) else some (IntKind.u64.wrap ((uX (q3 64 x8 ||| q3 64 (IntKind.u64.wrap ((IntKind.u64.wrap (IntKind.u8.wrap ((uX (q3 8 (y12.toNat:Int) &&& ~~~(q3 8 128)):Nat):Int)))*2^(min (q2 (IntKind.i64.wrap (7*x9))) 64)))):Nat):Int),IntKind.i64.wrap ((IntKind.i64.wrap (a1+x9))+1),0))))
def Y4 (a0:List UInt8)(a1:Int):Option (Int×Int×Int):=
 (if ((decide (a1<0))||(decide ((qa a0:Int)<a1)))=true then some (0,0,1) else (grd ((0:Int)≤a1∧a1≤IntKind.i64.wrap (a1+(if 10<IntKind.i64.wrap ((qa a0:Int)-a1) then 10 else IntKind.i64.wrap ((qa a0:Int)-a1)))∧IntKind.i64.wrap (a1+(if 10<IntKind.i64.wrap ((qa a0:Int)-a1) then 10 else IntKind.i64.wrap ((qa a0:Int)-a1)))≤(qa a0:Int))).bind fun _u6=>(Y4.l12 a1 (va3 a0 a1 (IntKind.i64.wrap (a1+(if 10<IntKind.i64.wrap ((qa a0:Int)-a1) then 10 else IntKind.i64.wrap ((qa a0:Int)-a1))))) 0 0))
theorem Y4.ok {a0 a1 r}(h:Y4 a0 a1=some r):ACalls qf 245 [.ds true (qb XD a0) (qa a0) false,.int .i64 a1] [] (fun r' _=>r'=.tup [.int .u64 r.1,.int .i64 r.2.1,.int .i64 r.2.2]):=by
 refine zk (rs:=[.tmp 4,.tmp 5,.tmp 6]) U Tryz.func245 rfl Tryz.ntmps245 rfl Tryz.call245 (by simp) ?_;refine zu [(0,.ds true (qb XD a0) (qa a0) false),(1,.int .i64 a1)] ⟨rfl,rfl,trivial⟩ ?_;unfold Y4 at h;refine O [0,1] ?_
 refine za fun Z1 hZ1=>?_
 refine rc [0,1,17] fun K J=>?_
 refine κ 3 ?_;refine yv 5 (fun L τ=>L=[(0,.ds true (qb XD a0) (qa a0) false),(1,.int .i64 a1),(17,.bool ((decide (a1<0))||(decide ((qa a0:Int)<a1))))]∧τ=([]:zf)) ?_ ?_
 · refine Yz 12 rfl (fun hg12=>?_) (fun hg12=>?_)
   · have t2:=eq_true hg12;refine κ 5 ?_;refine zl ⟨rfl,_,_,⟨rfl,rfl⟩,.p t2⟩
   have t3:=eq_false hg12;refine κ 5 ?_;refine zl ⟨rfl,_,_,⟨rfl,rfl⟩,.p t3⟩
 rintro _ _ ⟨rfl,rfl⟩;refine nkN J ?_;refine zB (b:=((decide (a1<0))||(decide ((qa a0:Int)<a1)))) rfl (fun hc4=>?_) (fun hc4=>?_)
 · rw[if_pos hc4] at h;refine O [4,5,6] ?_;cases h;exact rtA
 rw[wn hc4] at h;apply zg;apply hZ1;refine O [0,1,7] ?_
 refine za fun Z5 hZ5=>?_
 obtain⟨_u6,hu6,h⟩:=bind_some h;have gu6:=Yb hu6;have f7:=E48.sl_lh gu6
 refine rg U [1,7,27,28,29] fun K J=>?_
 simp only[go_sem,qd,qc,reduceCtorEq,vbo,vdv,vb5,f7];apply J
 apply zj
 refine xq 27 fun hb12=>?_
 replace hb12:qa (va3 a0 a1 (IntKind.i64.wrap (a1+(if 10<IntKind.i64.wrap ((qa a0:Int)-a1) then 10 else IntKind.i64.wrap ((qa a0:Int)-a1)))))≤9223372036854775807:=hb12.1;refine zG (fun m L τ=>∃ (p12 q12:List UInt8) (x9:Int) (x8:Int),m=qa q12∧L=[(1,.int .i64 a1),(7,.int .u64 x8),(27,.ds true (qb XD (va3 a0 a1 (IntKind.i64.wrap (a1+(if 10<IntKind.i64.wrap ((qa a0:Int)-a1) then 10 else IntKind.i64.wrap ((qa a0:Int)-a1)))))) (qa (va3 a0 a1 (IntKind.i64.wrap (a1+(if 10<IntKind.i64.wrap ((qa a0:Int)-a1) then 10 else IntKind.i64.wrap ((qa a0:Int)-a1)))))) false),(28,.int .i64 (qa (va3 a0 a1 (IntKind.i64.wrap (a1+(if 10<IntKind.i64.wrap ((qa a0:Int)-a1) then 10 else IntKind.i64.wrap ((qa a0:Int)-a1))))):Int)),(29,.int .i64 x9)]∧τ=([]:zf)∧va3 a0 a1 (IntKind.i64.wrap (a1+(if 10<IntKind.i64.wrap ((qa a0:Int)-a1) then 10 else IntKind.i64.wrap ((qa a0:Int)-a1))))=p12++q12∧x9=(qa p12:Int)∧Y4.l12 a1 q12 x9 x8=some r) _ ⟨[],va3 a0 a1 (IntKind.i64.wrap (a1+(if 10<IntKind.i64.wrap ((qa a0:Int)-a1) then 10 else IntKind.i64.wrap ((qa a0:Int)-a1)))),0,0,rfl,rfl,rfl,rfl,rfl,h⟩ .s ?_;rintro m L τ ⟨p12,q12,x9,x8,rfl,rfl,rfl,hE12,hi12,h⟩
 rcases q12 with _|⟨y12,q12⟩
 · have hz12:=yH hE12 hi12;simp only[Y4.l12] at h;refine rgW [1,7,27,28,29,30] hz12 ?_
   refine za fun Z13 hZ13=>?_
   refine zD rfl ?_;apply zJ;apply hZ5;refine O [4,5,6] ?_;cases h;exact rtA
 obtain⟨hz12,hw12,hx12,hE'12,hi'12⟩:=yo hE12 hi12 hb12;simp only[Y4.l12] at h;refine rgW [1,7,27,28,29,30] hz12 ?_
 refine za fun Z14 hZ14=>?_
 refine zE rfl ?_;apply zg;apply hZ14
 refine za fun Z15 hZ15=>?_
 apply zj;have f16:=E48.idxS hx12;have f17:=E48.fldS0 (f:=5) rfl rfl hx12
 refine rg U [1,7,8,9,27,28,29] fun K J=>?_
 simp only[go_sem,qd,qc,XD,f16,f17];apply J
 refine za fun Z18 hZ18=>?_
 refine rc [1,7,8,9,27,28,29,39] fun K J=>?_
 refine κ 3 ?_;refine yv 3 (fun L τ=>L=[(1,.int .i64 a1),(7,.int .u64 x8),(8,.int .i64 x9),(9,.int .u8 (y12.toNat:Int)),(27,.ds true (qb XD (va3 a0 a1 (IntKind.i64.wrap (a1+(if 10<IntKind.i64.wrap ((qa a0:Int)-a1) then 10 else IntKind.i64.wrap ((qa a0:Int)-a1)))))) (qa (va3 a0 a1 (IntKind.i64.wrap (a1+(if 10<IntKind.i64.wrap ((qa a0:Int)-a1) then 10 else IntKind.i64.wrap ((qa a0:Int)-a1)))))) false),(28,.int .i64 (qa (va3 a0 a1 (IntKind.i64.wrap (a1+(if 10<IntKind.i64.wrap ((qa a0:Int)-a1) then 10 else IntKind.i64.wrap ((qa a0:Int)-a1))))):Int)),(29,.int .i64 x9),(39,.bool ((decide (x9=9))&&(decide (1<(y12.toNat:Int)))))]∧τ=([]:zf)) ?_ ?_
 · refine Yz 36 rfl (fun hg36=>?_) (fun hg36=>?_)
   · have t19:=eq_true hg36;refine κ 3 ?_;refine zl ⟨rfl,_,_,⟨rfl,rfl⟩,.p t19⟩
   have t20:=eq_false hg36;refine κ 3 ?_;refine zl ⟨rfl,_,_,⟨rfl,rfl⟩,.p t20⟩
 rintro _ _ ⟨rfl,rfl⟩;refine nkN J ?_;refine zB (b:=((decide (x9=9))&&(decide (1<(y12.toNat:Int))))) rfl (fun hc21=>?_) (fun hc21=>?_)
 · rw[if_pos hc21] at h;refine O [4,5,6] ?_;cases h;exact rtA
 rw[wn hc21] at h;apply zg;apply hZ18;have f22:=ZY (T:=tab) (src:=5) (dst:=287) rfl rfl rfl;obtain⟨_u23,hu23,h⟩:=bind_some h;have gu23:=Yb hu23;have gu23n:(IntKind.i64.wrap (7*x9)<0)=False:=eq_false (by omega)
 refine rg U [1,7,8,9,27,28,29] fun K J=>?_
 simp only[go_sem,qd,qc,f22,gu23n,vbH];apply J
 refine za fun Z24 hZ24=>?_
 refine O [1,7,8,9,27,28,29,49] ?_;refine zR rfl (fun hc25=>?_) (fun hc25=>?_)
 · rw[if_pos hc25] at h;have t26:=eq_true hc25;apply zJ;apply hZ15
   refine rgE U [1,7,27,28,29] fun K J=>?_
   simp only[go_sem,qd,qc,hw12,t26];apply J
   exact⟨_,_,_,qo q12.length,⟨p12++[y12],q12,x9+1,IntKind.u64.wrap ((uX (q3 64 x8 ||| q3 64 (IntKind.u64.wrap ((IntKind.u64.wrap (IntKind.u8.wrap ((uX (q3 8 (y12.toNat:Int) &&& ~~~(q3 8 128)):Nat):Int)))*2^(min (q2 (IntKind.i64.wrap (7*x9))) 64)))):Nat):Int),rfl,rfl,rfl,hE'12,hi'12,h⟩,.s⟩
 rw[if_neg hc25] at h;have t27:=eq_false hc25;apply zg;apply hZ24
 refine za fun Z28 hZ28=>?_
 refine rc [1,7,8,55] fun K J=>?_
 refine rnW 3 t27 ?_;refine yv 3 (fun L τ=>L=[(1,.int .i64 a1),(7,.int .u64 (IntKind.u64.wrap ((uX (q3 64 x8 ||| q3 64 (IntKind.u64.wrap ((IntKind.u64.wrap (IntKind.u8.wrap ((uX (q3 8 (y12.toNat:Int) &&& ~~~(q3 8 128)):Nat):Int)))*2^(min (q2 (IntKind.i64.wrap (7*x9))) 64)))):Nat):Int))),(8,.int .i64 x9),(55,.bool ((decide ((y12.toNat:Int)=0))&&(decide (0<x9))))]∧τ=([]:zf)) ?_ ?_
 · refine Yz 52 rfl (fun hg52=>?_) (fun hg52=>?_)
   · have t29:=eq_true hg52;refine κ 3 ?_;refine zl ⟨rfl,_,_,⟨rfl,rfl⟩,.p t29⟩
   have t30:=eq_false hg52;refine κ 3 ?_;refine zl ⟨rfl,_,_,⟨rfl,rfl⟩,.p t30⟩
 rintro _ _ ⟨rfl,rfl⟩;refine nkN J ?_;refine zB (b:=((decide ((y12.toNat:Int)=0))&&(decide (0<x9)))) rfl (fun hc31=>?_) (fun hc31=>?_)
 · rw[if_pos hc31] at h;refine O [4,5,6] ?_;cases h;exact rtA
 rw[wn hc31] at h;apply zg;apply hZ28;refine O [4,5,6] ?_;cases h;exact rtA
end
section
set_option maxRecDepth 4000
set_option maxHeartbeats 1000000
open AM
def vco (a0:Int):Int:=
 IntKind.i64.wrap ((uX (q3 64 (IntKind.i64.wrap (Int.fdiv a0 (2^(min (q2 1) 64)))) ^^^ q3 64 (IntKind.i64.wrap (0-(IntKind.i64.wrap (IntKind.u64.wrap ((uX (q3 64 a0 &&& q3 64 1):Nat):Int)))))):Nat):Int)
theorem vco.ok {a0 r}(h:vco a0=r):ACalls qf 246 [.int .u64 a0] [] (fun r' _=>r'=.int .i64 r):=by
 refine zk (rs:=[.tmp 2]) U Tryz.func246 rfl Tryz.ntmps246 rfl Tryz.call246 (by simp) ?_;refine zu [(0,.int .u64 a0)] ⟨rfl,trivial⟩ ?_;unfold vco at h;refine O [0] ?_;have f1:=ZY (T:=tab) (src:=287) (dst:=3) rfl rfl rfl;have f2:=ZY (T:=tab) (src:=287) (dst:=3) rfl rfl rfl
 refine rg U [2] fun K J=>?_
 simp only[go_sem,qd,qc,reduceCtorEq,f1,vbH,Int.reduceLT];apply J
 cases h;exact rtA
def vcl (a0:List UInt8)(a1:Int):Option (xF×Int×Int):=
 (Y4 a0 a1).bind fun r1=>(if r1.2.2=0 then (if ((decide (r1.1<2))||(decide (500<IntKind.u64.wrap ((r1.1).tdiv 2))))=true then some ((⟨0,0,0,[]⟩:xF),0,7) else (Y4 a0 r1.2.1).bind fun r11=>(if r11.2.2=0 then (if IntKind.i64.wrap ((r1.1).tmod 2)=0 then bnd (vco r11.1) fun r18=>some ((⟨IntKind.i64.wrap (IntKind.u64.wrap ((r1.1).tdiv 2)),IntKind.i64.wrap ((r1.1).tmod 2),r18,[]⟩:xF),r11.2.1,0) else (if IntKind.u64.wrap (IntKind.i64.wrap ((qa a0:Int)-r11.2.1))<r11.1 then some ((⟨0,0,0,[]⟩:xF),0,2) else (grd ((0:Int)≤r11.2.1∧r11.2.1≤IntKind.i64.wrap (r11.2.1+(IntKind.i64.wrap r11.1))∧IntKind.i64.wrap (r11.2.1+(IntKind.i64.wrap r11.1))≤(qa a0:Int))).bind fun _u25=>some ((⟨IntKind.i64.wrap (IntKind.u64.wrap ((r1.1).tdiv 2)),IntKind.i64.wrap ((r1.1).tmod 2),0,va3 a0 r11.2.1 (IntKind.i64.wrap (r11.2.1+(IntKind.i64.wrap r11.1)))⟩:xF),IntKind.i64.wrap (r11.2.1+(IntKind.i64.wrap r11.1)),0))) else some ((⟨0,0,0,[]⟩:xF),0,r11.2.2))) else some ((⟨0,0,0,[]⟩:xF),0,r1.2.2))
theorem vcl.ok {a0 a1 r}(h:vcl a0 a1=some r):ACalls qf 231 [.ds true (qb XD a0) (qa a0) false,.int .i64 a1] [] (fun r' _=>r'=.tup [.agg (zA r.1),.int .i64 r.2.1,.int .i64 r.2.2]):=by
 refine zk (rs:=[.cell 4 139,.tmp 5,.tmp 6]) U Tryz.func231 rfl Tryz.ntmps231 rfl Tryz.call231 (by simp) ?_;refine zu [(0,.ds true (qb XD a0) (qa a0) false),(1,.int .i64 a1)] ⟨rfl,rfl,trivial⟩ ?_;unfold vcl at h;refine O [0,1,4] ?_
 refine rc [0,1,4,7,8] fun K J=>?_
 obtain⟨r1,hr1,h⟩:=bind_some h;refine κ 2 ?_;refine clN rfl rfl rfl ((Y4.ok hr1).c _) ?_;refine κ 7 ?_;refine nkN J ?_
 refine za fun Z2 hZ2=>?_
 apply zj;refine O [0,1,4,7,8,19] ?_;refine zR rfl (fun hc3=>?_) (fun hc3=>?_)
 · rw[if_neg hc3] at h;have t4:=eq_false hc3;refine rgW [4,5,6] t4 ?_;cases h;exact rtA
 rw[if_pos hc3] at h;have t5:=eq_true hc3
 refine rc [0,1,4,7,24] fun K J=>?_
 refine rnW 3 t5 ?_;refine yv 4 (fun L τ=>L=[(0,.ds true (qb XD a0) (qa a0) false),(1,.int .i64 r1.2.1),(4,.op 0 0 0),(7,.int .u64 r1.1),(31,.bool ((decide (r1.1<2))||(decide (500<IntKind.u64.wrap ((r1.1).tdiv 2)))))]∧τ=([.cells 0 [.int .i64 0,.int .i64 0,.int .i64 0,.str []]]:zf)) ?_ ?_
 · refine Yz 27 rfl (fun hg27=>?_) (fun hg27=>?_)
   · have t6:=eq_true hg27;refine κ 4 ?_;refine zl ⟨rfl,_,_,⟨rfl,rfl⟩,.p t6⟩
   have t7:=eq_false hg27;refine xO U 4 ?_;simp only[go_sem,qd,qc,reduceCtorEq,Int.reduceEq];refine zl ⟨rfl,_,_,⟨rfl,rfl⟩,.p t7⟩
 rintro _ _ ⟨rfl,rfl⟩;refine κ 1 ?_;refine nkN J ?_;refine zB (b:=((decide (r1.1<2))||(decide (500<IntKind.u64.wrap ((r1.1).tdiv 2))))) rfl (fun hc8=>?_) (fun hc8=>?_)
 · rw[if_pos hc8] at h;refine O [4,5,6] ?_;cases h;exact rtA
 rw[wn hc8] at h;apply zg;apply hZ2;have f9:=ZY (T:=tab) (src:=287) (dst:=3) rfl rfl rfl;have f10:=ZY (T:=tab) (src:=287) (dst:=3) rfl rfl rfl
 refine rg U [0,1,4,9] fun K J=>?_
 simp only[go_sem,qd,qg,qc,qe,reduceCtorEq,f9,Int.reduceEq];apply J
 refine rc [0,1,4,8,9,10] fun K J=>?_
 obtain⟨r11,hr11,h⟩:=bind_some h;refine κ 2 ?_;refine clN rfl rfl rfl ((Y4.ok hr11).c _) ?_;refine κ 7 ?_;refine nkN J ?_
 refine za fun Z12 hZ12=>?_
 apply zj;refine O [0,1,4,8,9,10,47] ?_;refine zR rfl (fun hc13=>?_) (fun hc13=>?_)
 · rw[if_neg hc13] at h;have t14:=eq_false hc13;refine rgW [4,5,6] t14 ?_;cases h;exact rtA
 rw[if_pos hc13] at h;have t15:=eq_true hc13;refine rgW [0,1,4,9,10,52] t15 ?_;refine zR rfl (fun hc16=>?_) (fun hc16=>?_)
 · rw[if_pos hc16] at h;have t17:=eq_true hc16
   refine rc [1,4,9] fun K J=>?_
   obtain⟨r18,hr18,h⟩:=yb h;refine rnW 1 t17 ?_;refine clN rfl rfl rfl ((vco.ok hr18).c _) ?_;refine rnW 2 @zA.eq_1 ?_;refine nkN J ?_;refine O [4,5,6] ?_;cases h;exact rtA
 rw[if_neg hc16] at h;have t19:=eq_false hc16;have f20:=ZY (T:=tab) (src:=3) (dst:=287) rfl rfl rfl;refine rgW [0,1,4,9,10,61] (aI t19 f20) ?_;refine zR rfl (fun hc21=>?_) (fun hc21=>?_)
 · rw[if_pos hc21] at h;have t22:=eq_true hc21;refine rgW [4,5,6] t22 ?_;cases h;exact rtA
 rw[if_neg hc21] at h;have t23:=eq_false hc21;apply zg;apply hZ12;have f24:=ZY (T:=tab) (src:=287) (dst:=3) rfl rfl rfl;refine rgW [0,1,4,9,11] (aI t23 f24) ?_;obtain⟨_u25,hu25,h⟩:=bind_some h;have gu25:=Yb hu25;have f26:=E48.sl_lh gu25;have f27:=conv_b2s (T:=tab) (src:=48) (dst:=9) rfl rfl rfl rfl rfl rfl (va3 a0 r11.2.1 (IntKind.i64.wrap (r11.2.1+(IntKind.i64.wrap r11.1))));refine rgW [4,9,11] (aI f26 f27) ?_;refine O [4,5,6] ?_;cases h;exact rtA
def XU.l12 (a0:List UInt8):Nat→List xF→Int→Option (List xF×Int)
 |0,_,_=>none
 |k12+1,l6,x8=>(if x8<(qa a0:Int) then (vcl a0 x8).bind fun r16=>(if r16.2.2=0 then (vao (qa l6+1) 40).bind fun _u21=>((XU.l12 a0 k12) (l6++[r16.1]) r16.2.1) else some (([]:List xF),r16.2.2)) else some (l6,0))
def XU (a0:List UInt8):Option (List xF×Int):=
 (if 4096<(qa a0:Int) then some (([]:List xF),4) else (XU.l12 a0 yp ([]:List xF) 0))
theorem XU.ok {a0 r}(h:XU a0=some r):ACalls qf 193 [.ds true (qb XD a0) (qa a0) false] [] (fun r' _=>r'=.tup [.ds true (qb zA r.1) (qa r.1) false,.int .i64 r.2]):=by
 refine zk (rs:=[.tmp 2,.tmp 3]) U Tryz.func193 rfl Tryz.ntmps193 rfl Tryz.call193 (by simp) ?_;refine zu [(0,.ds true (qb XD a0) (qa a0) false)] ⟨rfl,trivial⟩ ?_;unfold XU at h;refine O [0] ?_
 refine za fun Z1 hZ1=>?_
 refine O [0,11] ?_;refine zR rfl (fun hc2=>?_) (fun hc2=>?_)
 · rw[if_pos hc2] at h;have t3:=eq_true hc2;refine rgW [2,3] t3 ?_;cases h;exact rtA
 rw[if_neg hc2] at h;have t4:=eq_false hc2;apply zg;apply hZ1;refine rgW [0,4] t4 ?_;refine YA 4 4 rfl ?_;refine yX (L:=[(0,.ds true (qb XD a0) (qa a0) false),(4,.os true 4 0 0 0 (qa ([]:List xF)) false)]) (τ:=[.cells 0 (qb zA ([]:List xF))]) .s ?_
 refine za fun Z5 hZ5=>?_
 refine O [0,4,5] ?_;apply zj;refine zG (fun m L τ=>∃ (k12:Nat) (l6:List xF) (x8:Int) (v7:Nat),m=0+k12∧L=[(0,.ds true (qb XD a0) (qa a0) false),(4,.os true 4 0 v7 0 (qa l6) false),(5,.int .i64 x8)]∧τ=([.cells v7 (qb zA l6)]:zf)∧XU.l12 a0 k12 l6 x8=some r) _ ⟨yp,([]:List xF),0,0,rfl,rfl,rfl,h⟩ .s ?_;rintro m L τ ⟨k12,l6,x8,v7,rfl,rfl,rfl,h⟩
 rcases k12 with _|k12
 · cases h
 simp only[XU.l12] at h
 refine za fun Z13 hZ13=>?_
 refine O [0,4,5,15] ?_;refine zR rfl (fun hc14=>?_) (fun hc14=>?_)
 · rw[if_pos hc14] at h;have t15:=eq_true hc14;apply zg;apply hZ13;apply zj
   refine rc [0,4,6,7,8] fun K J=>?_
   obtain⟨r16,hr16,h⟩:=bind_some h;refine rnW 2 t15 ?_;refine clN rfl rfl rfl ((vcl.ok hr16).c _) ?_;refine rnW 8 @zA.eq_1 ?_;refine nkN J ?_
   refine za fun Z17 hZ17=>?_
   refine O [0,4,6,7,8,24] ?_;refine zR rfl (fun hc18=>?_) (fun hc18=>?_)
   · rw[if_neg hc18] at h;have t19:=eq_false hc18;refine rgW [2,3] t19 ?_;cases h;exact rtA
   rw[if_pos hc18] at h;have t20:=eq_true hc18;apply zg;apply hZ17;obtain⟨_u21,hu21,h⟩:=bind_some h;have gu21:=yR hu21;have f22:=(zU E35.len l6)
   refine rg U [0,4,7] fun K J=>?_
   simp only[go_sem,qd,qg,qc,qe,qj,reduceCtorEq,zM,yz,qV,qL,true_and,q5,yG,yf,yJ,t20,gu21,f22,yZ,qW,qQ,AV.one,qD,qC,qk,qp,ql,qK];apply J
   refine yX (L:=[(0,.ds true (qb XD a0) (qa a0) false),(4,.os true 4 0 (v7+1) 0 (qa (l6++[r16.1])) false),(7,.int .i64 r16.2.1)]) (τ:=[.cells (v7+1) (qb zA (l6++[r16.1])),.cells 0 [.int .i64 r16.1.fTag,.int .i64 r16.1.fWire,.int .i64 r16.1.fN,.str r16.1.fB],.cells 0 [.int .i64 r16.1.fTag,.int .i64 r16.1.fWire,.int .i64 r16.1.fN,.str r16.1.fB]]) .s ?_
   refine rgE U [0,4,5] fun K J=>?_
   simp only[go_sem,qd,qc,reduceCtorEq];apply J
   exact⟨_,_,_,qo (0+k12),⟨k12,l6++[r16.1],r16.2.1,v7+1,rfl,rfl,rfl,h⟩,(.t [0] false)⟩
 rw[if_neg hc14] at h;have t23:=eq_false hc14;apply zJ;apply hZ5;refine rgW [2,3] t23 ?_;cases h;exact rtA
def Y0 (a0:zp)(a1:Int):Int:=
 IntKind.i64.wrap (a0.fTag-a1)
theorem Y0.ok {a0 a1 r}(h:Y0 a0 a1=r):ACalls qf 233 [.agg (zK a0),.int .i64 a1] [] (fun r' _=>r'=.int .i64 r):=by
 refine zk (rs:=[.tmp 4]) U Tryz.func233 rfl Tryz.ntmps233 rfl Tryz.call233 (by simp) ?_;refine zu [(0,.agg (zK a0)),(1,.int .i64 a1)] ⟨rfl,rfl,trivial⟩ ?_;unfold Y0 at h;refine rgW [1,2] @zK.eq_1 ?_;refine O [4] ?_;cases h;exact rtA
def zY.l6 (a0:List zp)(a1:Int):Nat→Int→Int→Option (Int×Bool)
 |0,_,_=>none
 |k6+1,x2,x3=>(if x2<x3 then (Yl a0 (IntKind.i64.wrap (Int.fdiv (IntKind.u64.wrap (IntKind.i64.wrap (x2+x3))) (2^(min (q2 1) 64))))).bind fun y12=>bnd (Y0 y12 a1) fun r15=>(if r15<0 then ((zY.l6 a0 a1 k6) (IntKind.i64.wrap ((IntKind.i64.wrap (Int.fdiv (IntKind.u64.wrap (IntKind.i64.wrap (x2+x3))) (2^(min (q2 1) 64))))+1)) x3) else ((zY.l6 a0 a1 k6) x2 (IntKind.i64.wrap (Int.fdiv (IntKind.u64.wrap (IntKind.i64.wrap (x2+x3))) (2^(min (q2 1) 64)))))) else (if x2<(qa a0:Int) then (Yl a0 x2).bind fun y20=>bnd (Y0 y20 a1) fun r23=>some (decide (r23=0)) else some false).bind fun c20=>some (x2,c20))
def zY (a0:List zp)(a1:Int):Option (Int×Bool):=
 (zY.l6 a0 a1 yp 0 (qa a0:Int))
theorem zY.ok {a0 a1 r}(h:zY a0 a1=some r):ACalls qf 232 [.ds true (qb zx a0) (qa a0) false,.int .i64 a1,.fn (.func 233) [] []] [] (fun r' _=>r'=.tup [.int .i64 r.1,.bool r.2]):=by
 refine zk (rs:=[.tmp 6,.tmp 7]) U Tryz.func232 rfl Tryz.ntmps232 rfl Tryz.call232 (by simp) ?_;refine zu [(0,.ds true (qb zx a0) (qa a0) false),(1,.int .i64 a1),(2,.fn (.func 233) [] [])] ⟨rfl,rfl,rfl,trivial⟩ ?_;unfold zY at h;refine O [0,1,2] ?_;refine O [0,1,2,8] ?_;refine O [0,1,2,8,9,10] ?_
 refine za fun Z1 hZ1=>?_
 apply zj;refine zG (fun m L τ=>∃ (k6:Nat) (x2:Int) (x3:Int),m=0+k6∧L=[(0,.ds true (qb zx a0) (qa a0) false),(1,.int .i64 a1),(2,.fn (.func 233) [] []),(8,.int .i64 (qa a0:Int)),(9,.int .i64 x2),(10,.int .i64 x3)]∧τ=([]:zf)∧zY.l6 a0 a1 k6 x2 x3=some r) _ ⟨yp,0,(qa a0:Int),rfl,rfl,rfl,h⟩ .s ?_;rintro m L τ ⟨k6,x2,x3,rfl,rfl,rfl,h⟩
 rcases k6 with _|k6
 · cases h
 simp only[zY.l6] at h
 refine za fun Z7 hZ7=>?_
 refine O [0,1,2,8,9,10,17] ?_;refine zR rfl (fun hc8=>?_) (fun hc8=>?_)
 · rw[if_pos hc8] at h;have t9:=eq_true hc8;apply zg;apply hZ7;apply zj;have f10:=ZY (T:=tab) (src:=3) (dst:=100) rfl rfl rfl;have f11:=ZY (T:=tab) (src:=100) (dst:=3) rfl rfl rfl
   refine rg U [0,1,2,8,9,10,11] fun K J=>?_
   simp only[go_sem,qd,qc,reduceCtorEq,t9,f10,f11,vbH,Int.reduceLT];apply J
   refine rc [0,1,2,8,9,10,11,31] fun K J=>?_
   obtain⟨y12,hy12,h⟩:=bind_some h;have f13:=E34.idxS hy12;have f14:=E34.loadS rfl rfl hy12;obtain⟨r15,hr15,h⟩:=yb h;refine rnW 6 (aI @zK.eq_1 (aI @yh (aI f13 f14))) ?_;refine clN rfl rfl rfl ((Y0.ok hr15).c _) ?_;refine κ 1 ?_;refine nkN J ?_;refine zR rfl (fun hc16=>?_) (fun hc16=>?_)
   · rw[if_pos hc16] at h;have t17:=eq_true hc16
     refine rgE U [0,1,2,8,9,10] fun K J=>?_
     simp only[go_sem,qd,qc,reduceCtorEq,t17];apply J
     exact⟨_,_,_,qo (0+k6),⟨k6,IntKind.i64.wrap ((IntKind.i64.wrap (Int.fdiv (IntKind.u64.wrap (IntKind.i64.wrap (x2+x3))) (2^(min (q2 1) 64))))+1),x3,rfl,rfl,rfl,h⟩,.s⟩
   rw[if_neg hc16] at h;have t18:=eq_false hc16
   refine rgE U [0,1,2,8,9,10] fun K J=>?_
   simp only[go_sem,qd,qc,reduceCtorEq,t18];apply J
   exact⟨_,_,_,qo (0+k6),⟨k6,x2,IntKind.i64.wrap (Int.fdiv (IntKind.u64.wrap (IntKind.i64.wrap (x2+x3))) (2^(min (q2 1) 64))),rfl,rfl,rfl,h⟩,.s⟩
 rw[if_neg hc8] at h;have t19:=eq_false hc8;apply zJ;apply hZ1
 refine rc [6,7] fun K J=>?_
 refine rnW 5 t19 ?_;obtain⟨c20,hc20,h⟩:=bind_some h;refine yv 9 (fun L τ=>L=[(35,.int .i64 x2),(48,.bool c20)]∧τ=([]:zf)) ?_ ?_
 · refine Yz 39 rfl (fun hg39=>?_) (fun hg39=>?_)
   · have t21:=eq_true hg39;rw[if_pos hg39] at hc20;obtain⟨y22,hy22,hc20⟩:=bind_some hc20;have f23:=E34.idxS hy22;have f24:=E34.loadS rfl rfl hy22;obtain⟨r25,hr25,hc20⟩:=yb hc20;refine rnW 6 (aI @zK.eq_1 (aI @yh (aI f23 f24))) ?_;refine clN rfl rfl rfl ((Y0.ok hr25).c _) ?_;refine κ 2 ?_;cases hc20;refine zl ⟨rfl,_,_,⟨rfl,rfl⟩,.p t21⟩
   have t26:=eq_false hg39;rw[if_neg hg39] at hc20;refine κ 9 ?_;cases hc20;refine zl ⟨rfl,_,_,⟨rfl,rfl⟩,.p t26⟩
 rintro _ _ ⟨rfl,rfl⟩;refine κ 2 ?_;refine nkN J ?_;cases h;exact rtA
def ZE (a0:zp)(a1:zz):Option Bool:=
 bnd (zQ a1 a0.fTag) fun r1=>(if r1.1.fLabel=1 then (Yl a0.fTrees 0).bind fun y2=>bnd (YF y2) fun r5=>some r5 else some false).bind fun c2=>some c2
theorem ZE.ok {a0 a1 r}(h:ZE a0 a1=some r):ACalls qf 197 [.agg (zK a0),.dp (ze a1) 0] [] (fun r' _=>r'=.bool r):=by
 refine zk (rs:=[.tmp 3]) U Tryz.func197 rfl Tryz.ntmps197 rfl Tryz.call197 (by simp) ?_;refine zu [(0,.agg (zK a0)),(1,.dp (ze a1) 0)] ⟨rfl,rfl,trivial⟩ ?_;unfold ZE at h;refine rgW [1,2] @zK.eq_1 ?_
 refine rc [2,4] fun K J=>?_
 obtain⟨r1,hr1,h⟩:=yb h;refine xO U 3 ?_;simp only[go_sem,qd,qg,qc,qe,ze,vcO];refine clN rfl rfl rfl ((zQ.ok hr1).c _) ?_;refine rnW 6 @z7.eq_1 ?_;refine nkN J ?_
 refine rc [3] fun K J=>?_
 refine κ 4 ?_;obtain⟨c2,hc2,h⟩:=bind_some h;refine yv 6 (fun L τ=>L=[(22,.bool c2)]∧τ=([.cells 0 (zK a0),.cells 0 (z7 r1.1)]:zf)) ?_ ?_
 · refine Yz 16 rfl (fun hg16=>?_) (fun hg16=>?_)
   · have t3:=eq_true hg16;rw[if_pos hg16] at hc2;obtain⟨y4,hy4,hc2⟩:=bind_some hc2;have f5:=E38.idxS hy4;have f6:=E38.loadS rfl rfl hy4;obtain⟨r7,hr7,hc2⟩:=yb hc2;refine rnW 4 (aI @zb.eq_1 (aI @yC (aI f5 f6))) ?_;refine clN rfl rfl rfl ((YF.ok hr7).c _) ?_;refine κ 1 ?_;cases hc2;refine zl ⟨rfl,_,_,⟨rfl,rfl⟩,.p t3⟩
   have t8:=eq_false hg16;rw[if_neg hg16] at hc2;refine κ 6 ?_;cases hc2;refine zl ⟨rfl,_,_,⟨rfl,rfl⟩,.p t8⟩
 rintro _ _ ⟨rfl,rfl⟩;refine κ 1 ?_;refine nkN J ?_;cases h;exact rtA
def zX.l4 (a1_0:zz):List zp→Int→Option Int
 |[],x2=>some (-1)
 |y4::q4,x2=>(ZE y4 a1_0).bind fun r10=>(if r10=true then some x2 else ((zX.l4 a1_0 q4) (x2+1)))
def zX (a0:List zp)(a1_0:zz):Option Int:=
 (zX.l4 a1_0 a0 0)
theorem zX.ok {a0 a1_0 r}(h:zX a0 a1_0=some r):ACalls qf 235 [.ds true (qb zx a0) (qa a0) false,.fn (.func 197) [] [.dp (ze a1_0) 0]] [] (fun r' _=>r'=.int .i64 r):=by
 refine zk (rs:=[.tmp 4]) U Tryz.func235 rfl Tryz.ntmps235 rfl Tryz.call235 (by simp) ?_;refine zu [(0,.ds true (qb zx a0) (qa a0) false),(1,.fn (.func 197) [] [.dp (ze a1_0) 0])] ⟨rfl,rfl,trivial⟩ ?_;unfold zX at h;refine O [0,1] ?_
 refine za fun Z1 hZ1=>?_
 refine O [0,1,7,8] ?_;apply zj
 refine xq 0 fun hb4=>?_
 replace hb4:qa a0≤9223372036854775807:=hb4.1;refine zG (fun m L τ=>∃ (p4 q4:List zp) (x2:Int),m=qa q4∧L=[(0,.ds true (qb zx a0) (qa a0) false),(1,.fn (.func 197) [] [.dp (ze a1_0) 0]),(7,.int .i64 (qa a0:Int)),(8,.int .i64 x2)]∧τ=([]:zf)∧a0=p4++q4∧x2=(qa p4:Int)∧zX.l4 a1_0 q4 x2=some r) _ ⟨[],a0,0,rfl,rfl,rfl,rfl,rfl,h⟩ .s ?_;rintro m L τ ⟨p4,q4,x2,rfl,rfl,rfl,hE4,hi4,h⟩
 rcases q4 with _|⟨y4,q4⟩
 · have hz4:=yH hE4 hi4;simp only[zX.l4] at h;refine rgW [0,1,7,8,9] hz4 ?_
   refine za fun Z5 hZ5=>?_
   refine zD rfl ?_;apply zJ;apply hZ1;refine O [4] ?_;cases h;exact rtA
 obtain⟨hz4,hw4,hx4,hE'4,hi'4⟩:=yo hE4 hi4 hb4;simp only[zX.l4] at h;refine rgW [0,1,7,8,9] hz4 ?_
 refine za fun Z6 hZ6=>?_
 refine zE rfl ?_;apply zg;apply hZ6
 refine za fun Z7 hZ7=>?_
 apply zj;refine O [0,1,5,7,8] ?_
 refine rc [0,1,5,7,8,16] fun K J=>?_
 have f8:=E34.idxS hx4;have f9:=E34.loadS rfl rfl hx4;obtain⟨r10,hr10,h⟩:=bind_some h;refine rnW 5 (aI @zK.eq_1 (aI @yh (aI f8 f9))) ?_;refine clN rfl rfl rfl ((ZE.ok hr10).c _) ?_;refine nkN J ?_;refine zB (b:=r10) rfl (fun hc11=>?_) (fun hc11=>?_)
 · rw[if_pos hc11] at h;refine O [4] ?_;cases h;exact rtA
 rw[wn hc11] at h;apply zg;apply hZ7
 refine rgE U [0,1,7,8] fun K J=>?_
 simp only[go_sem,qd,qc,reduceCtorEq,hw4];apply J
 exact⟨_,_,_,qo q4.length,⟨p4++[y4],q4,x2+1,rfl,rfl,rfl,hE'4,hi'4,h⟩,.s⟩
def yM.j4 (m4_1:zi):Option (zi×Int):=
 some (m4_1,0)
def yM.j6 (yi:zm→zz→(List UInt8)→Int→Option (zi×Int))(a0:zm)(a1:YE)(a2:xF)(a3:Int)(m4_1:zi)(x5:Bool):Option (zi×Int):=
 (if x5=true then bnd (Zo a1 a2.fN) fun r8=>(if (!r8)=true then some ((⟨0,0,[],([]:List zp),([]:List xF)⟩:zi),11) else (yM.j4 m4_1)) else (if a1.fKind=4 then (xD a2.fB).bind fun r12=>(if (!r12)=true then some ((⟨0,0,[],([]:List zp),([]:List xF)⟩:zi),9) else (yM.j4 m4_1)) else (if a1.fKind=7 then bnd (zP a0 a1.fName) fun r17=>(grd (qa a2.fB≤9223372036854775807)).bind fun _u18=>(yi a0 r17.1 a2.fB (IntKind.i64.wrap (a3+1))).bind fun r20=>some (r20.1,r20.2) else (yM.j4 m4_1))))
def yM.j3 (yi:zm→zz→(List UInt8)→Int→Option (zi×Int))(a0:zm)(a1:YE)(a2:xF)(a3:Int)(m4_1:zi):Option (zi×Int):=
 (if a1.fKind=3 then (yM.j6 yi a0 a1 a2 a3 m4_1 (decide (a1.fKind=3))) else (yM.j6 yi a0 a1 a2 a3 m4_1 (decide (a1.fKind=6))))
def yM.j26 (yi:zm→zz→(List UInt8)→Int→Option (zi×Int))(a0:zm)(a1:YE)(a2:xF)(a3:Int)(m4_1:zi)(x25:Bool):Option (zi×Int):=
 (if x25=true then (if a2.fWire=1 then (yM.j3 yi a0 a1 a2 a3 m4_1) else some ((⟨0,0,[],([]:List zp),([]:List xF)⟩:zi),8)) else (if a2.fWire=0 then (yM.j3 yi a0 a1 a2 a3 m4_1) else some ((⟨0,0,[],([]:List zp),([]:List xF)⟩:zi),8)))
def yM.j2 (yi:zm→zz→(List UInt8)→Int→Option (zi×Int))(a0:zm)(a1:YE)(a2:xF)(a3:Int)(m4_1:zi):Option (zi×Int):=
 (if a1.fKind=4 then (yM.j26 yi a0 a1 a2 a3 m4_1 (decide (a1.fKind=4))) else (if a1.fKind=5 then (yM.j26 yi a0 a1 a2 a3 m4_1 (decide (a1.fKind=5))) else (yM.j26 yi a0 a1 a2 a3 m4_1 (decide (a1.fKind=7)))))
def yM.body (yi:zm→zz→(List UInt8)→Int→Option (zi×Int))(xZ:zm→YE→xF→Int→Option (zi×Int))(a0:zm)(a1:YE)(a2:xF)(a3:Int):Option (zi×Int):=
 (if a2.fWire=1 then (yM.j2 yi a0 a1 a2 a3 (⟨2,0,a2.fB,([]:List zp),([]:List xF)⟩:zi)) else (yM.j2 yi a0 a1 a2 a3 (⟨1,a2.fN,[],([]:List zp),([]:List xF)⟩:zi)))
theorem yM.step (yi:zm→zz→(List UInt8)→Int→Option (zi×Int))(xZ:zm→YE→xF→Int→Option (zi×Int))(vc8:∀ (a0:zm) (a1:zz) (a2:List UInt8) (a3:Int) (r:zi×Int),yi a0 a1 a2 a3=some r→ACalls qf 149 [.agg (zd a0),.agg (ze a1),.ds true (qb XD a2) (qa a2) false,.int .i64 a3] [] (fun r' _=>r'=.tup [.agg (zb r.1),.int .i64 r.2]))(vbf:∀ (a0:zm) (a1:YE) (a2:xF) (a3:Int) (r:zi×Int),xZ a0 a1 a2 a3=some r→ACalls qf 194 [.agg (zd a0),.agg (wd a1),.agg (zA a2),.int .i64 a3] [] (fun r' _=>r'=.tup [.agg (zb r.1),.int .i64 r.2]))(a0:zm)(a1:YE)(a2:xF)(a3:Int)(r:zi×Int)(h:yM.body yi xZ a0 a1 a2 a3=some r):ACalls qf 194 [.agg (zd a0),.agg (wd a1),.agg (zA a2),.int .i64 a3] [] (fun r' _=>r'=.tup [.agg (zb r.1),.int .i64 r.2]):=by
 have ev_decode_message:=fun a0 a1 a2 a3 r h σ=>(vc8 a0 a1 a2 a3 r h).c σ
 have ev_decode_one:=fun a0 a1 a2 a3 r h σ=>(vbf a0 a1 a2 a3 r h).c σ
 refine zk (rs:=[.cell 8 37,.tmp 9]) U Tryz.func194 rfl Tryz.ntmps194 rfl Tryz.call194 (by simp) ?_;refine zu [(0,.agg (zd a0)),(1,.agg (wd a1)),(2,.agg (zA a2)),(3,.int .i64 a3)] ⟨rfl,rfl,rfl,rfl,trivial⟩ ?_;unfold yM.body at h;refine rgW [3,4,5,6,8] (aI @zA.eq_1 (aI @zd.eq_1 @wd.eq_1)) ?_;refine O [3,4,5,6,8,10] ?_;refine we (fun L τ=>∃ (m4_1:zi),L=[(3,.int .i64 a3),(4,.op 0 0 0),(5,.op 1 0 0),(6,.op 2 0 0),(8,.op 3 0 0),(10,.op 4 0 0)]∧τ=([.cells 0 (zd a0),.cells 0 [.int .i64 a1.fKind,.str a1.fName],.cells 0 [.int .i64 a2.fTag,.int .i64 a2.fWire,.int .i64 a2.fN,.str a2.fB],.cells 0 [.int .i64 0,.int .i64 0,.str [],.ds true (qb zx ([]:List zp)) (qa ([]:List zp)) false,.ds true (qb zA ([]:List xF)) (qa ([]:List xF)) false],.cells 0 (zb m4_1)]:zf)∧yM.j2 yi a0 a1 a2 a3 m4_1=some r) ?_ ?_
 · refine O [3,4,5,6,8,10,18] ?_;refine zR rfl (fun hc40=>?_) (fun hc40=>?_)
   · rw[if_pos hc40] at h;have t41:=eq_true hc40
     refine rgE U [3,4,5,6,8,10] fun K J=>?_
     simp only[go_sem,qd,qg,qc,qe,t41];apply J
     exact⟨_,_,⟨(⟨2,0,a2.fB,([]:List zp),([]:List xF)⟩:zi),rfl,rfl,h⟩,(.t [0,1,2,3,4] true)⟩
   rw[if_neg hc40] at h;have t42:=eq_false hc40;apply zg;exact⟨_,_,⟨(⟨1,a2.fN,[],([]:List zp),([]:List xF)⟩:zi),rfl,rfl,h⟩,(.t [0,1,2,3,4] true)⟩
 rintro _ _ ⟨m4_1,rfl,rfl,h⟩;unfold yM.j2 at h;refine we (fun L τ=>L=[(3,.int .i64 a3),(4,.op 0 0 0),(5,.op 1 0 0),(6,.op 2 0 0),(8,.op 3 0 0),(10,.op 4 0 0)]∧τ=([.cells 0 (zd a0),.cells 0 [.int .i64 a1.fKind,.str a1.fName],.cells 0 [.int .i64 a2.fTag,.int .i64 a2.fWire,.int .i64 a2.fN,.str a2.fB],.cells 0 [.int .i64 0,.int .i64 0,.str [],.ds true (qb zx ([]:List zp)) (qa ([]:List zp)) false,.ds true (qb zA ([]:List xF)) (qa ([]:List xF)) false],.cells 0 (zb m4_1)]:zf)∧yM.j3 yi a0 a1 a2 a3 m4_1=some r) ?_ ?_
 · refine O [3,4,5,6,8,10,23] ?_;apply zj;refine we (fun L τ=>∃ (x25:Bool),L=[(3,.int .i64 a3),(4,.op 0 0 0),(5,.op 1 0 0),(6,.op 2 0 0),(8,.op 3 0 0),(10,.op 4 0 0),(28,.bool x25)]∧τ=([.cells 0 (zd a0),.cells 0 [.int .i64 a1.fKind,.str a1.fName],.cells 0 [.int .i64 a2.fTag,.int .i64 a2.fWire,.int .i64 a2.fN,.str a2.fB],.cells 0 [.int .i64 0,.int .i64 0,.str [],.ds true (qb zx ([]:List zp)) (qa ([]:List zp)) false,.ds true (qb zA ([]:List xF)) (qa ([]:List xF)) false],.cells 0 (zb m4_1)]:zf)∧yM.j26 yi a0 a1 a2 a3 m4_1 x25=some r) ?_ ?_
   · refine O [3,4,5,6,8,10,23,28] ?_;refine zR rfl (fun hc34=>?_) (fun hc34=>?_)
     · rw[if_pos hc34] at h;have t35:=eq_true hc34;apply zg;exact⟨_,_,⟨decide (a1.fKind=4),rfl,rfl,h⟩,.s⟩
     rw[if_neg hc34] at h;have t36:=eq_false hc34;refine rgW [3,4,5,6,8,10,23,28] t36 ?_;refine zR rfl (fun hc37=>?_) (fun hc37=>?_)
     · rw[if_pos hc37] at h;have t38:=eq_true hc37;apply zg;exact⟨_,_,⟨decide (a1.fKind=5),rfl,rfl,h⟩,.s⟩
     rw[if_neg hc37] at h;have t39:=eq_false hc37
     refine rgE U [3,4,5,6,8,10,28] fun K J=>?_
     simp only[go_sem,qd,qc,t39];apply J
     exact⟨_,_,⟨decide (a1.fKind=7),rfl,rfl,h⟩,.s⟩
   rintro _ _ ⟨x25,rfl,rfl,h⟩;unfold yM.j26 at h;refine zB (b:=x25) rfl (fun hc27=>?_) (fun hc27=>?_)
   · rw[if_pos hc27] at h;refine O [3,4,5,6,8,10,34] ?_;refine zR rfl (fun hc28=>?_) (fun hc28=>?_)
     · rw[if_neg hc28] at h;have t29:=eq_false hc28;refine rgW [8,9] t29 ?_;cases h;exact rtA
     rw[if_pos hc28] at h;have t30:=eq_true hc28;apply zg;exact⟨_,_,⟨rfl,rfl,h⟩,.s⟩
   rw[wn hc27] at h;refine O [3,4,5,6,8,10,26] ?_;refine zR rfl (fun hc31=>?_) (fun hc31=>?_)
   · rw[if_neg hc31] at h;have t32:=eq_false hc31;refine rgW [8,9] t32 ?_;cases h;exact rtA
   rw[if_pos hc31] at h;have t33:=eq_true hc31;apply zg;exact⟨_,_,⟨rfl,rfl,h⟩,.s⟩
 rintro _ _ ⟨rfl,rfl,h⟩;unfold yM.j3 at h;refine we (fun L τ=>L=[(8,.op 0 0 0),(10,.op 1 0 0)]∧τ=([.cells 0 [.int .i64 0,.int .i64 0,.str [],.ds true (qb zx ([]:List zp)) (qa ([]:List zp)) false,.ds true (qb zA ([]:List xF)) (qa ([]:List xF)) false],.cells 0 (zb m4_1)]:zf)∧yM.j4 m4_1=some r) ?_ ?_
 · refine O [3,4,5,6,8,10,37] ?_;apply zj;refine we (fun L τ=>∃ (x5:Bool),L=[(3,.int .i64 a3),(4,.op 0 0 0),(5,.op 1 0 0),(6,.op 2 0 0),(8,.op 3 0 0),(10,.op 4 0 0),(37,.int .i64 a1.fKind),(38,.bool x5)]∧τ=([.cells 0 (zd a0),.cells 0 [.int .i64 a1.fKind,.str a1.fName],.cells 0 [.int .i64 a2.fTag,.int .i64 a2.fWire,.int .i64 a2.fN,.str a2.fB],.cells 0 [.int .i64 0,.int .i64 0,.str [],.ds true (qb zx ([]:List zp)) (qa ([]:List zp)) false,.ds true (qb zA ([]:List xF)) (qa ([]:List xF)) false],.cells 0 (zb m4_1)]:zf)∧yM.j6 yi a0 a1 a2 a3 m4_1 x5=some r) ?_ ?_
   · refine O [3,4,5,6,8,10,37,38] ?_;refine zR rfl (fun hc22=>?_) (fun hc22=>?_)
     · rw[if_pos hc22] at h;have t23:=eq_true hc22;apply zg;exact⟨_,_,⟨decide (a1.fKind=3),rfl,rfl,h⟩,.s⟩
     rw[if_neg hc22] at h;have t24:=eq_false hc22
     refine rgE U [3,4,5,6,8,10,37,38] fun K J=>?_
     simp only[go_sem,qd,qc,t24];apply J
     exact⟨_,_,⟨decide (a1.fKind=6),rfl,rfl,h⟩,.s⟩
   rintro _ _ ⟨x5,rfl,rfl,h⟩;unfold yM.j6 at h;refine zB (b:=x5) rfl (fun hc7=>?_) (fun hc7=>?_)
   · rw[if_pos hc7] at h
     refine rc [8,10,45] fun K J=>?_
     obtain⟨r8,hr8,h⟩:=yb h;refine κ 3 ?_;refine clN rfl rfl rfl ((Zo.ok hr8).c _) ?_;refine κ 1 ?_;refine nkN J ?_;refine zB (b:=(!r8)) rfl (fun hc9=>?_) (fun hc9=>?_)
     · rw[if_pos hc9] at h;refine O [8,9] ?_;cases h;exact rtA
     rw[wn hc9] at h;apply zg;exact⟨_,_,⟨rfl,rfl,h⟩,(.t [3,4] false)⟩
   rw[wn hc7] at h;refine O [3,4,5,6,8,10,37,47] ?_;refine zR rfl (fun hc10=>?_) (fun hc10=>?_)
   · rw[if_pos hc10] at h;have t11:=eq_true hc10
     refine rc [8,10,52] fun K J=>?_
     obtain⟨r12,hr12,h⟩:=bind_some h;refine rnW 2 t11 ?_;refine clN rfl rfl rfl ((xD.ok hr12).c _) ?_;refine κ 1 ?_;refine nkN J ?_;refine zB (b:=(!r12)) rfl (fun hc13=>?_) (fun hc13=>?_)
     · rw[if_pos hc13] at h;refine O [8,9] ?_;cases h;exact rtA
     rw[wn hc13] at h;apply zg;exact⟨_,_,⟨rfl,rfl,h⟩,(.t [3,4] false)⟩
   rw[if_neg hc10] at h;have t14:=eq_false hc10;refine rgW [3,4,5,6,8,10,54] t14 ?_;refine zR rfl (fun hc15=>?_) (fun hc15=>?_)
   · rw[if_pos hc15] at h;have t16:=eq_true hc15
     refine rc [3,4,6,8,11] fun K J=>?_
     obtain⟨r17,hr17,h⟩:=yb h;refine rnW 3 t16 ?_;refine clN rfl rfl rfl ((zP.ok hr17).c _) ?_;refine rnW 6 @ze.eq_1 ?_;refine nkN J ?_
     refine rc [8,9] fun K J=>?_
     obtain⟨_u18,hu18,h⟩:=bind_some h;have gu18:=Yb hu18;have gu18t:=eq_true gu18;have f19:=conv_s2b (T:=tab) (src:=9) (dst:=48) rfl rfl rfl rfl rfl rfl (Yb hu18);obtain⟨r20,hr20,h⟩:=bind_some h;refine rnW 7 f19 ?_;refine vcz (L:=[(8,.op 0 0 0),(63,.agg (zd a0)),(64,.agg (ze r17.1)),(67,.ds true (qb XD a2.fB) (qa a2.fB) false),(69,.int .i64 (IntKind.i64.wrap (a3+1)))]) (τ:=[.cells 0 [.int .i64 0,.int .i64 0,.str [],.ds true (qb zx ([]:List zp)) (qa ([]:List zp)) false,.ds true (qb zA ([]:List xF)) (qa ([]:List xF)) false]]) (.t [3] false) ?_;refine clN rfl rfl rfl (ev_decode_message a0 r17.1 a2.fB (IntKind.i64.wrap (a3+1)) r20 hr20 _) ?_;refine rnW 4 (aI @zb.eq_1 (aI @ze.eq_1 @zd.eq_1)) ?_;refine nkN J ?_;cases h;exact rtA
   rw[if_neg hc15] at h;have t21:=eq_false hc15;apply zg;exact⟨_,_,⟨rfl,rfl,h⟩,(.t [3,4] false)⟩
 rintro _ _ ⟨rfl,rfl,h⟩;unfold yM.j4 at h;refine O [8,9] ?_;cases h;exact rtA
end
section
open Go.RowKit AM
theorem setRun_ins (cs new:List AV)(k:Nat)(hk:k≤cs.length)(hn:new.length=2):
 wr (wr (cs++[.u,.u]) (k+2) (cs.drop k)) k new=cs.take k++(new++cs.drop k):=by
 have e0:cs++[AV.u,.u]=(cs.take k++((cs.drop k++[AV.u,.u]).take 2))++(((cs.drop k++[AV.u,.u]).drop 2)++[]):=by
  rw[qT,qP,uz,← qP,uz]
 have l1:((cs.drop k++[AV.u,.u]).take 2).length=2:=by simp
 have l2:(cs.take k++((cs.drop k++[AV.u,.u]).take 2)).length=k+2:=by rw[qt,l1,u0,Nat.min_eq_left hk]
 have e1:wr (cs++[.u,.u]) (k+2) (cs.drop k)=(cs.take k++((cs.drop k++[AV.u,.u]).take 2))++(cs.drop k++[]):=by
  rw[e0,← l2];exact XH (cs.drop k) _ _ [] (by simp)
 rw[e1,qT,qP]
 have l3:(cs.take k).length=k:=by rw[u0,Nat.min_eq_left hk]
 have:=XH new (cs.take k) ((cs.drop k++[AV.u,.u]).take 2) (cs.drop k) (by rw[l1,hn]);rw[l3] at this;exact this
theorem all_drop {l:List AV}{k:Nat}(h:l.all AV.one=true):(l.drop k).all AV.one=true:=by
 rw[uk] at *
 exact fun x hx=>h x (List.mem_of_mem_drop hx)
theorem frozen_end {E:Env}{b:Nat}{cs:List AV}(h:Blk E b cs){t:TypeId}{m:Nat}(hs:E.w.shape? b=some (t,m))(ht:tsize t=2)(o:Nat):E.w.frozen? ⟨b,o,none⟩=false:=by
 obtain⟨conc,t',fr,a1,a2,a3,a4⟩:=h.blk
 have:t'=t:=by simp only[World.shape?,a1,Option.some.injEq,Prod.mk.injEq] at hs; exact hs.1
 subst this
 have he:fr.1=fr.2:=by
  rcases a2 with h|⟨_,h⟩
  · exact h
  omega
 obtain⟨lo,hi⟩:=fr;simp only[World.frozen?,a1];simp only at he;simp only[Bool.and_eq_false_iff,decide_eq_false_iff_not]
 omega
set_option maxHeartbeats 4000000 in
set_option maxRecDepth 100000 in
theorem ins_shift {E:Env}{σ:zf}(hS:SR E σ){id ver n i b cap vid vver vb:Nat}{cells new:List AV}(hcs:zf.at σ id ver=some cells)(hlen:cells.length=n*2)(hone:cells.all AV.one=true)(hi:i<n)
 (hloc:E.loc id=some (ver,some b)) (hok:E.ok id ver) {t m:Nat} (hsh:E.w.shape? b=some (t,m)) (hts:tsize t=2) (hm:cap*2≤m) (hroom:n+1≤cap) (hn:(n+1)*32≤140737488355328)
 (hv:zf.at σ vid vver=some new) (hnew:new.length=2) (honev:new.all AV.one=true) (hvid:vid≠id) (hvloc:E.loc vid=some (vver,some vb)) (hvok:E.ok vid vver) {tv mv:Nat} (hvsh:E.w.shape? vb=some (tv,mv)) (hvts:tsize tv=2) (hvc:2≤mv):
 Calls qf 234 #[.slice (some ⟨b,0,none⟩) n cap,.int .i64 i,.slice (some ⟨vb,0,none⟩) 1 1] E.w fun e w'=>
  ∃ E',e=.returned (.slice (some ⟨b,0,none⟩) (n+1) cap)∧w'=E'.w∧VR E' (.os true 2 id ver 0 (n+1) false) (.slice (some ⟨b,0,none⟩) (n+1) cap)∧SR E' (σ.set id (.cells ver (cells.take (i*2)++(new++cells.drop (i*2)))))∧Ext E E':=by
 have hvb:vb≠b:=fun e=>hvid (hS.inj _ _ _ _ b (e▸hvloc) hloc)
 have hB1:Blk E b cells:=by
  rcases hS.at hcs with ⟨b',h1,h2⟩|⟨_,h1⟩
  · rw[hloc] at h1; cases h1; exact h2
  rw[hloc] at h1; cases h1
 have hB2:Blk E vb new:=by
  rcases hS.at hv with ⟨b',h1,h2⟩|⟨_,h1⟩
  · rw[hvloc] at h1; cases h1; exact h2
  rw[hvloc] at h1; cases h1
 have hSw:=hS.widen hcs hloc hsh 2 (by omega);obtain⟨hS1,hx1⟩:=hSw.grew (vag.drew E.w);have hcsw:zf.at (σ.set id (.cells ver (cells++qN 2 AV.u))) id ver=some (cells++qN 2 AV.u):=zf.at_set hcs;have hlt:=zf.at_lt hcs
 have hvw:zf.at (σ.set id (.cells ver (cells++qN 2 AV.u))) vid vver=some new:=by
  unfold zf.at at hv ⊢; rw[ue (fun e=>hvid e.symm)]; exact hv
 have os1:∀ {E':Env} (hx:Ext E E') (k:Nat),k≤n→VR E' (.os true 2 id ver (k*2) (n+1-k) false) (.slice (some ⟨b,k*2,none⟩) (n+1-k) (cap-k)):=by
  intro E' hx k hk
  refine VR.ext hx (.os _ _ _ _ _ _ _ _ _ hok (by omega) (fun h=>by cases h) (by omega) fun ob hob=>?_)
  rw[hloc] at hob; cases hob
  exact⟨b,rfl,.inr rfl,t,m,hsh,hts,by omega⟩
 have osv:∀ {E':Env} (hx:Ext E E'),VR E' (.os true 2 vid vver 0 1 true) (.slice (some ⟨vb,0,none⟩) 1 1):=by
  intro E' hx
  refine VR.ext hx (.os _ _ _ _ _ _ _ _ _ hvok (by omega) (fun _=>rfl) (by omega) fun ob hob=>?_)
  rw[hvloc] at hob; cases hob
  exact⟨vb,rfl,.inr rfl,tv,mv,hvsh,hvts,by omega⟩
 have hov:∀ lb cb,(callFunc 247 #[.slice (some ⟨vb,0,none⟩) 1 1,.slice (some ⟨b,(i+1)*2,none⟩) lb cb]).run qf E.w=.ok (.value (.bool false)) E.w:=fun lb cb=>by
  rw[run_callFunc_extern Tryz.func247 (by kernel_rfl) (by kernel_rfl) (by kernel_rfl) (e:=Extern.SlicesOverlaps.overlaps #[34,34] #[4]) (by kernel_rfl),
   Lib.run_overlaps_apart E.w 34 4 40 (U _ _ vbl).desc 2 (fun w=>Za w (U _ _ vbk)) ⟨vb,0,none⟩ ⟨b,(i+1)*2,none⟩ 1 1 lb cb hvb tv t mv m hvsh hsh (by omega) (frozen_end hB2 hvsh hvts _) (frozen_end hB2 hvsh hvts _)]
  rfl
 have hdl:(cells.drop (i*2)).length=(n-i)*2:=by rw[uT,hlen,Nat.sub_mul]
 have hlw:(cells++qN 2 AV.u).length=(n+1)*2:=by rw[qt,hlen,List.length_replicate,u6]
 have hW:∀ ty,∃ v E2,(Builtin.copy_ #[34,34] ty #[.slice (some ⟨b,(i+1)*2,none⟩) (n+1-(i+1)) (cap-(i+1)),.slice (some ⟨b,i*2,none⟩) (n+1-i) (cap-i)]).run qf E.w.drew=.ok v E2.w∧
  SR E2 (σ.set id (.cells ver (wr (cells++[.u,.u]) (i*2+2) (cells.drop (i*2)))))∧Ext E E2:=by
  intro ty
  have hx0:Ext E { E with w:=E.w.drew }:=hx1;have hd:=os1 hx0 (i+1) (by omega);have hs:=os1 hx0 i (by omega)
  have hev:vaZ tab 34 (.os true 2 id ver ((i+1)*2) (n+1-(i+1)) false) (.os true 2 id ver (i*2) (n+1-i) false) (σ.set id (.cells ver (cells++qN 2 AV.u)))=
   some (.int .i64 ((min (n+1-i) (n+1-(i+1)):Nat):Int),(σ.set id (.cells ver (cells++qN 2 AV.u))).set id (.cells ver (wr (cells++qN 2 AV.u) ((i+1)*2) (cells.drop (i*2))))):=by
   have e1:y0 (σ.set id (.cells ver (cells++qN 2 AV.u))) 2 (.os true 2 id ver (i*2) (n+1-i) false)=some (n+1-i,((cells++qN 2 AV.u).drop (i*2)).take ((n+1-i)*2)):=by
    simp only[y0,hcsw];rw[if_pos (by rw[hlw,← u6]; exact uf _ (by omega))]
   have e2:min (n+1-i) (n+1-(i+1))=n-i:=by omega
   have e3:(((cells++qN 2 AV.u).drop (i*2)).take ((n+1-i)*2)).take ((n-i)*2)=cells.drop (i*2):=by
    rw[List.take_take,Nat.min_eq_left (uf _ (by omega)),List.drop_append_of_le_length (by rw[hlen]; exact uf _ (by omega)),List.take_append_of_le_length (by rw[hdl]; exact qA _),← hdl,uh]
   have hp:YU (σ.set id (.cells ver (cells++qN 2 AV.u))) (.os true 2 id ver ((i+1)*2) (n+1-(i+1)) false) (n-i) 2 (cells.drop (i*2))=some ((σ.set id (.cells ver (cells++qN 2 AV.u))).set id (.cells ver (wr (cells++qN 2 AV.u) ((i+1)*2) (cells.drop (i*2))))):=by
    unfold YU;rw[if_neg (by omega)];simp only[hcsw];rw[if_pos ⟨trivial,by rw[hlw,hdl,← u6]; exact uf _ (by omega),all_drop hone⟩]
   simp only[vaZ,vbl,vbk,ti34,ti40,e1,e2,e3,hp]
  obtain⟨v,E2,h1,h2,h3,h4⟩:=vaR (P:=qf) (st:=34) (ty:=ty) U hS1 hd hs hev;refine⟨v,E2,h1,?_,hx0.trans h4⟩;rw[List.set_set] at h3
  have e:(i+1)*2=i*2+2:=by omega
  rw[e] at h3;exact h3
 obtain⟨v1,E2,hc1,hS2,hx2⟩:=hW 3;rw[show n+1-(i+1)=n-i by omega] at hc1;have hcs2:zf.at (σ.set id (.cells ver (wr (cells++[.u,.u]) (i*2+2) (cells.drop (i*2))))) id ver=some (wr (cells++[.u,.u]) (i*2+2) (cells.drop (i*2))):=zf.at_set hcs
 have hv2:zf.at (σ.set id (.cells ver (wr (cells++[.u,.u]) (i*2+2) (cells.drop (i*2))))) vid vver=some new:=by
  unfold zf.at at hv ⊢; rw[ue (fun e=>hvid e.symm)]; exact hv
 have hW2:∃ v E3,(Builtin.copy_ #[34,34] 3 #[.slice (some ⟨b,i*2,none⟩) (n+1-i) (cap-i),.slice (some ⟨vb,0,none⟩) 1 1]).run qf E2.w=.ok v E3.w∧
  SR E3 (σ.set id (.cells ver (cells.take (i*2)++(new++cells.drop (i*2)))))∧Ext E E3:=by
  have hd:=os1 hx2 i (by omega);have hs:=osv hx2
  have hev:vaZ tab 34 (.os true 2 id ver (i*2) (n+1-i) false) (.os true 2 vid vver 0 1 true) (σ.set id (.cells ver (wr (cells++[.u,.u]) (i*2+2) (cells.drop (i*2)))))=
   some (.int .i64 ((min 1 (n+1-i):Nat):Int),(σ.set id (.cells ver (wr (cells++[.u,.u]) (i*2+2) (cells.drop (i*2))))).set id (.cells ver (wr (wr (cells++[.u,.u]) (i*2+2) (cells.drop (i*2))) (i*2) new))):=by
   have e1:y0 (σ.set id (.cells ver (wr (cells++[.u,.u]) (i*2+2) (cells.drop (i*2))))) 2 (.os true 2 vid vver 0 1 true)=some (1,new):=by
    simp only[y0,hv2];rw[if_pos (by omega),qw,← hnew,Nat.one_mul] ;rw[show new.length=new.length from rfl,uh]
   have e2:min 1 (n+1-i)=1:=by omega
   have e3:new.take (1*2)=new:=by rw[Nat.one_mul,← hnew,uh]
   have hp:YU (σ.set id (.cells ver (wr (cells++[.u,.u]) (i*2+2) (cells.drop (i*2))))) (.os true 2 id ver (i*2) (n+1-i) false) 1 2 new=some ((σ.set id (.cells ver (wr (cells++[.u,.u]) (i*2+2) (cells.drop (i*2))))).set id (.cells ver (wr (wr (cells++[.u,.u]) (i*2+2) (cells.drop (i*2))) (i*2) new))):=by
    unfold YU;rw[if_neg (by omega)];simp only[hcs2];rw[if_pos ⟨trivial,by rw[vaa,hnew]; simp only[qt,qk,qp,hlen]; omega,honev⟩]
   simp only[vaZ,vbl,vbk,ti34,ti40,e1,e2,e3,hp]
  obtain⟨v,E3,h1,h2,h3,h4⟩:=vaR (P:=qf) (st:=34) (ty:=3) U hS2 hd hs hev;refine⟨v,E3,h1,?_,hx2.trans h4⟩;rw[List.set_set,setRun_ins _ _ _ (by omega) hnew] at h3;exact h3
 obtain⟨v2,E3,hc2,hS3,hx3⟩:=hW2;have hfin:=os1 hx3 0 (ux _);rw[uq,uK,uK] at hfin
 have hz1:¬ ((i:Int)=(n:Int)):=by omega
 have hw1:IntKind.i64.wrap ((i:Int)+1)=(i:Int)+1:=by rw[IntKind.wrap_i64]; omega
 have hw2:IntKind.i64.wrap ((n:Int)+1)=(n:Int)+1:=by rw[IntKind.wrap_i64]; omega
 have hb1:(0:Int)≤(i:Int)+1:=by omega
 have hin:i≤n:=by omega
 have htn:((i:Int)+1).toNat=i+1:=by omega
 have hb2:¬ (cap=i+1):=by omega
 have hb3:(i:Int)≤(n:Int)+1:=by omega
 have hb4:¬ (cap=i):=by omega
 have mixed:Tryz.prog.follows .mixedOrders=true:=by kernel_rfl
 clear hS hcs hcsw hvw hcs2 hv2 hS1 hSw os1 osv hB1 hB2 hW
 go_enter Tryz.func234,Tryz.ntmps234
 go_wp2_with (simp only[hov])
 go_region_law_o (refine step_copy_runI rfl _ _ 34 34 rfl _ _ (by simp[Act.eval,Act.put]) (by simp[Act.eval,Act.put]) hc1 ?_)
 go_wp2_with (at_builtin; refine wpList_copy_runI _ rfl _ _ 34 34 rfl _ _ rfl rfl hc2 ?_)
 go_ret
 exact⟨E3,rfl,rfl,hfin,hS3,hx3⟩
theorem setRun_ins2 (cs new:List AV)(k:Nat)(hk:k≤cs.length)(hn:new.length=2)(q:Nat)(hq:q=cs.length-k+2):
 wr (wr (cs.take k++qN q AV.u) k new) (k+2) (cs.drop k)=cs.take k++(new++cs.drop k):=by
 have l3:(cs.take k).length=k:=by rw[u0,Nat.min_eq_left hk]
 have e0:cs.take k++qN q AV.u=cs.take k++(qN 2 AV.u++qN (cs.length-k) AV.u):=by
  rw[List.replicate_append_replicate,hq,Nat.add_comm]
 have e1:wr (cs.take k++qN q AV.u) k new=cs.take k++(new++qN (cs.length-k) AV.u):=by
  rw[e0];have:=XH new (cs.take k) (qN 2 AV.u) (qN (cs.length-k) AV.u) (by simp[hn])
  rw[l3] at this; exact this
 have l4:(cs.take k++new).length=k+2:=by rw[qt,l3,hn]
 rw[e1,← qP,← l4];have:=XH (cs.drop k) (cs.take k++new) (qN (cs.length-k) AV.u) [] (by simp);rw[qT,qT] at this;rw[this,qP]
set_option maxHeartbeats 4000000 in
set_option maxRecDepth 100000 in
theorem ins_grow {E:Env}{σ:zf}(hS:SR E σ){id ver n i b vid vver vb:Nat}{cells new:List AV}(hcs:zf.at σ id ver=some cells)(hlen:cells.length=n*2)(hone:cells.all AV.one=true)(hi:i<n)
 (hloc:E.loc id=some (ver,some b)) (hok:E.ok id ver) {t m:Nat} (hsh:E.w.shape? b=some (t,m)) (hts:tsize t=2) (hm:n*2≤m) (hn:(n+1)*32≤140737488355328)
 (hv:zf.at σ vid vver=some new) (hnew:new.length=2) (honev:new.all AV.one=true) (hvid:vid≠id) (hvloc:E.loc vid=some (vver,some vb)) (hvok:E.ok vid vver) {tv mv:Nat} (hvsh:E.w.shape? vb=some (tv,mv)) (hvts:tsize tv=2) (hvc:2≤mv):
 Calls qf 234 #[.slice (some ⟨b,0,none⟩) n n,.int .i64 i,.slice (some ⟨vb,0,none⟩) 1 1] E.w fun e w'=>
  ∃ E' v,e=.returned v∧w'=E'.w∧VR E' (.os true 2 σ.length 0 0 (n+1) false) v∧SR E' (σ++[.cells 0 (cells.take (i*2)++(new++cells.drop (i*2)))])∧Ext E E'∧∀ i2 v2 nb,E.loc i2=some (v2,some nb)→E'.loc σ.length=some (0,some nb)→False:=by
 have hvb:vb≠b:=fun e=>hvid (hS.inj _ _ _ _ b (e▸hvloc) hloc)
 have hlt:=zf.at_lt hcs;have hltv:=zf.at_lt hv;obtain⟨hS1,hx1⟩:=hS.grew (vag.drew E.w)
 have os1:∀ {E':Env} (hx:Ext E E') (k q:Nat),k+q≤n→VR E' (.os true 2 id ver (k*2) q false) (.slice (some ⟨b,k*2,none⟩) q (n-k)):=by
  intro E' hx k q hk
  refine VR.ext hx (.os _ _ _ _ _ _ _ _ _ hok (by omega) (fun h=>by cases h) (by omega) fun ob hob=>?_)
  rw[hloc] at hob; cases hob
  exact⟨b,rfl,.inr rfl,t,m,hsh,hts,by omega⟩
 have osv:∀ {E':Env} (hx:Ext E E'),VR E' (.os true 2 vid vver 0 1 true) (.slice (some ⟨vb,0,none⟩) 1 1):=by
  intro E' hx
  refine VR.ext hx (.os _ _ _ _ _ _ _ _ _ hvok (by omega) (fun h=>rfl) (by omega) fun ob hob=>?_)
  rw[hvloc] at hob; cases hob
  exact⟨vb,rfl,.inr rfl,tv,mv,hvsh,hvts,by omega⟩
 have htl:(cells.take (i*2)).length=i*2:=by rw[u0,hlen]; omega
 have hdl:(cells.drop (i*2)).length=(n-i)*2:=by rw[uT,hlen,Nat.sub_mul]
 -- what is copied by append
 have hold0:=os1 hx1 0 i (by omega);rw[uq] at hold0
 obtain⟨_,_,hrd⟩:=vbw (P:=qf) hS1 hold0 (size:=2) (n:=i) (cs:=cells.take (i*2)) (by
  simp only[y0,hcs]
  rw[if_pos (by omega),qw])
 obtain⟨os,hos,hto⟩:=hrd i (qA _);rw[show (cells.take (i*2)).take (i*2)=cells.take (i*2) by rw[List.take_take,Nat.min_self]] at hto
 obtain⟨G,hG⟩:∃ G,G=grownCap E.w (n+1) n 40:=⟨_,rfl⟩
 have hGn:n+1≤G:=by rw[hG]; unfold grownCap; simp only[Question.cut]; omega
 obtain⟨conc,hconc⟩:∃ conc:Array Value,conc=os++Builtin.zeroCells (Value.agg #[Value.int IntKind.i64 0,Value.slice none 0 0]).cells (n+1-i)++Builtin.zeroCells (Value.agg #[Value.int IntKind.i64 0,Value.slice none 0 0]).cells (G-(n+1)):=⟨_,rfl⟩
 have hrz:∀ ty,(Builtin.append_ #[34,3] ty #[.slice (some ⟨b,0,none⟩) i n,.int .i64 ((n:Int)+1-(i:Int))]).run qf E.w=
  .ok (.slice (some ⟨E.w.heap.size,0,none⟩) (n+1) G) (E.w.drew.alloc (.cells conc 40)):=fun ty=>by
  have h:=Lib.run_append_grow_zeros (P:=qf) E.w 34 3 ty 40 Tryz.t40 _ .i64 .i64 Tryz.underlying34 Tryz.underlying3 Tryz.type40 rfl (some ⟨b,0,none⟩) i n os.toList (by rw[Array.toArray_toList]; exact hos) (n+1-i) (by omega) (by decide) (by omega) (by omega) (by show (n+1-i)*32≤_; omega) (by
   rw[show i+(n+1-i)=n+1 by omega]
   exact growslice_fits (by omega) (by show (n+1)*32≤_; omega))
  rw[show i+(n+1-i)=n+1 by omega,← hG,Array.toArray_toList,← hconc] at h;rw[show (n:Int)+1-(i:Int)=((n+1-i:Nat):Int) by omega];exact h
 have hsz1:os.size=i*2:=by rw[hto.1,htl]
 have hcsz:G*2≤conc.size:=by
  rw[hconc];simp only[Array.size_append,hsz1,Builtin.zeroCells,Value.cells]
  simp
  omega
 have hnr:=hS1.newRow conc 40 (cells.take (i*2)++qN ((n+1-i)*2) AV.u) (by rw[qt,htl,List.length_replicate]; omega) (by
  intro k hk
  by_cases hki:k<i*2
  · rw[vaL _ _ _ (by rw[htl]; exact hki)];have:=hto.2 k (by rw[htl]; exact hki)
    have e:conc.getD k undef=os.getD k undef:=by
     rw[hconc,Array.append_assoc]
     simp[Array.getElem?_append_left (show k<os.size by omega)]
    rw[e]; exact this
  rw[Xx _ _ _ (by rw[htl]; omega)]
  have:gc (qN ((n+1-i)*2) AV.u) (k-(cells.take (i*2)).length)=.u:=by
   unfold gc;rw[qx,List.getElem?_replicate]
   split<;>rfl
  rw[this]; exact .u _)
 obtain⟨hS2,hx2⟩:=hnr
 obtain⟨E2,hE2⟩:∃ E2,E2=Env.new { E with w:=E.w.drew } (E.w.drew.alloc (.cells conc 40)) (some E.w.drew.heap.size):=⟨_,rfl⟩
 have hloc2:E2.loc σ.length=some (0,some E.w.heap.size):=by rw[hE2]; exact Env.loc_new hS1 _ _
 have hok2:E2.ok σ.length 0:=by rw[hE2]; exact Env.ok_new hS1 _ _
 have hE2w:E2.w=E.w.drew.alloc (.cells conc 40):=by rw[hE2]; rfl
 rw[← hE2] at hS2 hx2;have hx02:Ext E E2:=Ext.trans hx1 hx2
 have hsh2:E2.w.shape? E.w.heap.size=some (40,conc.size):=by
  rw[hE2w];have:=wg E.w.drew (.cells conc 40);simp only[World.shape?];rw[show E.w.heap.size=E.w.drew.heap.size from rfl,this]
 have osn:∀ {E':Env} (hx:Ext E2 E') (k q:Nat),k+q≤n+1→VR E' (.os true 2 σ.length 0 (k*2) q false) (.slice (some ⟨E.w.heap.size,k*2,none⟩) q (G-k)):=by
  intro E' hx k q hk
  refine VR.ext hx (.os _ _ _ _ _ _ _ _ _ hok2 (by omega) (fun h=>by cases h) (by omega) fun ob hob=>?_)
  rw[hloc2] at hob; cases hob
  exact⟨_,rfl,.inr rfl,_,_,hsh2,rfl,by omega⟩
 have hat2:∀ cs,zf.at (σ++[.cells 0 cs]) σ.length 0=some cs:=fun cs=>zf.at_new σ 0 cs
 have hset2:∀ cs cs',(σ++[Y3.cells 0 cs]).set σ.length (.cells 0 cs')=σ++[.cells 0 cs']:=fun cs cs'=>by
  rw[List.set_append_right _ _ (qA _),uV]; rfl
 have hold2:∀ {id ver:Nat} {c cs:List AV},zf.at σ id ver=some c→zf.at (σ++[Y3.cells 0 cs]) id ver=some c:=by
  intro id ver c cs h
  have:=zf.at_lt h
  unfold zf.at at h ⊢; rw[qR this]; exact h
 -- the first copy
 have hW2:∃ v E3,(Builtin.copy_ #[34,34] 3 #[.slice (some ⟨E.w.heap.size,i*2,none⟩) (n+1-i) (G-i),.slice (some ⟨vb,0,none⟩) 1 1]).run qf E2.w=.ok v E3.w∧
  SR E3 (σ++[.cells 0 (wr (cells.take (i*2)++qN ((n+1-i)*2) AV.u) (i*2) new)])∧Ext E2 E3:=by
  have hd:=osn (Ext.refl E2) i (n+1-i) (by omega);have hs:=osv hx02
  have hev:vaZ tab 34 (.os true 2 σ.length 0 (i*2) (n+1-i) false) (.os true 2 vid vver 0 1 true) (σ++[.cells 0 (cells.take (i*2)++qN ((n+1-i)*2) AV.u)])=
   some (.int .i64 ((min 1 (n+1-i):Nat):Int),σ++[.cells 0 (wr (cells.take (i*2)++qN ((n+1-i)*2) AV.u) (i*2) new)]):=by
   have e1:y0 (σ++[.cells 0 (cells.take (i*2)++qN ((n+1-i)*2) AV.u)]) 2 (.os true 2 vid vver 0 1 true)=some (1,new):=by
    simp only[y0,hold2 hv];rw[if_pos (by omega),qw,Nat.one_mul,← hnew,uh]
   have e2:min 1 (n+1-i)=1:=by omega
   have e3:new.take (1*2)=new:=by rw[Nat.one_mul,← hnew,uh]
   have hp:YU (σ++[.cells 0 (cells.take (i*2)++qN ((n+1-i)*2) AV.u)]) (.os true 2 σ.length 0 (i*2) (n+1-i) false) 1 2 new=some (σ++[.cells 0 (wr (cells.take (i*2)++qN ((n+1-i)*2) AV.u) (i*2) new)]):=by
    unfold YU;rw[if_neg (by omega)];simp only[hat2,hset2];rw[if_pos ⟨trivial,by rw[hnew,qt,htl,List.length_replicate]; omega,honev⟩]
   simp only[vaZ,vbl,vbk,ti34,ti40,e1,e2,e3,hp]
  obtain⟨v,E3,h1,h2,h3,h4⟩:=vaR (P:=qf) (st:=34) (ty:=3) U hS2 hd hs hev;exact⟨v,E3,h1,h3,h4⟩
 obtain⟨v1,E3,hc1,hS3,hx3⟩:=hW2;obtain⟨hS4,hx4⟩:=hS3.grew (vag.drew E3.w)
 -- the second copy
 have hW3:∀ ty,∃ v E4,(Builtin.copy_ #[34,34] ty #[.slice (some ⟨E.w.heap.size,(i+1)*2,none⟩) (n-i) (G-(i+1)),.slice (some ⟨b,i*2,none⟩) (n-i) (n-i)]).run qf E3.w.drew=.ok v E4.w∧
  SR E4 (σ++[.cells 0 (cells.take (i*2)++(new++cells.drop (i*2)))])∧Ext E2 E4:=by
  intro ty
  have hx24:Ext E2 { E3 with w:=E3.w.drew }:=Ext.trans hx3 hx4;have hd:=osn hx24 (i+1) (n-i) (by omega);have hs:=os1 (hx02.trans hx24) i (n-i) (by omega)
  have hev:vaZ tab 34 (.os true 2 σ.length 0 ((i+1)*2) (n-i) false) (.os true 2 id ver (i*2) (n-i) false) (σ++[.cells 0 (wr (cells.take (i*2)++qN ((n+1-i)*2) AV.u) (i*2) new)])=
   some (.int .i64 ((min (n-i) (n-i):Nat):Int),σ++[.cells 0 (cells.take (i*2)++(new++cells.drop (i*2)))]):=by
   have e1:y0 (σ++[.cells 0 (wr (cells.take (i*2)++qN ((n+1-i)*2) AV.u) (i*2) new)]) 2 (.os true 2 id ver (i*2) (n-i) false)=some (n-i,cells.drop (i*2)):=by
    simp only[y0,hold2 hcs];rw[if_pos (by rw[hlen,← u6]; exact uf _ (by omega)),← hdl,uh]
   have e2:min (n-i) (n-i)=n-i:=by omega
   have e3:(cells.drop (i*2)).take ((n-i)*2)=cells.drop (i*2):=by rw[← hdl,uh]
   have hp:YU (σ++[.cells 0 (wr (cells.take (i*2)++qN ((n+1-i)*2) AV.u) (i*2) new)]) (.os true 2 σ.length 0 ((i+1)*2) (n-i) false) (n-i) 2 (cells.drop (i*2))=some (σ++[.cells 0 (cells.take (i*2)++(new++cells.drop (i*2)))]):=by
    unfold YU;rw[if_neg (by omega)];simp only[hat2,hset2];rw[if_pos ⟨trivial,by rw[hdl,vaa,qt,htl,List.length_replicate]; omega,all_drop hone⟩];rw[show (i+1)*2=i*2+2 by omega,setRun_ins2 _ _ _ (by omega) hnew _ (by rw[hlen]; omega)]
   simp only[vaZ,vbl,vbk,ti34,ti40,e1,e2,e3,hp]
  obtain⟨v,E4,h1,h2,h3,h4⟩:=vaR (P:=qf) (st:=34) (ty:=ty) U hS4 hd hs hev;exact⟨v,E4,h1,h3,hx24.trans h4⟩
 obtain⟨v2,E4,hc2,hS5,hx5⟩:=hW3 3
 have hfin:VR E4 (.os true 2 σ.length 0 0 (n+1) false) (.slice (some ⟨E.w.heap.size,0,none⟩) (n+1) G):=by
  have:=osn hx5 0 (n+1) (by omega)
  rwa [uq,uK] at this
 have hxf:Ext E E4:=hx02.trans hx5
 have hnew':∀ i2 v2 nb,E.loc i2=some (v2,some nb)→E4.loc σ.length=some (0,some nb)→False:=by
  intro i2 v2 nb h1 h2
  have h3:=hx5.back hok2 h2
  rw[hloc2] at h3; cases h3
  have:=(hS.blk _ _ _ h1).1
  omega
 have hz1:¬ ((i:Int)=(n:Int)):=by omega
 have hw1:IntKind.i64.wrap ((i:Int)+1)=(i:Int)+1:=by rw[IntKind.wrap_i64]; omega
 have hw2:IntKind.i64.wrap ((n:Int)+1)=(n:Int)+1:=by rw[IntKind.wrap_i64]; omega
 have hw3:IntKind.i64.wrap ((n:Int)+1-(i:Int))=(n:Int)+1-(i:Int):=by rw[IntKind.wrap_i64]; omega
 have hb1:(0:Int)≤(i:Int)+1:=by omega
 have hin:i≤n:=by omega
 have htn:((i:Int)+1).toNat=i+1:=by omega
 have hb2:¬ (G=i+1):=by omega
 have hb3:(i:Int)≤(n:Int)+1:=by omega
 have hb4:¬ (G=i):=by omega
 have hb5:¬ (n=i):=by omega
 have hz3:(n:Int)<(n:Int)+1:=by omega
 have mixed:Tryz.prog.follows .mixedOrders=true:=by kernel_rfl
 have hrz1:=hrz 34;rw[← hE2w] at hrz1
 clear hS hcs hS1 os1 osv hrz hrd hos hto hS2 hx2 osn hold2 hset2 hat2 hW3 hE2 hE2w hloc2 hok2 hsh2 hx02 hold0 hG hconc hcsz
 go_enter Tryz.func234,Tryz.ntmps234
 go_wp2_with (first
  |(at_builtin; refine Lib.wpList_append_run _ rfl _ _ _ _ rfl _ _ rfl rfl _ _ hrz1 ?_)
  |(at_builtin; refine wpList_copy_runI _ rfl _ _ 34 34 rfl _ _ rfl rfl hc1 ?_))
 go_region_law_o (refine step_copy_runI rfl _ _ 34 34 rfl _ _ (by simp[Act.eval,Act.put]) (by simp[Act.eval,Act.put]) hc2 ?_)
 go_wp2
 go_ret
 exact⟨E4,_,rfl,rfl,hfin,hS5,hxf,hnew'⟩
end
section
set_option maxRecDepth 20000
open Go.RowKit AM
theorem SR.die {E:Env}{σ:zf}(hS:SR E σ):SR { E with n:=E.n+1 } (σ++[.dead])∧Ext E { E with n:=E.n+1 }:=by
 have hx:Ext E { E with n:=E.n+1 } := {
  os:=rfl,tape:=rfl,output:=rfl,size:=qA _,shape:=fun _ _ h=>h,st:=fun _ h=>⟨h,rfl⟩,n:=Nat.le_succ _,
  loc:=fun _ _ v o h=>⟨v,o,h,qA _,fun _=>rfl⟩,old:=fun _ _ _=>rfl,own:=fun id v _ h _=>⟨id,v,h⟩,stn:=fun _ h=>.inl h }
 have hn:E.loc σ.length=none:=by
  have:=hS.obj σ.length;rw[uA (qA _)] at this;exact this
 refine⟨⟨by simp[hS.len],fun id=>?_,hS.inj,hS.blk,hS.stb,hS.glb⟩,hx⟩
 by_cases h1:id<σ.length
 · rw[qR h1]
   exact (hS.obj id).ext hx rfl fun _ _ _=>rfl
 by_cases h2:id=σ.length
 · subst h2;rw[uj (qA _),uV];exact hn
 rw[uA (by simp; omega)];have:=hS.obj id;rw[uA (by omega)] at this;exact this
theorem SR.swap {E:Env}{σ:zf}{cs:List AV}(hS:SR E (σ++[.cells 0 cs])){id ver b nb:Nat}(hlt:id<σ.length)(hl:E.loc id=some (ver,some b))(hn:E.loc σ.length=some (0,some nb)):
 let E':Env := { E with loc:=fun i=>if i=id then some (ver+1,some nb) else if i=σ.length then none else E.loc i }
 SR E' (σ.set id (.cells (ver+1) cs)++[.dead])∧ExtV E E'∧∀ sz len v,VR E (.os true sz σ.length 0 0 len false) v→VR E' (.os true sz id (ver+1) 0 len false) v:=by
 intro E'
 have hid:E'.loc id=some (ver+1,some nb):=by simp[E']
 have hlast:E'.loc σ.length=none:=by simp[E']; omega
 have hother:∀ i,i≠id→i≠σ.length→E'.loc i=E.loc i:=fun i h1 h2=>by simp[E',h1,h2]
 have hx:ExtV E E' := {
  shape:=fun _ _ h=>h
  st:=fun _ h=>⟨h,rfl⟩
  n:=qA _
  loc:=fun i _ v o h=>by
   by_cases h1:i=id
   · subst h1; rw[hid] at h; cases h; exact⟨ver,some b,hl,by omega,fun e=>by omega⟩
   by_cases h2:i=σ.length
   · subst h2; rw[hlast] at h; cases h
   rw[hother i h1 h2] at h; exact⟨v,o,h,qA _,fun _=>rfl⟩ }
 have hnE:E.n=σ.length+1:=by have:=hS.len; simp at this; omega
 have hold:∀ i v c,E'.loc i=some (v,some c)→(i=id∧c=nb)∨(i≠id∧i≠σ.length∧E.loc i=some (v,some c)):=by
  intro i v c h
  by_cases h1:i=id
  · subst h1; rw[hid] at h; cases h; exact .inl ⟨rfl,rfl⟩
  by_cases h2:i=σ.length
  · subst h2; rw[hlast] at h; cases h
  rw[hother i h1 h2] at h; exact .inr ⟨h1,h2,h⟩
 refine⟨⟨by simp[hnE,E'],fun i=>?_,fun i i' v v' c h1 h2=>?_,fun i v c h=>?_,hS.stb,hS.glb⟩,hx,fun sz len v h=>?_⟩
 · by_cases h1:i=id
   · subst h1;rw[qR (by simpa using hlt),uu hlt];have:=hS.obj σ.length;rw[uj (qA _),uV] at this
     rcases this with ⟨c,e1,e2⟩|⟨_,e1⟩
     · rw[hn] at e1; cases e1
       refine .inl ⟨nb,hid,?_⟩;obtain⟨conc,t,fr,a1,a2,a3,a4⟩:=e2.blk;exact⟨conc,t,fr,a1,a2,a3,fun k hk=>(a4 k hk).extV hx⟩
     rw[hn] at e1; cases e1
   by_cases h2:i=σ.length
   · subst h2;rw[uj (by simp)];simp only[List.length_set,uV,uH];exact hlast
   have ho:=hS.obj i
   by_cases h3:i<σ.length
   · rw[qR (by simpa using h3),ue (fun e=>h1 e.symm)];rw[qR h3] at ho
     exact ho.extV hx (hother i h1 h2) fun _ _ _=>rfl
   rw[uA (by simp; omega)] at ho ⊢;exact (hother i h1 h2).trans ho
 · rcases hold _ _ _ h1 with ⟨e1,e2⟩|⟨e1,e2,e3⟩
   · subst e1; subst e2
     rcases hold _ _ _ h2 with ⟨f1,f2⟩|⟨f1,f2,f3⟩
     · exact f1.symm
     exact absurd (hS.inj _ _ _ _ _ f3 hn) f2
   rcases hold _ _ _ h2 with ⟨f1,f2⟩|⟨f1,f2,f3⟩
   · subst f2; exact absurd (hS.inj _ _ _ _ _ e3 hn) e2
   exact hS.inj _ _ _ _ _ e3 f3
 · rcases hold _ _ _ h with ⟨e1,e2⟩|⟨e1,e2,e3⟩
   · subst e2; exact hS.blk _ _ _ hn
   exact hS.blk _ _ _ e3
 have hok:E'.ok id (ver+1):=⟨by show id<E.n; omega,fun v o h=>by rw[hid] at h; cases h; exact qA _⟩
 cases h with
 |osn _ _ _ _ _ a hk h=>
  have:=h _ hn; cases this
 |os _ _ _ _ _ _ _ a cap hk hc ht hB h=>
  refine .os _ _ _ _ _ _ _ a cap hok hc ht hB fun ob hob=>?_
  rw[hid] at hob; cases hob
  exact h _ hn
theorem Ext.swap {E0 E:Env}(hx:Ext E0 E){σ0:zf}(h0:SR E0 σ0){id ver b nb:Nat}(hl:E.loc id=some (ver,some b))(hn:E.loc σ0.length=some (0,some nb))(hnb:E0.w.heap.size≤nb)(hlt:id<σ0.length):
 Ext E0 { E with loc:=fun i=>if i=id then some (ver+1,some nb) else if i=σ0.length then none else E.loc i }:=by
 refine { hx with loc:=fun i hi v o h=>?_,own:=fun i v c h hc=>?_,n:=hx.n,st:=hx.st }
 · by_cases h1:i=id
   · subst h1;simp only[if_true,Option.some.injEq,Prod.mk.injEq] at h;obtain⟨v0,o0,e1,e2,e3⟩:=hx.loc _ hi _ _ hl;exact⟨v0,o0,e1,by omega,fun e=>by omega⟩
   simp only[if_neg h1] at h
   split at h
   · cases h
   exact hx.loc i hi v o h
 by_cases h1:i=id
 · subst h1;simp only[if_true,Option.some.injEq,Prod.mk.injEq] at h
   omega
 simp only[if_neg h1] at h
 split at h
 · cases h
 exact hx.own i v c h hc
theorem ACalls.dies {P:Program}{f:FuncId}{args:List AV}{σ:zf}{x:AV}{τ:zf}(h:ACalls P f args σ fun r σ'=>r=x∧σ'=τ):ACalls P f args σ fun r σ'=>r=x∧σ'=τ++[.dead]:=by
 refine⟨h.1,fun E vs hS hl=>(h.2 E vs hS hl).mono ?_⟩;rintro e w ⟨v,r,σ',E',rfl,rfl,h3,h4,h5,rfl,rfl⟩;obtain⟨g1,g2⟩:=SR.die h4;exact⟨_,_,_,{ E' with n:=E'.n+1 },rfl,rfl,h3.ext g2,g1,h5.trans g2,rfl,rfl⟩
theorem bump {E E':Env}{σ:zf}(hS:SR E σ){id ver b:Nat}{cs cs':List AV}(hcs:zf.at σ id ver=some cs)(hk:E.ok id ver)(hloc:E.loc id=some (ver,some b))(hne:cs.length≠0)(hlen:cs'.length≠0)(h4:SR E' (σ.set id (.cells ver cs')))(h5:Ext E E'){sz len:Nat}{v:Value}
 (h3:VR E' (.os true sz id ver 0 len false) v):
 ∃ E2:Env,E2.w=E'.w∧SR E2 (σ.set id (.cells (ver+1) cs'))∧VR E2 (.os true sz id (ver+1) 0 len false) v∧Ext E E2:=by
 have hat:=zf.at_set (ver':=ver) (cs':=cs') hcs
 have hl':E'.loc id=some (ver,some b):=by
  rcases h4.at hat with ⟨b',e1,_⟩|⟨e1,_⟩
  · have:=h5.back hk e1; rw[hloc] at this; cases this; exact e1
  rw[e1] at hlen; exact absurd rfl hlen
 obtain⟨hS3,hx3⟩:=h4.move (vag.refl E'.w) hat hl' (ob:=some b) (fun b hb=>by cases hb; exact⟨.inr rfl,(h4.blk _ _ _ hl').1⟩) (cs:=cs') (.inl ⟨b,by simp[Env.move],by
  rcases h4.at hat with ⟨b1,h1,hblk1⟩|⟨_,h1⟩
  · rw[hl'] at h1; cases h1
    obtain⟨conc,t,fr,a1,a2,a3,a4⟩:=hblk1.blk;exact⟨conc,t,fr,a1,a2,a3,fun k hk=>(a4 k hk).ext (Ext.move h4.stb (vag.refl _) hl' _ fun b hb=>by cases hb; exact .inr rfl)⟩
  rw[hl'] at h1; cases h1⟩)
 rw[List.set_set] at hS3;refine⟨E'.move E'.w id (ver+1) (some b),rfl,hS3,?_,h5.trans hx3⟩;have hok:(E'.move E'.w id (ver+1) (some b)).ok id (ver+1):=⟨un hk.1 h5.n,fun v o hvo=>by simp[Env.move] at hvo; omega⟩
 cases h3 with
 |osn _ _ _ _ _ a hk h=>have:=h _ hl'; cases this
 |os _ _ _ _ _ _ _ a cap hk hc ht hB h=>
  refine .os _ _ _ _ _ _ _ a cap hok hc ht hB fun ob hob=>?_
  simp only[Env.move,if_true,Option.some.injEq,Prod.mk.injEq,true_and] at hob;subst hob;exact h _ hl'
theorem Insert_at {σ:zf}{id ver n i vid vver:Nat}{nl:Bool}{cells new:List AV}(hcs:zf.at σ id ver=some cells)(hlen:cells.length=n*2)(hone:cells.all AV.one=true)(hi:i≤n)(hn:(n+1)*32≤140737488355328)
 (hv:zf.at σ vid vver=some new) (hnew:new.length=2) (honev:new.all AV.one=true) (hvid:vid≠id):
 ACalls qf 234 [.os nl 2 id ver 0 n false,.int .i64 (i:Int),.os true 2 vid vver 0 1 true] σ (fun r σ'=>r=.os true 2 id (ver+1) 0 (n+1) false∧
  σ'=σ.set id (.cells (ver+1) (cells.take (i*2)++(new++cells.drop (i*2))))++[.dead]):=by
 have hlt:=zf.at_lt hcs
 by_cases hin:i=n
 · subst hin;refine ACalls.dies ?_;refine Y1 (rs:=[.tmp 6]) U Tryz.func234 rfl Tryz.ntmps234 rfl Tryz.call234 (by simp) ?_
   have hap:yG tab 34 34 (.os nl 2 id ver 0 i false) (.os true 2 vid vver 0 1 true) σ=some (.os true 2 id (ver+1) 0 (i+1) false,σ.set id (.cells (ver+1) (cells++new))):=by
    have e1:y0 σ 2 (.os true 2 vid vver 0 1 true)=some (1,new):=by
     simp only[y0,hv];rw[if_pos (by omega),qw,Nat.one_mul,← hnew,uh]
    have hg:((i+1)*32≤140737488355328)=True:=eq_true (by omega);simp only[yG,vbl,vbk,e1,yJ,hg,honev,qd,and_self,if_true,yf,hcs,hlen]
   have hsl:ZZ tab 34 (.os nl 2 id ver 0 i false) (some (.int .i64 (i:Int))) none none=some (.os nl 2 id ver (i*2) (i-i) false):=by
    simp only[ZZ,vbl,vbk,vdl]
    simp
   refine zu [(0,.os nl 2 id ver 0 i false),(1,.int .i64 (i:Int)),(2,.os true 2 vid vver 0 1 true)] ⟨rfl,rfl,rfl,trivial⟩ ?_
   refine rg U [0,1,2,6] fun K J=>?_
   simp only[go_sem,qd,qc,reduceCtorEq];apply J
   clear J K
   refine rg U [0,1,2,6] fun K J=>?_
   simp only[go_sem,qd,qc,reduceCtorEq,hsl];apply J
   clear J K
   refine rg U [0,1,2,6,7] fun K J=>?_
   simp only[go_sem,qd,qc,reduceCtorEq];apply J
   clear J K
   refine za fun Z hZ=>?_
   refine rg U [0,1,2,6,7,16] fun K J=>?_
   simp only[go_sem,qd,qc,reduceCtorEq];apply J
   clear J K
   refine zR rfl (fun h=>absurd h (by decide)) (fun _=>?_);refine zg ?_;refine hZ _ _ ?_
   clear hZ Z
   refine rg U [0,1,2,6,7,8] fun K J=>?_
   simp only[go_sem,qd,qc,reduceCtorEq];apply J
   clear J K
   refine za fun Z hZ=>?_
   refine rg U [0,1,2,6,7,8,22] fun K J=>?_
   simp only[go_sem,qd,qc,reduceCtorEq,decide_true];apply J
   clear J K
   refine zE rfl ?_
   refine rg U [6] fun K J=>?_
   simp only[go_sem,qd,qc,reduceCtorEq,hap];apply J
   clear J K
   refine yE ?_;simp only[Yk,xg,xw,wu,exists_eq_left',go_sem];rw[← hlen,uh,List.drop_length,qT]
 have hi':i<n:=by omega
 refine⟨Tryz.call234,fun E vs hS hl=>?_⟩;obtain⟨l1,l2⟩:=hl.arr
 rcases vs with ⟨_|⟨v0,_|⟨v1,_|⟨v2,_|⟨v3,l⟩⟩⟩⟩⟩<;>simp only[List.size_toArray,qk,qp,qe,reduceCtorEq,qc] at l1
 have h0:VR E (.os nl 2 id ver 0 n false) v0:=l2 0 (by simp);have h1:VR E (.int .i64 (i:Int)) v1:=l2 1 (by simp);have h2:VR E (.os true 2 vid vver 0 1 true) v2:=l2 2 (by simp)
 clear l2 hl
 cases h1
 cases h0 with
 |osn=>omega
 |os _ _ _ _ _ _ _ a cap hk hc ht hB hp=>
 cases h2 with
 |os _ _ _ _ _ _ _ av capv hkv hcv htv hBv hpv=>
 have:=htv rfl; subst this
 obtain⟨b,hloc,_⟩:=hS.block_of hcs (show 0<cells.length by omega);obtain⟨vb,hvloc,_⟩:=hS.block_of hv (show 0<new.length by omega);obtain⟨b',e1,e2,t,m,hsh,hts,hm⟩:=hp _ hloc;cases e1
 have:=e2.resolve_left (by omega); subst this
 obtain⟨b',e1,e2,tv,mv,hvsh,hvts,hmv⟩:=hpv _ hvloc;cases e1
 have:=e2.resolve_left (by omega); subst this
 by_cases hroom:n+1≤cap
 · refine (ins_shift hS hcs hlen hone hi' hloc hk hsh hts (by omega) hroom hn hv hnew honev hvid hvloc hkv hvsh hvts (by omega)).mono ?_;rintro e w ⟨E',rfl,rfl,h3,h4,h5⟩;obtain⟨E2,g1,g2,g3,g4⟩:=bump hS hcs hk hloc (by omega) (by simp only[qt,hnew]; omega) h4 h5 h3;obtain⟨hS3,hx3⟩:=SR.die g2;exact⟨_,_,_,{ E2 with n:=E2.n+1 },rfl,g1,g3.ext hx3,hS3,g4.trans hx3,rfl,rfl⟩
 have hcn:cap=n:=by omega
 subst hcn;refine (ins_grow hS hcs hlen hone hi' hloc hk hsh hts (by omega) hn hv hnew honev hvid hvloc hkv hvsh hvts (by omega)).mono ?_;rintro e w ⟨E',v,rfl,rfl,h3,h4,h5,hnew'⟩
 have hl':E'.loc id=some (ver,some b):=by
  have:=(h4.at (id:=id) (ver:=ver) (cs:=cells) (by
   have:=zf.at_lt hcs
   unfold zf.at at hcs ⊢; rw[qR this]; exact hcs))
  rcases this with ⟨b',e1,_⟩|⟨e1,_⟩
  · have:=h5.back hk e1; rw[hloc] at this; cases this; exact e1
  rw[e1] at hlen; simp at hlen; omega
 have hn':∃ nb,E'.loc σ.length=some (0,some nb)∧E.w.heap.size≤nb:=by
  rcases h4.at (zf.at_new σ 0 _) with ⟨nb,e1,_⟩|⟨e1,_⟩
  · refine⟨nb,e1,Nat.le_of_not_lt fun hlt'=>?_⟩;obtain⟨i2,v2,e2⟩:=h5.own _ _ _ e1 hlt';exact hnew' i2 v2 nb e2 e1
  have:(cells.take (i*2)++(new++cells.drop (i*2))).length=0:=by rw[e1]; rfl
  simp only[qt,hnew] at this; omega
 obtain⟨nb,hn1,hn2⟩:=hn';obtain⟨g1,g2,g3⟩:=SR.swap h4 hlt hl' hn1;exact⟨_,_,_,{ E' with loc:=fun i=>if i=id then some (ver+1,some nb) else if i=σ.length then none else E'.loc i },rfl,rfl,g3 _ _ _ h3,g1,Ext.swap h5 hS hl' hn1 hn2 hlt,rfl,rfl⟩
end
section
set_option maxRecDepth 8000
set_option maxHeartbeats 1000000
open Go.RowKit AM
structure Ent where
 tag:Int
 id:Nat
 ver:Nat
 trees:List zi
def Ent.cells (e:Ent):List AV:=[.int .i64 e.tag,.os true 5 e.id e.ver 0 e.trees.length false]
def Ent.val (e:Ent):zp:=⟨e.tag,e.trees⟩
structure Rep (σ:zf)(tid eid ever:Nat)(L:List Ent):Prop where
 t:zf.at σ tid 0=some [.int .i64 3,.int .i64 0,.str [],.os true 2 eid ever 0 L.length false,.ds true [] 0 true]
 e:zf.at σ eid ever=some (L.flatMap Ent.cells)
 tr:∀ x∈L,zf.at σ x.id x.ver=some (x.trees.flatMap ya)
 nd:(tid::eid::L.map Ent.id).Nodup
def vdb (es:List zp)(f:yY)(x:zi):Option (List zp×Bool):=
 (zY es f.fTag).bind fun p=>
 (if p.2=true then some es else (grd (0≤p.1∧p.1≤(es.length:Int))).bind fun _=>(vao (es.length+1) 32).bind fun _=>some (es.take p.1.toNat++⟨f.fTag,[]⟩::es.drop p.1.toNat)).bind fun es1=>
 (Yl es1 p.1).bind fun e=>
 (vao ((if f.fLabel=3 then e.fTrees.length else 0)+1) 80).bind fun _=>
 some (es1.set p.1.toNat ⟨e.fTag,(if f.fLabel=3 then e.fTrees else [])++[x]⟩,decide ((((if f.fLabel=3 then e.fTrees else [])++[x]).length:Int)≤64))
theorem YB {σ:zf}{id ver:Nat}{cs:List AV}(h:zf.at σ id ver=some cs)(l:zf):zf.at (σ++l) id ver=some cs:=by
 have:=zf.at_lt h
 unfold zf.at at h ⊢; rw[qR this]; exact h
theorem Zq {σ:zf}{id id' ver:Nat}{cs:List AV}(h:zf.at σ id ver=some cs)(hne:id≠id')(o:Y3):zf.at (σ.set id' o) id ver=some cs:=by
 unfold zf.at at h ⊢; rw[ue (fun e=>hne e.symm)]; exact h
theorem vcV (σ:zf)(cs:List AV)(l:zf):zf.at (σ++.cells 0 cs::l) σ.length 0=some cs:=by
 unfold zf.at; rw[uj (qA _),uV]; rfl
theorem at_end1 (σ:zf)(o:Y3)(cs:List AV)(l:zf):zf.at (σ++o::.cells 0 cs::l) (σ.length+1) 0=some cs:=by
 unfold zf.at; rw[uj (by omega)]; simp
theorem Rep.app {σ:zf}{tid eid ever:Nat}{L:List Ent}(h:Rep σ tid eid ever L)(l:zf):Rep (σ++l) tid eid ever L:=
 ⟨YB h.t l,YB h.e l,fun x hx=>YB (h.tr x hx) l,h.nd⟩
theorem Rep.toldC {σ:zf}{tid eid ever:Nat}{L:List Ent}(h:Rep σ tid eid ever L)(keep:List Nat)(ls:Bool)(f:Nat)(hk:∀ y∈L,Xv keep y.id 0=none):(L.flatMap Ent.cells).map (tell σ keep ls (f+2))=(L.map Ent.val).flatMap zx:=by
 have key:∀ l:List Ent,(∀ x∈l,x∈L)→(l.flatMap Ent.cells).map (tell σ keep ls (f+2))=(l.map Ent.val).flatMap zx:=by
  intro l
  induction l with
  |nil=>intro _; rfl
  |cons a l ih=>
   intro hl
   have h1:=h.tr a (hl a (qG ..));have h2:=hk a (hl a (qG ..));simp only[ua,qE,qy,ih fun x hx=>hl x (qB _ hx)]
   congr 1
   simp only[Ent.cells,Ent.val,qy,qq,vbQ,ZS,h2,h1,yh,zK,zp.fTag,zp.fTrees];have hl:(a.trees.flatMap ya).length=a.trees.length*5:=zU E38.len a.trees;rw[if_pos (by rw[hl]; omega),qw,← hl,uh,zL]
 exact key L (fun _ h=>h)
theorem Rep.told {σ:zf}{tid eid ever:Nat}{L:List Ent}(h:Rep σ tid eid ever L)(nl:Bool):tell σ [] true 12 (.os nl 2 eid ever 0 L.length false)=.ds true ((L.map Ent.val).flatMap zx) (L.map Ent.val).length false:=by
 have hl:(L.flatMap Ent.cells).length=L.length*2:=by
  clear h
  induction L with
  |nil=>rfl
  |cons a l ih=>rw[ua,qt,ih]; simp[Ent.cells]; omega
 simp only[ZS,Zp,h.e];rw[if_pos (by rw[hl]; omega),qw,← hl,uh,h.toldC [] true 9 (fun _ _=>rfl),ud]
theorem Rep.set_ne {σ:zf}{tid eid ever:Nat}{L:List Ent}(h:Rep σ tid eid ever L){j:Nat}(hj:j∉tid::eid::L.map Ent.id)(o:Y3):Rep (σ.set j o) tid eid ever L:=by
 refine⟨Zq h.t (fun e=>hj (by rw[← e]; simp)) o,Zq h.e (fun e=>hj (by rw[← e]; simp)) o,fun x hx=>Zq (h.tr x hx) (fun e=>hj ?_) o,h.nd⟩;rw[← e];exact qB _ (qB _ (uB.2 ⟨x,hx,rfl⟩))
structure Mid (σ τ:zf)(tid eid ever:Nat)(ids:List Nat)(pre post:List Ent)(tag:Int)(av:AV)(trees:List zi):Prop where
 t:zf.at τ tid 0=some [.int .i64 3,.int .i64 0,.str [],.os true 2 eid ever 0 (pre.length+(1+post.length)) false,.ds true [] 0 true]
 e:zf.at τ eid ever=some (pre.flatMap Ent.cells++([.int .i64 tag,av]++post.flatMap Ent.cells))
 tr:∀ y∈pre++post,zf.at τ y.id y.ver=some (y.trees.flatMap ya)
 nd:(tid::eid::(pre++post).map Ent.id).Nodup
 c:(av=.ds true [] 0 true∧trees=[])∨∃ id ver,av=.os true 5 id ver 0 trees.length false∧zf.at τ id ver=some (trees.flatMap ya)∧id∉tid::eid::(pre++post).map Ent.id∧id∈ids
 sub:∀ y∈pre++post,y.id∈ids
 len:σ.length+2≤τ.length
 fr:∀ j,j<σ.length→j∉tid::eid::ids→τ[j]?=σ[j]?
 lt:∀ j∈tid::eid::ids,j<σ.length
theorem agr_app {x:List Nat}:∀ {s:zf} {i:Nat} (l:zf),agr x i s s (s++l)=True:=by
 intro s
 induction s with
 |nil=>intro i l; rfl
 |cons a s ih=>intro i l; simp only[qK,agr,ih]; simp
theorem vcT (l:List Ent):(l.flatMap Ent.cells).length=l.length*2:=by
 induction l with
 |nil=>rfl
 |cons a l ih=>rw[ua,qt,ih]; simp[Ent.cells]; omega
theorem cells_one (l:List Ent):(l.flatMap Ent.cells).all AV.one=true:=by
 induction l with
 |nil=>rfl
 |cons a l ih=>rw[ua,List.all_append,ih]; rfl
theorem split_at {α:Type}{l:List α}{k:Nat}(h:k≤l.length):∃ a b,l=a++b∧a.length=k:=⟨l.take k,l.drop k,(uz k l).symm,by simp[h]⟩
theorem split_el {α:Type}{l:List α}{k:Nat}(h:k<l.length):∃ a x b,l=a++x::b∧a.length=k:=by
 refine⟨l.take k,l[k],l.drop (k+1),?_,by simp; omega⟩;rw[← uU h,uz]
theorem set_mid {α:Type}(a:List α)(x y:α)(b:List α):(a++x::b).set a.length y=a++y::b:=by
 rw[List.set_append_right _ _ (qA _),uV]; rfl
theorem gc_mid (a b:List AV)(x y:AV):gc (a++([x,y]++b)) (a.length+1)=y:=by
 rw[Xx _ _ _ (by omega),Nat.add_sub_cancel_left]; rfl
theorem set_mid1 (a b:List AV)(x y z:AV):(a++([x,y]++b)).set (a.length+1) z=a++([x,z]++b):=by
 rw[List.set_append_right _ _ (by omega),Nat.add_sub_cancel_left]; rfl
theorem put_at {σ:zf}{tid eid ever:Nat}{L:List Ent}(hR:Rep σ tid eid ever L)(f:yY)(x:zi){es':List zp}{b:Bool}(h:vdb (L.map Ent.val) f x=some (es',b)):
 ACalls qf 195 [.op tid 0 0,.agg (z7 f),.agg (zb x)] σ (fun r σ'=>∃ ever' L',r=.bool b∧Rep σ' tid eid ever' L'∧L'.map Ent.val=es'∧
  (∀ y∈L',y.id∈L.map Ent.id∨σ.length≤y.id)∧σ.length≤σ'.length∧∀ j,j<σ.length→j∉tid::eid::L.map Ent.id→σ'[j]?=σ[j]?):=by
 refine Y1 (rs:=[.tmp 6]) U Tryz.func195 rfl Tryz.ntmps195 rfl Tryz.call195 (by simp) ?_;refine zu [(0,.op tid 0 0),(1,.agg (z7 f)),(2,.agg (zb x))] ⟨rfl,rfl,rfl,trivial⟩ ?_
 refine rg U [0,4,5,6] fun K J=>?_
 simp only[go_sem,qd,qc,qe,reduceCtorEq,z7,zb];apply J
 clear J K
 simp only[qP,qK,qC,qt,qk,qp,ql]
 obtain⟨σ1,hσ1⟩:∃ s,s=σ++[.cells 0 [.str f.fName,.int .i64 f.fTag,.int .i64 f.fLabel,.int .i64 f.fType.fKind,.str f.fType.fName],
  .cells 0 [.int .i64 x.fKind,.int .i64 x.fN,.str x.fS,.ds true (qb zx x.fEntries) x.fEntries.length false,.ds true (qb zA x.fRest) x.fRest.length false]]:=⟨_,rfl⟩
 rw[← hσ1];have hR1:Rep σ1 tid eid ever L:=hσ1▸hR.app _;have h4:zf.at σ1 σ.length 0=some [.str f.fName,.int .i64 f.fTag,.int .i64 f.fLabel,.int .i64 f.fType.fKind,.str f.fType.fName]:=hσ1▸vcV _ _ _;have h5:zf.at σ1 (σ.length+1) 0=some [.int .i64 x.fKind,.int .i64 x.fN,.str x.fS,.ds true (qb zx x.fEntries) x.fEntries.length false,.ds true (qb zA x.fRest) x.fRest.length false]:=hσ1▸at_end1 _ _ _ _
 have hn1:σ1.length=σ.length+2:=by rw[hσ1]; simp
 have hfr:∀ j,j<σ.length→σ1[j]?=σ[j]?:=fun j hj=>by rw[hσ1,qR hj]
 have hlt:∀ j∈tid::eid::L.map Ent.id,j<σ.length:=by
  intro j hj
  rcases uc.1 hj with rfl|hj
  · exact zf.at_lt hR.t
  rcases uc.1 hj with rfl|hj
  · exact zf.at_lt hR.e
  obtain⟨y,hy,rfl⟩:=uB.1 hj;exact zf.at_lt (hR.tr y hy)
 clear hσ1
 unfold vdb at h;obtain⟨p,hp,h⟩:=bind_some h;have ht1:=hR1.t
 refine rd [0,4,5,6,7,8] fun K J=>?_
 refine DW.start (T:=tab) [.any,.any,.any,.at [],.any,.at [],.eff,.any,.any,.any,.any,.any] [] ?_;refine DW.runN U 6 ?_;simp only[go_sem,qd,qc,qe,reduceCtorEq,ht1,h4];refine DW.call rfl rfl rfl ((zY.ok hp).lend rfl true 12 (by simp only[qy,qq,go_sem,qc,reduceCtorEq,hR1.told true,vbQ]; rfl)) ?_;refine DW.runN U 5 ?_;simp only[go_sem,qd,qc,qe,reduceCtorEq];refine DW.fin U (by decide +kernel) rfl ?_;simp only[zq,upd,qc,reduceIte,yD,xj];apply J
 clear J K
 obtain⟨es1,hes1,h⟩:=bind_some h;obtain⟨e,he,h⟩:=bind_some h;obtain⟨u,hu,h⟩:=bind_some h;have hg:=yR hu
 have hidL:∀ l:List Ent,(l.map Ent.val).length=l.length:=fun l=>ud _
 refine we (fun F τ=>F=[(0,AV.op tid 0 0),(4,.op σ.length 0 0),(5,.op (σ.length+1) 0 0),(6,.bool false),(7,.int .i64 p.1)]∧∃ ever' pre post av,p.1=(pre.length:Int)∧es1=pre.map Ent.val++e::post.map Ent.val∧Mid σ τ tid eid ever' (L.map Ent.id) pre post e.fTag av e.fTrees∧
  zf.at τ σ.length 0=some [.str f.fName,.int .i64 f.fTag,.int .i64 f.fLabel,.int .i64 f.fType.fKind,.str f.fType.fName]∧
  zf.at τ (σ.length+1) 0=some [.int .i64 x.fKind,.int .i64 x.fN,.str x.fS,.ds true (qb zx x.fEntries) x.fEntries.length false,.ds true (qb zA x.fRest) x.fRest.length false]) ?_ ?_
 · refine rg U [0,4,5,6,7,21] fun K J=>?_
   simp only[go_sem,qd,qc,reduceCtorEq];apply J
   clear J K
   refine zB (b := !p.2) rfl (fun hc=>?_) (fun hc=>?_)
   · have hc':p.2=false:=by simpa using hc
     rw[wn hc'] at hes1;obtain⟨_,h1,hes1⟩:=bind_some hes1;obtain⟨_,h2,hes1⟩:=bind_some hes1;have h1:=Yb h1;have h2:=yR h2;obtain rfl:=Option.some.inj hes1
     obtain⟨k,hk⟩:∃ k:Nat,p.1=k:=⟨p.1.toNat,by omega⟩
     rw[hk] at he h1 ⊢;simp only[uw,hidL] at he h1 h2
     have hkl:k≤L.length:=by omega
     obtain⟨pre,post,rfl,rfl⟩:=split_at hkl;have hl2:(pre++post).length=pre.length+post.length:=qt
     have e1:List.take pre.length ((pre++post).map Ent.val)=pre.map Ent.val:=by rw[qE,← ud (f:=Ent.val),List.take_left]
     have e2:List.drop pre.length ((pre++post).map Ent.val)=post.map Ent.val:=by rw[qE,← ud (f:=Ent.val),List.drop_left]
     rw[e1,e2] at he
     have hee:e=⟨f.fTag,[]⟩:=by
      obtain⟨_,_,_,g3⟩:=ZG he
      rw[← g3]; simp
     subst hee;rw[uw,e1,e2]
     have hc1:((pre++post).flatMap Ent.cells).take (pre.length*2)=pre.flatMap Ent.cells:=by rw[um,← vcT,List.take_left]
     have hc2:((pre++post).flatMap Ent.cells).drop (pre.length*2)=post.flatMap Ent.cells:=by rw[um,← vcT,List.drop_left]
     have htl:(tid<σ1.length)=True:=eq_true (by have:=hlt tid (by simp); omega);have htl2:(tid<σ.length)=True:=eq_true (hlt tid (by simp));have hel:=hlt eid (by simp)
     have hte:tid≠eid:=by have:=hR1.nd; simp at this; exact this.1.1
     have hins:=Insert_at (σ:=σ1++[Y3.cells 0 [AV.int .i64 f.fTag,AV.ds true [] 0 true]]) (nl:=true) (i:=pre.length) (YB hR1.e _) (vcT _) (cells_one _) (by omega) (by have:=of_eq_true h2; omega) (vcV σ1 _ []) (new:=[AV.int .i64 f.fTag,AV.ds true [] 0 true]) rfl rfl (by omega);rw[hc1,hc2] at hins
     obtain⟨σ2,hσ2⟩:∃ s,s=List.set (σ1++[Y3.cells 0 [AV.int .i64 f.fTag,AV.ds true [] 0 true]]) eid (Y3.cells (ever+1) (pre.flatMap Ent.cells++([AV.int .i64 f.fTag,AV.ds true [] 0 true]++post.flatMap Ent.cells)))++[Y3.dead]:=⟨_,rfl⟩
     rw[← hσ2] at hins
     have ht2:zf.at σ2 tid 0=some [.int .i64 3,.int .i64 0,.str [],.os true 2 eid ever 0 (pre++post).length false,.ds true [] 0 true]:=by
      rw[hσ2]; exact YB (Zq (YB hR1.t _) hte _) _
     refine rdE [0,4,5,6,7] fun K J=>?_
     refine DW.start (T:=tab) [.any,.any,.any,.any,.own 1 [],.any,.any,.at [],.any,.eff,.eff,.any,.any,.eff] [(1,[])] ?_;refine DW.runN U 6 ?_;simp only[go_sem,qd,qc,qe,reduceCtorEq,ht1,htl];refine DW.runN U 4 ?_;simp only[go_sem,qd,qg,qc,qe,qj,reduceCtorEq,h4,zM,yz,qV,qL,true_and,q5,agr_app];refine DW.callS rfl rfl rfl hins (fun m x hm hle=>by simp at hm hle; omega) ?_;refine DW.runN U 3 ?_;simp only[go_sem,qd,qg,qc,qe,reduceCtorEq,ht2];refine DW.fin U (by decide +kernel) rfl ?_;simp only[zq,upd,qc,reduceIte,yD,xj];apply J
     clear J K
     have hnd:=hR1.nd
     have keep:∀ {j v:Nat} {cs:List AV},zf.at σ1 j v=some cs→j≠eid→j≠tid→zf.at (σ2.set tid (.cells 0 [.int .i64 3,.int .i64 0,.str [],.os true 2 eid (ever+1) 0 ((pre++post).length+1) false,.ds true [] 0 true])) j v=some cs:=by
      intro j v cs hj h1 h2
      refine Zq ?_ h2 _
      rw[hσ2]; exact YB (Zq (YB hj _) h1 _) _
     have hnid:∀ y∈pre++post,y.id≠eid∧y.id≠tid:=by
      intro y hy
      have hm:y.id∈(pre++post).map Ent.id:=uB.2 ⟨y,hy,rfl⟩;rw[List.nodup_cons,List.nodup_cons] at hnd;exact⟨fun e=>hnd.2.1 (e▸hm),fun e=>hnd.1 (qB _ (e▸hm))⟩
     simp only[zq];refine⟨_,_,⟨rfl,ever+1,pre,post,.ds true [] 0 true,rfl,rfl,⟨?_,?_,?_,hnd,.inl ⟨rfl,rfl⟩,?_,?_,?_,hlt⟩,keep h4 (by omega) (by have:=of_eq_true htl2; omega),keep h5 (by omega) (by have:=of_eq_true htl2; omega)⟩,.same ⟨rfl,rfl,rfl,rfl,rfl,trivial⟩ rfl⟩
     · have:=zf.at_set (ver':=0) (cs':=[.int .i64 3,.int .i64 0,.str [],.os true 2 eid (ever+1) 0 ((pre++post).length+1) false,.ds true [] 0 true]) ht2;rw[this,hl2];simp only[Option.some.injEq,List.cons.injEq,AV.os.injEq,true_and,and_true]
       omega
     · refine Zq ?_ hte.symm _
       rw[hσ2]; exact YB (zf.at_set (YB hR1.e _)) _
     · intro y hy; exact keep (hR1.tr y hy) (hnid y hy).1 (hnid y hy).2
     · intro y hy; exact uB.2 ⟨y,hy,rfl⟩
     · rw[hσ2]; simp; omega
     intro j hj hjn
     simp only[uc,not_or] at hjn;rw[ue (fun e=>hjn.1 e.symm),hσ2,qR (by simp; omega),ue (fun e=>hjn.2.1 e.symm),qR (by omega)];exact hfr j hj
   have hc':p.2=true:=by simpa using hc
   rw[if_pos hc'] at hes1;obtain rfl:=Option.some.inj hes1
   obtain⟨k,hk⟩:∃ k:Nat,p.1=k:=⟨p.1.toNat,by have:=(ZG he).1; omega⟩
   have he':=he;rw[hk] at he';obtain⟨g0,g1,g2,g3⟩:=ZG he';simp only[uw,hidL] at g1 g2 g3;obtain⟨pre,a,post,rfl,rfl⟩:=split_el (show k<L.length by omega)
   have hea:e=a.val:=by
    rw[← g3]; simp
   subst hea;refine zg ?_;simp only[zq];refine⟨_,σ1,⟨rfl,ever,pre,post,.os true 5 a.id a.ver 0 a.trees.length false,hk,by simp,⟨?_,?_,?_,?_,?_,?_,?_,?_,?_⟩,h4,h5⟩,.same ⟨rfl,rfl,rfl,rfl,rfl,trivial⟩ rfl⟩
   · have:=hR1.t
     rw[qt,qk,Nat.add_comm post.length 1] at this; exact this
   · have:=hR1.e
     rw[um,ua] at this; exact this
   · intro y hy
     refine hR1.tr y ?_
     rcases u4.1 hy with h|h
     · exact uL _ h
     exact uR _ (qB _ h)
   · have:=hR1.nd;refine List.Nodup.sublist ?_ this;refine List.Sublist.cons_cons _ (List.Sublist.cons_cons _ ?_);exact (List.Sublist.append_left (List.sublist_cons_self _ _) _).map _
   · refine .inr ⟨a.id,a.ver,rfl,hR1.tr a (by simp),?_,by simp⟩;have:=hR1.nd;simp only[qE,qy,List.nodup_cons,uc,u4,List.nodup_append,not_or] at this ⊢;obtain⟨⟨h1,h2,h3,h4⟩,⟨h5,h6,h7⟩,h8,⟨h9,h10⟩,h11⟩:=this;exact⟨fun e=>h3 e.symm,fun e=>h6 e.symm,fun hm=>h11 _ hm _ (.inl rfl) rfl,h9⟩
   · intro y hy
     rcases u4.1 hy with h|h
     · exact uB.2 ⟨y,uL _ h,rfl⟩
     exact uB.2 ⟨y,uR _ (qB _ h),rfl⟩
   · omega
   · intro j hj _; exact hfr j hj
   exact hlt
 clear hes1 hp ht1 hR1 h4 h5 hn1 hfr σ1
 rintro _ τ ⟨rfl,ever1,pre,post,av,hp1,rfl,hM,h4,h5⟩;rw[hp1] at he h;simp only[uw] at h
 have hix:ZR tab 34 (.os true 2 eid ever1 0 (pre.length+(1+post.length)) false) (.int .i64 p.1)=some (.op eid ever1 (pre.length*2)):=by
  rw[hp1];simp only[ZR,vbl,vbk]
  simp
  omega
 have ht:=hM.t
 refine rg U [4,5,6,9] fun K J=>?_
 simp only[go_sem,qd,qc,qe,reduceCtorEq,ht,hix];apply J
 clear J K
 have hcl:(pre.flatMap Ent.cells).length=pre.length*2:=vcT pre
 refine we (fun F τ'=>F=[(5,AV.op (σ.length+1) 0 0),(6,.bool false),(9,.op eid ever1 (pre.length*2))]∧∃ av',Mid σ τ' tid eid ever1 (L.map Ent.id) pre post e.fTag av' (if f.fLabel=3 then e.fTrees else [])∧
  zf.at τ' (σ.length+1) 0=some [.int .i64 x.fKind,.int .i64 x.fN,.str x.fS,.ds true (qb zx x.fEntries) x.fEntries.length false,.ds true (qb zA x.fRest) x.fRest.length false]) ?_ ?_
 · refine rg U [5,6,9,43] fun K J=>?_
   simp only[go_sem,qd,qc,qe,h4];apply J
   clear J K
   refine zR rfl (fun hc=>?_) (fun hc=>?_)
   · obtain⟨cs,hcs⟩:∃ cs,cs=pre.flatMap Ent.cells++([.int .i64 e.fTag,av]++post.flatMap Ent.cells):=⟨_,rfl⟩
     have hMe:=hM.e;rw[← hcs] at hMe;have hle:(pre.length*2+1<cs.length)=True:=eq_true (by rw[hcs]; simp only[qt,hcl,qk,qp]; omega);have hle':(pre.length*2+1+1≤cs.length)=True:=eq_true (by have:=of_eq_true hle; omega)
     refine rgE U [5,6,9] fun K J=>?_
     simp only[go_sem,qd,qc,hMe,hle'];apply J
     clear J K
     have hset:cs.set (pre.length*2+1) (.ds true [] 0 true)=pre.flatMap Ent.cells++([.int .i64 e.fTag,.ds true [] 0 true]++post.flatMap Ent.cells):=by
      rw[hcs,← hcl,set_mid1]
     rw[hset];simp only[zq];rw[if_neg hc];have hnd:=hM.nd;have hlt:=hM.lt;rw[List.nodup_cons,List.nodup_cons] at hnd
     have hte:tid≠eid:=fun e=>hnd.1 (e▸qG ..)
     refine⟨_,_,⟨rfl,.ds true [] 0 true,⟨Zq hM.t hte _,zf.at_set hM.e,?_,hM.nd,.inl ⟨rfl,rfl⟩,hM.sub,?_,?_,hM.lt⟩,Zq h5 ?_ _⟩,.same ⟨rfl,rfl,rfl,trivial⟩ rfl⟩
     · intro y hy
       refine Zq (hM.tr y hy) ?_ _
       intro e; exact hnd.2.1 (e▸uB.2 ⟨y,hy,rfl⟩)
     · have:=hM.len; simpa using this
     · intro j hj hjn
       rw[ue]
       · exact hM.fr j hj hjn
       intro e; exact hjn (e▸by simp)
     have:=hlt eid (by simp); omega
   refine zg ?_;simp only[zq];rw[if_pos hc];exact⟨_,τ,⟨rfl,av,hM,h5⟩,.same ⟨rfl,rfl,rfl,trivial⟩ rfl⟩
 clear hM h4 h5 hix ht τ av
 rintro _ τ ⟨rfl,av,hM,h5⟩
 obtain⟨cs,hcs⟩:∃ cs,cs=pre.flatMap Ent.cells++([.int .i64 e.fTag,av]++post.flatMap Ent.cells):=⟨_,rfl⟩
 have hMe:=hM.e;rw[← hcs] at hMe;have hle:(pre.length*2+1<cs.length)=True:=eq_true (by rw[hcs]; simp only[qt,hcl,qk,qp]; omega);have hle':(pre.length*2+1+1≤cs.length)=True:=eq_true (by have:=of_eq_true hle; omega)
 have hgc:gc cs (pre.length*2+1)=av:=by rw[hcs,← hcl,gc_mid]
 have heid:(eid<τ.length)=True:=eq_true (zf.at_lt hMe)
 refine rd [6,9] fun K J=>?_
 refine DW.start (T:=tab) [.any,.any,.any,.any,.own 1 [],.at [],.eff,.eff,.any,.any,.eff] [(1,[])] ?_;refine DW.runN U 6 ?_;simp only[go_sem,qd,qg,qc,qe,hMe,hle,hgc,heid,h5]
 obtain⟨xc,hxc⟩:∃ xc,xc=[AV.int .i64 x.fKind,.int .i64 x.fN,.str x.fS,.ds true (qb zx x.fEntries) x.fEntries.length false,.ds true (qb zA x.fRest) x.fRest.length false]:=⟨_,rfl⟩
 have hx5:xc.length=5:=by rw[hxc]; rfl
 have hx1:xc.all AV.one=true:=by rw[hxc]; rfl
 have hxe:xc=ya x:=by rw[hxc,yC]<;>rfl
 generalize htr:(if f.fLabel=3 then e.fTrees else [])=trees at *
 have key:∃ nid nver τ3,yG tab 38 38 av (.os true 5 τ.length 0 0 1 true) (τ++[.cells 0 xc])=some (.os true 5 nid nver 0 (trees.length+1) false,τ3)∧zf.at τ3 nid nver=some (trees.flatMap ya++xc)∧
  (∀ j v cs,zf.at τ j v=some cs→j≠nid→zf.at τ3 j v=some cs)∧nid∉tid::eid::(pre++post).map Ent.id∧(nid∈L.map Ent.id∨σ.length≤nid)∧τ.length≤τ3.length∧∀ j,j<σ.length→j∉tid::eid::L.map Ent.id→τ3[j]?=τ[j]?:=by
  have e1:y0 (τ++[.cells 0 xc]) 5 (.os true 5 τ.length 0 0 1 true)=some (1,xc):=by
   simp only[y0,vcV τ xc []];rw[if_pos (by omega),qw,Nat.one_mul,← hx5,uh]
  rcases hM.c with ⟨rfl,h0⟩|⟨id,ver,rfl,h1,h2,h3⟩
  · refine⟨τ.length+1,0,τ++[.cells 0 xc]++[.cells 0 xc],?_,?_,fun j v cs hj _=>YB (YB hj _) _,fun hj=>?_,.inr (by have:=hM.len; omega),by simp,fun j hj _=>?_⟩
    · subst h0;simp only[yG,tab_38,tab_37,e1,yJ,hx1,yf,if_true,qt,qk,qp]
      simp
    · subst h0;simp only[qP,qK,qC];exact at_end1 _ _ _ _
    · have:τ.length+1<σ.length:=hM.lt _ (by
       rcases uc.1 hj with h|h
       · rw[h]; simp
       rcases uc.1 h with h|h
       · rw[h]; simp
       obtain⟨y,hy,h'⟩:=uB.1 h
       rw[← h']; exact qB _ (qB _ (hM.sub y hy)))
      have:=hM.len; omega
    have:=hM.len;rw[qP,qR (by omega)]
  refine⟨id,ver+1,List.set (τ++[Y3.cells 0 xc]) id (Y3.cells (ver+1) (trees.flatMap ya++xc)),?_,zf.at_set (YB h1 _),fun j v cs hj hne=>Zq (YB hj _) hne _,h2,.inl h3,by simp,fun j hj hjn=>?_⟩
  · have hl:(trees.flatMap ya).length=trees.length*5:=zU E38.len trees
    have hg':((trees.length+1)*80≤140737488355328)=True:=by
     rw[← htr]
     by_cases hl3:f.fLabel=3
     · rw[if_pos hl3]; rw[if_pos hl3] at hg; exact hg
     rw[if_neg hl3]; simp
    simp only[yG,tab_38,tab_37,e1,yJ,hx1,yf,YB h1,hl,hg',and_self,qd,if_true]
  have:=hM.len;rw[ue,qR (by omega)]
  intro e; exact hjn (e▸qB _ (qB _ h3))
 obtain⟨nid,nver,τ3,k1,k2,k3,k4,k5,k6,k7⟩:=key
 have hne:eid≠nid:=fun e=>k4 (e▸by simp)
 have hMe3:=k3 _ _ _ hMe hne;refine DW.runN U 1 ?_;simp only[go_sem,qd,qg,qc,qe,qj,zM,yz,qV,qL,true_and,q5,agr_app];rw[← hxc];refine DW.runN U 1 ?_;simp only[go_sem,qd,qg,qc,qe,k1];refine DW.runN U 3 ?_;simp only[go_sem,qd,qg,qc,qe,hMe3,hle'];refine DW.fin U (by decide +kernel) rfl ?_;simp only[zq,upd,qc,reduceIte,yD,xj];apply J
 clear J K
 have hset:cs.set (pre.length*2+1) (.os true 5 nid nver 0 (trees.length+1) false)=pre.flatMap Ent.cells++([.int .i64 e.fTag,.os true 5 nid nver 0 (trees.length+1) false]++post.flatMap Ent.cells):=by
  rw[hcs,← hcl,set_mid1]
 have hat4:=zf.at_set (ver':=ever1) (cs':=cs.set (pre.length*2+1) (.os true 5 nid nver 0 (trees.length+1) false)) hMe3
 generalize cs.set (pre.length*2+1) (.os true 5 nid nver 0 (trees.length+1) false)=cs4 at *
 have hgc4:gc cs4 (pre.length*2+1)=.os true 5 nid nver 0 (trees.length+1) false:=by rw[hset,← hcl,gc_mid]
 have hle4:(pre.length*2+1<cs4.length)=True:=eq_true (by rw[hset]; simp only[qt,hcl,qk,qp]; omega)
 refine rg U [6] fun K J=>?_
 simp only[go_sem,qd,qc,hat4,hgc4,hle4];apply J
 clear J K
 refine yE ?_;simp only[Yk,xg,xw,wu,exists_eq_left',go_sem];have h':=Option.some.inj h;obtain⟨h1,h2⟩:=Prod.mk.inj h';have hnd:=hM.nd;have hlt:=hM.lt;rw[List.nodup_cons,List.nodup_cons] at hnd
 have hte:tid≠eid:=fun e=>hnd.1 (e▸qG ..)
 have htn:tid≠nid:=fun e=>k4 (e▸by simp)
 have hll:(trees++[x]).length=trees.length+1:=by simp
 refine⟨ever1,pre++⟨e.fTag,nid,nver,trees++[x]⟩::post,?_,⟨?_,?_,?_,?_⟩,?_,?_,?_,?_⟩
 · rw[← h2,hll]
 · refine Zq ?_ hte _;have:=k3 _ _ _ hM.t htn;rw[this];simp only[Option.some.injEq,List.cons.injEq,AV.os.injEq,true_and,and_true,qt,qk]
   omega
 · rw[hat4,hset]
   simp[Ent.cells]
 · intro y hy
   rcases u4.1 hy with hy|hy
   · refine Zq (k3 _ _ _ (hM.tr y (uL _ hy)) ?_) ?_ _
     · intro e'; exact k4 (e'▸qB _ (qB _ (uB.2 ⟨y,uL _ hy,rfl⟩)))
     intro e'; exact hnd.2.1 (e'▸uB.2 ⟨y,uL _ hy,rfl⟩)
   rcases uc.1 hy with rfl|hy
   · refine Zq ?_ hne.symm _
     show zf.at τ3 nid nver=some ((trees++[x]).flatMap ya)
     rw[k2,um,hxe]; simp
   refine Zq (k3 _ _ _ (hM.tr y (uR _ hy)) ?_) ?_ _
   · intro e'; exact k4 (e'▸qB _ (qB _ (uB.2 ⟨y,uR _ hy,rfl⟩)))
   intro e'; exact hnd.2.1 (e'▸uB.2 ⟨y,uR _ hy,rfl⟩)
 · have hp:(nid::tid::eid::(pre++post).map Ent.id).Nodup:=List.nodup_cons.2 ⟨k4,hM.nd⟩;refine (List.Perm.nodup_iff ?_).1 hp;refine (List.Perm.swap _ _ _).trans (List.Perm.cons _ ((List.Perm.swap _ _ _).trans (List.Perm.cons _ ?_)));rw[qE,qE,qy];exact (List.perm_middle).symm
 · rw[← h1,← hidL pre,set_mid]
   simp[Ent.val]
 · intro y hy
   rcases u4.1 hy with hy|hy
   · exact .inl (hM.sub y (uL _ hy))
   rcases uc.1 hy with rfl|hy
   · exact k5
   exact .inl (hM.sub y (uR _ hy))
 · have:=hM.len; simp; omega
 intro j hj hjn
 rw[ue (fun e=>hjn (by rw[← e]; simp)),k7 j hj hjn];exact hM.fr j hj hjn
end
section
set_option maxRecDepth 8000
set_option maxHeartbeats 1000000
open Go.RowKit AM
def Xa (m:zz):List zp→Option (List zp)
 |[]=>some []
 |e::l=>(ZE e m).bind fun b=>(Xa m l).bind fun l'=>some (if b=true then l' else e::l')
theorem idx_del (m:zz):∀ (es:List zp) (x:Int) (es':List zp),Xa m es=some es'→
 ∃ r,zX.l4 m es x=some r∧((r = -1∧es'=es)∨∃ pre e post post',es=pre++e::post∧r=x+pre.length∧Xa m post=some post'∧es'=pre++post'):=by
 intro es
 induction es with
 |nil=>intro x es' h; cases h; exact⟨-1,rfl,.inl ⟨rfl,rfl⟩⟩
 |cons e l ih=>
  intro x es' h
  simp only[Xa] at h;obtain⟨b,hb,h⟩:=bind_some h;obtain⟨l',hl,h⟩:=bind_some h;obtain rfl:=Option.some.inj h;simp only[zX.l4,hb,qh]
  cases b with
  |true=>exact⟨x,rfl,.inr ⟨[],e,l,l',rfl,by simp,hl,rfl⟩⟩
  |false=>
   obtain⟨r,h1,h2⟩:=ih (x+1) l' hl;refine⟨r,h1,?_⟩
   rcases h2 with ⟨rfl,rfl⟩|⟨pre,e2,post,post',rfl,rfl,h3,rfl⟩
   · exact .inl ⟨rfl,rfl⟩
   exact .inr ⟨e::pre,e2,post,post',rfl,by simp; omega,h3,rfl⟩
theorem tell_fn {σ:zf}{keep:List Nat}{ls:Bool}{f:Nat}{g:Fn}{a b:List AV}:tell σ keep ls (f+1) (.fn g a b)=.fn g (a.map (tell σ keep ls f)) (b.map (tell σ keep ls f)):=rfl
theorem tell_msg {σ:zf}{keep:List Nat}{f:Nat}{g:Fn}{m:zz}:tell σ keep true (f+1+1+1) (.fn g [] [.dp (ze m) 0])=.fn g [] [.dp (ze m) 0]:=by
 simp only[tell_fn,qq,qy,tell_dp,ze,vbP,XF,zL,qv,qu,qz]
theorem vdG (n:Nat):(yz [AV.int .i64 0,.ds true [] 0 true] n).all AV.one=true:=by
 rw[uk]
 intro x hx
 obtain⟨k,_,rfl⟩:=uB.1 hx
 have:k % 2=0∨k % 2=1:=by omega
 rcases this with h|h<;>simp[h,AV.one,gc]
theorem DeleteFunc_at {σ:zf}{id ver:Nat}{nl:Bool}{es es':List zp}(m:zz)(hcs:zf.at σ id ver=some (es.flatMap zx))(h:Xa m es=some es')(hB:es.length≤1000000000000000):
 ACalls qf 196 [.os nl 2 id ver 0 es.length false,.fn (.func 197) [] [.dp (ze m) 0]] σ (fun r σ'=>∃ cs g,r=.os nl 2 id ver 0 es'.length false∧σ'=List.set σ id (.cells ver (es'.flatMap zx++cs))++g):=by
 obtain⟨r,hr,hcase⟩:=idx_del m es 0 es' h;refine Y1 (rs:=[.tmp 4]) U Tryz.func196 rfl Tryz.ntmps196 rfl Tryz.call196 (by simp) ?_;refine zu [(0,.os nl 2 id ver 0 es.length false),(1,.fn (.func 197) [] [.dp (ze m) 0])] ⟨rfl,rfl,trivial⟩ ?_
 refine rg U [0,1] fun K J=>?_
 simp only[go_sem,qd,qc,reduceCtorEq];apply J
 clear J K
 have htold:tell σ [] true 12 (.os nl 2 id ver 0 es.length false)=.ds true (es.flatMap zx) es.length false:=by
  have hl:(es.flatMap zx).length=es.length*2:=zU E34.len es;simp only[ZS,Zp,hcs];rw[if_pos (by rw[hl]; omega),qw,← hl,uh,zL]
 refine rc [0,1,5] fun K J=>?_
 refine xO U 2 ?_;simp only[go_sem,qd,qc,reduceCtorEq];refine Ys rfl rfl rfl ((zX.ok hr).lend rfl true 12 (by simp only[qy,qq,go_sem,qc,reduceCtorEq,htold,tell_msg])) ?_;rintro _ _ ⟨rfl,hσ⟩
 rw[hσ]; clear hσ
 refine xO U 1 ?_;simp only[go_sem,qd,qc,reduceCtorEq];refine zl ?_;simp only[zq,upd,qc,reduceIte,yD,xj];apply J
 clear J K
 refine za fun Z hZ=>?_
 refine rg U [0,1,5,12] fun K J=>?_
 simp only[go_sem,qd,qc,reduceCtorEq];apply J
 clear J K
 refine zR rfl (fun hc=>?_) (fun hc=>?_)
 · have he:es'=es:=by
    rcases hcase with ⟨_,h⟩|⟨pre,e,post,post',_,h2,_⟩
    · exact h
    omega
   subst he
   refine rg U [4] fun K J=>?_
   simp only[go_sem,qd,qc,reduceCtorEq];apply J
   clear J K
   refine yE ?_;simp only[Yk,xg,xw,wu,exists_eq_left',go_sem];exact⟨[],[],by rw[qT,qT,zf.set_at hcs]⟩
 obtain⟨pre,e,post,post',he,h2,h3,h4⟩:∃ pre e post post',es=pre++e::post∧r=0+(pre.length:Int)∧Xa m post=some post'∧es'=pre++post':=by
  rcases hcase with ⟨h,_⟩|h
  · exact absurd h hc
  exact h
 rw[Int.zero_add] at h2;subst h2
 have hl0:es.length=pre.length+(post.length+1):=by rw[he]; simp
 refine zg ?_;refine hZ _ _ ?_
 clear hZ Z
 have hw1:IntKind.i64.wrap ((pre.length:Int)+1)=(pre.length:Int)+1:=by rw[IntKind.wrap_i64]; omega
 refine za fun Z hZ=>?_
 refine rg U [0,1,5,6] fun K J=>?_
 simp only[go_sem,qd,qc,reduceCtorEq,hw1];apply J
 clear J K
 refine zj ?_
 refine zG (fun k F τ=>∃ (cur kept rest rest':List zp) (j:Nat) (g:zf),k=rest.length∧F=[(0,AV.os nl 2 id ver 0 es.length false),(1,.fn (.func 197) [] [.dp (ze m) 0]),(5,.int .i64 (kept.length:Int)),(6,.int .i64 (j:Int))]∧
  τ=List.set σ id (.cells ver (cur.flatMap zx))++g∧cur.length=es.length∧cur.take kept.length=kept∧cur.drop j=rest∧j+rest.length=es.length∧kept.length<j∧Xa m rest=some rest'∧es'=kept++rest') post.length
  ⟨es,pre,post,post',pre.length+1,[],rfl,rfl,by rw[zf.set_at hcs,qT],rfl,by rw[he,List.take_left],by rw[he,← u7,List.drop_left]; rfl,by omega,by omega,h3,h4⟩ (.same ⟨rfl,rfl,rfl,rfl,trivial⟩ rfl) ?_
 rintro k _ _ ⟨cur,kept,rest,rest',j,g,rfl,rfl,rfl,c1,c2,c3,c4,c5,c6,c7⟩;have hat:zf.at (List.set σ id (.cells ver (cur.flatMap zx))++g) id ver=some (cur.flatMap zx):=YB (zf.at_set hcs) _
 obtain⟨τ,hτ⟩:∃ τ,τ=List.set σ id (.cells ver (cur.flatMap zx))++g:=⟨_,rfl⟩
 rw[← hτ] at hat ⊢
 refine za fun Y hY=>?_
 refine rg U [0,1,5,6,19] fun K J=>?_
 simp only[go_sem,qd,qc,reduceCtorEq];apply J
 clear J K
 refine zR rfl (fun hc=>?_) (fun hc=>?_)
 · refine zg ?_;refine hY _ _ ?_
   clear hY Y
   rcases rest with _|⟨e2,rest⟩
   · simp only[qp] at c4; omega
   simp only[Xa] at c6;obtain⟨b,hb,c6⟩:=bind_some c6;obtain⟨l',hl',c6⟩:=bind_some c6;obtain rfl:=Option.some.inj c6;simp only[qk] at c4
   have hx:Yl cur (j:Int)=some e2:=by
    unfold Yl;rw[if_pos (by omega),uw]
    have:(cur.drop j)[0]?=some e2:=by rw[c3]; rfl
    rwa [List.getElem?_drop,qF] at this
   have hcd:cur.drop (j+1)=rest:=by rw[← u7,c3]; rfl
   have hw6:IntKind.i64.wrap ((j:Int)+1)=((j+1:Nat):Int):=by rw[IntKind.wrap_i64]; omega
   have hix:=E34.idxO hx nl false .i64 2 id ver;rw[c1] at hix;have hrd:=E34.rdO hx
   refine za fun X hX=>?_
   have fin:∀ (cur' kept':List zp) (F:Fr) (τ':zf),vdh F [(0,AV.os nl 2 id ver 0 es.length false),(1,.fn (.func 197) [] [.dp (ze m) 0]),(5,.int .i64 (kept'.length:Int)),(6,.int .i64 (j:Int))]→(∃ g',τ'=List.set σ id (.cells ver (cur'.flatMap zx))++g')→cur'.length=es.length→cur'.take kept'.length=kept'→cur'.drop (j+1)=rest→kept'.length<j+1→es'=kept'++l'→
    X F τ':=by
    rintro cur' kept' F _ hF ⟨g',rfl⟩ d1 d2 d3 d4 d5;refine hX _ _ (yX (.same hF rfl) ?_)
    refine rgE U [0,1,5,6] fun K J=>?_
    simp only[go_sem,qd,qc,reduceCtorEq,hw6];apply J
    clear J K
    simp only[zq];exact⟨rest.length,_,_,by simp,⟨cur',kept',rest,l',j+1,g',rfl,rfl,rfl,d1,d2,d3,by omega,by omega,hl',d5⟩,.same ⟨rfl,rfl,rfl,rfl,trivial⟩ rfl⟩
   clear hX
   have hae:∀ cs,zf.at (τ++[.cells 0 cs]) τ.length 0=some cs:=fun cs=>vcV τ cs []
   have hse:∀ cs cs',(τ++[Y3.cells 0 cs]).set τ.length (.cells 0 cs')=τ++[.cells 0 cs']:=fun cs cs'=>set_mid τ _ _ []
   have hw5:IntKind.i64.wrap ((kept.length:Int)+1)=((kept.length+1:Nat):Int):=by rw[IntKind.wrap_i64]; omega
   refine zj ?_
   refine rg U [0,1,5,6,7] fun K J=>?_
   simp only[go_sem,qd,qg,qc,qe,reduceCtorEq,hat,hix,hrd,yh,zK,hae,hse,qk,qp,uP,uQ];apply J
   clear J K
   refine rc [0,5,6,7,1,29] fun K J=>?_
   refine xO U 2 ?_;simp only[go_sem,qd,qg,qc,qe,reduceCtorEq,hae,qk,qp];refine Ys rfl rfl rfl ((ZE.ok hb).c _) ?_;rintro _ _ ⟨rfl,hσ⟩
   rw[hσ]; clear hσ
   refine xO U 1 ?_;simp only[go_sem,qd,qc,reduceCtorEq];refine zl ?_;simp only[zq,upd,qc,reduceIte,yD,xj];apply J
   clear J K
   cases b with
   |true=>
    refine zD rfl ?_;refine zg ?_;simp only[vaf,zq];exact fin cur kept _ _ ⟨rfl,rfl,rfl,rfl,trivial⟩ ⟨g++[.cells 0 [.int .i64 e2.fTag,.ds true (qb ya e2.fTrees) e2.fTrees.length false]],by rw[hτ,qP]⟩ c1 c2 hcd (by omega) c7
   |false=>
    refine zE rfl ?_
    have hkl:kept.length<cur.length:=by omega
    have hx2:Yl cur (kept.length:Int)=some cur[kept.length]:=by
     unfold Yl;rw[if_pos (by omega),uw,qY hkl]
    have hix2:=E34.idxO hx2 nl false .i64 2 id ver;rw[c1] at hix2;have hsc:=E34.stOc hx2;have hsr:=E34.stOr hx2 (y:=e2) (cs:=[.int .i64 e2.fTag,.ds true (qb ya e2.fTrees) e2.fTrees.length false]) (by rw[yh]<;>rfl);simp only[wr] at hsr;have hat1:zf.at (τ++[.cells 0 [.int .i64 e2.fTag,.ds true (qb ya e2.fTrees) e2.fTrees.length false]]) id ver=some (cur.flatMap zx):=YB hat _
    refine rg U [0,1,5,6] fun K J=>?_
    simp only[go_sem,qd,qg,qc,qe,reduceCtorEq,hae,hix2,hsc,hsr,hat1,qk,qp];apply J
    clear J K
    refine rgE U [0,1,5,6] fun K J=>?_
    simp only[go_sem,qd,qc,reduceCtorEq,hw5];apply J
    clear J K
    simp only[vaf,zq]
    have hlen:(kept++[e2]).length=kept.length+1:=by simp
    refine fin (setI cur (kept.length:Int) e2) (kept++[e2]) _ _ ⟨rfl,rfl,by rw[hlen]; rfl,rfl,trivial⟩ ⟨g++[.cells 0 [.int .i64 e2.fTag,.ds true (qb ya e2.fTrees) e2.fTrees.length false]],?_⟩ ?_ ?_ ?_ (by rw[hlen]; omega) (by rw[c7]; simp)
    · rw[hτ,qP,List.set_append_left _ _ (by simpa using zf.at_lt hcs),List.set_set]
    · rw[Xf]; exact c1
    · rw[hlen];unfold setI;rw[uw,List.take_set,List.take_add_one,c2,qY hkl]
      simp
    unfold setI;rw[uw,List.drop_set_of_lt (by omega)];exact hcd
 refine zJ ?_;simp only[go_sem];have hr0:rest=[]:=qH.1 (by omega);subst hr0;cases c6;rw[qT] at c7;subst c7;simp only[qp,qF] at c4
 have hkn:es'.length<es.length:=by omega
 have hsl1:ZZ tab 34 (.os nl 2 id ver 0 es.length false) (some (.int .i64 (es'.length:Int))) none none=some (.os nl 2 id ver (es'.length*2) (es.length-es'.length) false):=by
  simp only[ZZ,vbl,vbk,vdl]
  simp
  omega
 have hsl2:ZZ tab 34 (.os nl 2 id ver 0 es.length false) none (some (.int .i64 (es'.length:Int))) none=some (.os nl 2 id ver 0 es'.length false):=by
  simp only[ZZ,vbl,vbk,vdl]
  simp
  omega
 have hcl:(cur.flatMap zx).length=es.length*2:=by rw[← c1]; exact zU E34.len cur
 have hzl:∀ n,(yz [AV.int .i64 0,.ds true [] 0 true] n).length=n:=fun n=>by simp[yz]
 have hsr:wr (cur.flatMap zx) (es'.length*2) (yz [AV.int .i64 0,.ds true [] 0 true] ((es.length-es'.length)*2))=es'.flatMap zx++yz [AV.int .i64 0,.ds true [] 0 true] ((es.length-es'.length)*2):=by
  have e0:cur.flatMap zx=es'.flatMap zx++((cur.drop es'.length).flatMap zx++[]):=by
   rw[qT,← um]
   congr 1
   conv=>lhs; rw[← uz es'.length cur,c2]
  have l1:(es'.flatMap zx).length=es'.length*2:=zU E34.len _;rw[e0,← l1,XH _ _ _ _ (by rw[hzl,zU E34.len,uT,c1]),qT]
 have hclr:vd4 tab 34 (.os nl 2 id ver (es'.length*2) (es.length-es'.length) false) τ=some (.tup [],τ.set id (.cells ver (es'.flatMap zx++yz [AV.int .i64 0,.ds true [] 0 true] ((es.length-es'.length)*2)))):=by
  have hp:YU τ (.os nl 2 id ver (es'.length*2) (es.length-es'.length) false) (es.length-es'.length) 2 (yz [AV.int .i64 0,.ds true [] 0 true] ((es.length-es'.length)*2))=some (τ.set id (.cells ver (es'.flatMap zx++yz [AV.int .i64 0,.ds true [] 0 true] ((es.length-es'.length)*2)))):=by
   unfold YU;rw[if_neg (by omega)];simp only[hat];rw[if_pos ⟨trivial,by rw[hzl,hcl,← u6]; exact uf _ (by omega),vdG _⟩,hsr]
  simp only[vd4,vbl,vbk,AV.cells,hp]
  simp[AV.okc,AV.one]
 refine hZ _ _ ?_
 refine rg U [0,5] fun K J=>?_
 simp only[go_sem,qd,qc,reduceCtorEq,hsl1,hclr];apply J
 clear J K
 refine rg U [4] fun K J=>?_
 simp only[go_sem,qd,qc,reduceCtorEq,hsl2];apply J
 clear J K
 refine yE ?_;simp only[Yk,xg,xw,wu,exists_eq_left',go_sem];refine⟨yz [AV.int .i64 0,.ds true [] 0 true] ((es.length-es'.length)*2),g,?_⟩;rw[hτ,List.set_append_left _ _ (by simpa using zf.at_lt hcs),List.set_set]
end
section
set_option maxRecDepth 8000
set_option maxHeartbeats 1000000
open Go.RowKit AM
def yB.l (xZ:zm→YE→xF→Int→Option (zi×Int))(a0:zm)(a1:zz)(a3:Int):List xF→List zp→List xF→Option (zi×Int)
 |[],es,rest=>(vao es.length 32).bind fun _=>(Xa a1 es).bind fun es'=>(xu rest).bind fun r=>some ((⟨3,0,[],es',r⟩:zi),0)
 |r::q,es,rest=>bnd (zQ a1 r.fTag) fun f=>(if f.2=true then (xZ a0 f.1.fType r a3).bind fun x=>(if x.2=0 then (vdb es f.1 x.1).bind fun p=>(if p.2=true then yB.l xZ a0 a1 a3 q p.1 rest else some ((⟨0,0,[],[],[]⟩:zi),4)) else some ((⟨0,0,[],[],[]⟩:zi),x.2))
  else (vao (rest.length+1) 40).bind fun _=>yB.l xZ a0 a1 a3 q es (rest++[r]))
def yB.body (yi:zm→zz→List UInt8→Int→Option (zi×Int))(xZ:zm→YE→xF→Int→Option (zi×Int))(a0:zm)(a1:zz)(a2:List UInt8)(a3:Int):Option (zi×Int):=
 if 10<a3 then some ((⟨0,0,[],[],[]⟩:zi),10) else (XU a2).bind fun g=>if g.2=0 then yB.l xZ a0 a1 a3 g.1 [] [] else some ((⟨0,0,[],[],[]⟩:zi),g.2)
structure Loop (τ:zf)(a0:zm)(a1:zz)(ever rver:Nat)(L:List Ent)(rest:List xF):Prop where
 h0:zf.at τ 0 0=some (zd a0)
 h1:zf.at τ 1 0=some (ze a1)
 h2:zf.at τ 2 0=some [.int .i64 0,.int .i64 0,.str [],.ds true [] 0 true,.ds true [] 0 true]
 rep:Rep τ 3 4 ever L
 h5:zf.at τ 5 rver=some (rest.flatMap zA)
 ids:∀ y∈L,6≤y.id
theorem Loop.app {τ:zf}{a0:zm}{a1:zz}{ever rver:Nat}{L:List Ent}{rest:List xF}(h:Loop τ a0 a1 ever rver L rest)(l:zf):Loop (τ++l) a0 a1 ever rver L rest:=
 ⟨YB h.h0 l,YB h.h1 l,YB h.h2 l,h.rep.app l,YB h.h5 l,h.ids⟩
theorem vct {σ:zf}{keep:List Nat}{e:Int}:tell σ keep true 12 (.tup [.agg [.int .i64 0,.int .i64 0,.str [],.ds true [] 0 true,.ds true [] 0 true],.int .i64 e])=.tup [.agg (zb ⟨0,0,[],[],[]⟩),.int .i64 e]:=by
 simp only[tell_tup,qy,qq,tell_agg,vbQ,vbP,XF]
 rfl
theorem yB.step (yi:zm→zz→List UInt8→Int→Option (zi×Int))(xZ:zm→YE→xF→Int→Option (zi×Int))
 (vbf:∀ (a0:zm) (a1:YE) (a2:xF) (a3:Int) (r:zi×Int),xZ a0 a1 a2 a3=some r→ACalls qf 194 [.agg (zd a0),.agg (wd a1),.agg (zA a2),.int .i64 a3] [] (fun r' _=>r'=.tup [.agg (zb r.1),.int .i64 r.2]))
 (a0:zm) (a1:zz) (a2:List UInt8) (a3:Int) (r:zi×Int) (h:yB.body yi xZ a0 a1 a2 a3=some r):
 ACalls qf 149 [.agg (zd a0),.agg (ze a1),.ds true (qb XD a2) (qa a2) false,.int .i64 a3] [] (fun r' _=>r'=.tup [.agg (zb r.1),.int .i64 r.2]):=by
 have ev_one:=fun a0 a1 a2 a3 r h σ=>(vbf a0 a1 a2 a3 r h).pureAt (by simp only[AV.canon,xo,xA,qD,qn,qv,zA,zd,wd]) (by simp only[AV.canon,xo,xA,qD,qn,qv,zb]) σ
 refine zk (rs:=[.cell 8 37,.tmp 9]) U Tryz.func149 rfl Tryz.ntmps149 rfl Tryz.call149 (by simp) ?_;refine zu [(0,.agg (zd a0)),(1,.agg (ze a1)),(2,.ds true (qb XD a2) (qa a2) false),(3,.int .i64 a3)] ⟨rfl,rfl,rfl,rfl,trivial⟩ ?_;unfold yB.body at h
 refine rg U [2,3,4,5,8,9] fun K J=>?_
 simp only[go_sem,qd,qc,qe,reduceCtorEq,zd,ze];apply J
 clear J K
 refine za fun Z hZ=>?_
 refine rg U [2,3,4,5,8,9,21] fun K J=>?_
 simp only[go_sem,qd,qc];apply J
 clear J K
 refine zR rfl (fun hc=>?_) (fun hc=>?_)
 · rw[if_pos hc] at h;obtain rfl:=Option.some.inj h
   refine rg U [8,9] fun K J=>?_
   simp only[go_sem,qd,qg,qc,qe];apply J
   clear J K
   refine yE ?_;simp only[Yk,xg,xw,wu,exists_eq_left',go_sem,qg,qc,qe];exact vct
 rw[if_neg hc] at h;obtain⟨g,hg,h⟩:=bind_some h;refine zg ?_;refine hZ _ _ ?_
 clear hZ Z
 refine rc [3,4,5,8,9,10,11] fun K J=>?_
 refine xO U 1 ?_;simp only[go_sem,qd,qc];refine Ys rfl rfl rfl ((XU.ok hg).c _) ?_;rintro _ _ ⟨rfl,hσ⟩
 rw[hσ]; clear hσ
 refine xO U 5 ?_;simp only[go_sem,qd,qc,qe];refine zl ?_;simp only[zq,upd,qc,reduceIte,yD,xj];apply J
 clear J K
 refine za fun Z hZ=>?_
 refine rg U [3,4,5,8,9,10,11,29] fun K J=>?_
 simp only[go_sem,qd,qc];apply J
 clear J K
 refine zR rfl (fun hc2=>?_) (fun hc2=>?_)
 · rw[if_neg hc2] at h;obtain rfl:=Option.some.inj h
   refine rg U [8,9] fun K J=>?_
   simp only[go_sem,qd,qg,qc,qe];apply J
   clear J K
   refine yE ?_;simp only[Yk,xg,xw,wu,exists_eq_left',go_sem,qg,qc,qe];exact vct
 rw[if_pos hc2] at h;refine zg ?_;refine hZ _ _ ?_
 clear hZ Z
 refine rg U [3,4,5,8,9,10,12] fun K J=>?_
 simp only[go_sem,qd,qg,qc,qe];apply J
 clear J K
 refine wV 3 3 2 rfl (by simp) rfl (L:=[(3,.int .i64 a3),(4,.op 0 0 0),(5,.op 1 0 0),(8,.op 2 0 0),(9,.int .i64 0),(10,.ds true (qb zA g.1) (qa g.1) false),(12,.op 3 0 0)]) (.same ⟨rfl,rfl,rfl,rfl,rfl,rfl,rfl,trivial⟩ rfl) ?_
 refine rg U [3,4,5,8,9,10,12,13] fun K J=>?_
 simp only[go_sem,qd,qc,qe];apply J
 clear J K
 refine YA 13 4 rfl ?_;refine yX (L:=[(3,.int .i64 a3),(4,.op 0 0 0),(5,.op 1 0 0),(8,.op 2 0 0),(9,.int .i64 0),(10,.ds true (qb zA g.1) (qa g.1) false),(12,.op 3 0 0),(13,.os true 4 5 0 0 0 false)]) (.same ⟨rfl,rfl,rfl,rfl,rfl,rfl,rfl,rfl,trivial⟩ rfl) ?_
 refine za fun Z hZ=>?_
 refine xq 10 fun hb=>?_
 replace hb:qa g.1≤9223372036854775807:=hb.1
 refine rg U [3,4,5,8,9,12,13,33,34,35] fun K J=>?_
 simp only[go_sem,qd,qc];apply J
 clear J K
 refine zj ?_
 refine zG (fun k F τ=>∃ (p q:List xF) (i:Int) (L:List Ent) (rest:List xF) (ever rver:Nat),k=q.length∧F=[(3,AV.int .i64 a3),(4,.op 0 0 0),(5,.op 1 0 0),(8,.op 2 0 0),(9,.int .i64 0),(12,.op 3 0 0),(13,.os true 4 5 rver 0 rest.length false),(33,.ds true (qb zA g.1) (qa g.1) false),(34,.int .i64 (qa g.1:Int)),(35,.int .i64 i)]∧Loop τ a0 a1 ever rver L rest∧g.1=p++q∧i=(p.length:Int)∧yB.l xZ a0 a1 a3 q (L.map Ent.val) rest=some r) g.1.length
  ⟨[],g.1,0,[],[],0,0,rfl,rfl,⟨rfl,rfl,rfl,⟨rfl,rfl,fun _ h=>(by cases h),by simp⟩,rfl,fun _ h=>(by cases h)⟩,rfl,rfl,h⟩ (.same ⟨rfl,rfl,rfl,rfl,rfl,rfl,rfl,rfl,rfl,rfl,trivial⟩ rfl) ?_
 clear h
 rintro k _ τ ⟨p,q,i,L,rest,ever,rver,rfl,rfl,hL,hE,hi,h⟩
 refine rg U [3,4,5,8,9,12,13,33,34,35,36] fun K J=>?_
 simp only[go_sem,qd,qc];apply J
 clear J K
 refine za fun Y hY=>?_
 rcases q with _|⟨y,q⟩
 · have hz:=yH hE hi;refine zR rfl (fun hc=>absurd hc (by rw[hz]; exact id)) (fun _=>?_);refine zJ ?_;simp only[zq,go_sem];simp only[yB.l] at h;obtain⟨u,hu,h⟩:=bind_some h;have hrm:=of_eq_true (yR hu);obtain⟨es',hes,h⟩:=bind_some h;obtain⟨rr,hrr,h⟩:=bind_some h;obtain rfl:=Option.some.inj h
   have hid:∀ y∈L,Xv [2,3,4] y.id 0=none:=by
    intro y hy
    have:=hL.ids y hy;simp only[YG,Zp];rw[if_neg (by omega),if_neg (by omega),if_neg (by omega)]
   have hget:∀ {j v:Nat} {cs:List AV},zf.at τ j v=some cs→τ.getD j .dead=.cells v cs:=by
    intro j v cs hj
    rw[qx,zf.at_some hj]; rfl
   have hl4:(rest.flatMap zA).length=rest.length*4:=zU E35.len rest;have hcells:=hL.rep.toldC [2,3,4] false 10 hid
   have htS:vca τ [2,3,4] false 12=[.cells 0 [.int .i64 0,.int .i64 0,.str [],.ds true [] 0 true,.ds true [] 0 true],.cells 0 [.int .i64 3,.int .i64 0,.str [],.os true 2 2 ever 0 (L.map Ent.val).length false,.ds true [] 0 true],.cells ever ((L.map Ent.val).flatMap zx)]:=by
    simp only[vca,qy,qq,hget hL.h2,hget hL.rep.t,hget hL.rep.e,vbv,vbQ,vbP,XF,ZS,YG,Zp,qc,if_true,if_false,hcells,ud,qM,qn,qI,qe]
   have hrest:tell τ [2,3,4] false 12 (.os true 4 5 rver 0 rest.length false)=.ds true (rest.flatMap zA) rest.length false:=by
    simp only[ZS,YG,Zp,qc,if_false,hL.h5];rw[if_pos (by rw[hl4]; omega),qw,← hl4,uh,zL]
   have hmsg:tell τ [2,3,4] false 12 (.op 1 0 0)=.dp (ze a1) 0:=by
    simp only[tell_op,YG,Zp,qc,if_false,hL.h1,ze,qy,qq,vbP,XF,zL,qM,qn,qI]
   have hk3:[2,3,4].Nodup:=by decide
   have hlt5:=zf.at_lt hL.h5;refine hZ _ _ ?_;refine yX (L:=[(5,.dp (ze a1) 0),(8,.op 0 0 0),(12,.op 1 0 0),(13,.ds true (rest.flatMap zA) rest.length false)]) (.told [2,3,4] false hk3 (by intro id hid'; simp at hid'; omega) rfl htS ⟨hmsg,rfl,rfl,hrest,trivial⟩) ?_
   refine rc [8,12,13] fun K J=>?_
   refine xO U 3 ?_;simp only[go_sem,qd,qc,qe,ud];have hdel:=DeleteFunc_at (σ:=[.cells 0 [.int .i64 0,.int .i64 0,.str [],.ds true [] 0 true,.ds true [] 0 true],.cells 0 [.int .i64 3,.int .i64 0,.str [],.os true 2 2 ever 0 L.length false,.ds true [] 0 true],.cells ever ((L.map Ent.val).flatMap zx)]) (id:=2) (ver:=ever) (nl:=true) a1 (by simp only[zf.at_hd,zf.at_tl,if_true]) hes (by omega);rw[ud] at hdel;refine Ys rfl rfl rfl hdel ?_;rintro _ _ ⟨cs,g',rfl,rfl⟩;refine xO U 2 ?_;simp only[go_sem,qd,qg,qc,qe,qK,qC,uQ,uP];refine zl ?_;simp only[zq,upd,qc,reduceIte,yD,xj];apply J
   clear J K
   refine rc [8,12] fun K J=>?_
   refine xO U 1 ?_;simp only[go_sem,qd,qc];refine Ys rfl rfl rfl ((xu.ok hrr).c _) ?_;rintro _ _ ⟨rfl,hσ⟩
   rw[hσ]; clear hσ
   refine xO U 2 ?_;simp only[go_sem,qd,qg,qc,qe,uQ,uP];refine zl ?_;simp only[zq,upd,qc,reduceIte,yD,xj];apply J
   clear J K
   refine rg U [8,9] fun K J=>?_
   simp only[go_sem,qd,qg,qc,qe,uQ,uP];apply J
   clear J K
   refine yE ?_;simp only[Yk,xg,xw,wu,exists_eq_left',go_sem,qg,qc,qe];have hle:(es'.flatMap zx).length=es'.length*2:=zU E34.len es';simp only[tell_tup,qy,qq,tell_agg,vbQ,vbP,XF,ZS,Zp,zf.at_hd,zf.at_tl,if_true,zL,zb,zi.fKind,zi.fN,zi.fS,zi.fEntries,zi.fRest];rw[if_pos (by rw[qt,hle]; omega),qw,← hle,List.take_left,zL]
   rfl
 obtain⟨hz,hw,hx,hE',hi'⟩:=yo hE hi hb;refine zR rfl (fun _=>?_) (fun hc=>absurd (of_eq_true hz) hc);refine zg ?_;refine hY _ _ ?_
 clear hY Y
 refine za fun X hX=>?_
 have fin:∀ (F:Fr) (τ':zf) (L':List Ent) (rest':List xF) (ever' rver':Nat),vdh F [(3,AV.int .i64 a3),(4,.op 0 0 0),(5,.op 1 0 0),(8,.op 2 0 0),(9,.int .i64 0),(12,.op 3 0 0),(13,.os true 4 5 rver' 0 rest'.length false),(33,.ds true (qb zA g.1) (qa g.1) false),(34,.int .i64 (qa g.1:Int)),(35,.int .i64 i)]→Loop τ' a0 a1 ever' rver' L' rest'→yB.l xZ a0 a1 a3 q (L'.map Ent.val) rest'=some r→X F τ':=by
  intro F τ' L' rest' ever' rver' hF hL' h'
  refine hX _ _ (yX (.same hF rfl) ?_)
  refine rgE U [3,4,5,8,9,12,13,33,34,35] fun K J=>?_
  simp only[go_sem,qd,qc,hw];apply J
  clear J K
  simp only[zq];exact⟨q.length,_,_,by simp,⟨p++[y],q,i+1,L',rest',ever',rver',rfl,rfl,hL',hE',hi',h'⟩,.same ⟨rfl,rfl,rfl,rfl,rfl,rfl,rfl,rfl,rfl,rfl,trivial⟩ rfl⟩
 clear hX
 refine zj ?_;have hix:=E35.idxS hx;have hld:=E35.loadS rfl rfl hx
 have hae:∀ (τ:zf) cs,zf.at (τ++[.cells 0 cs]) τ.length 0=some cs:=fun τ cs=>vcV τ cs []
 have hse:∀ (τ:zf) cs cs',(τ++[Y3.cells 0 cs]).set τ.length (.cells 0 cs')=τ++[.cells 0 cs']:=fun τ cs cs'=>set_mid τ _ _ []
 refine rg U [3,4,5,8,9,12,13,15,33,34,35] fun K J=>?_
 simp only[go_sem,qd,qg,qc,qe,hix,hld,zA,hae,hse,qk,qp,uP,uQ];apply J
 clear J K
 simp only[yB.l] at h;obtain⟨f,hf,h⟩:=yb h;have hL1:=hL.app [.cells 0 [.int .i64 y.fTag,.int .i64 y.fWire,.int .i64 y.fN,.str y.fB]];have hr1:=vcV τ [.int .i64 y.fTag,.int .i64 y.fWire,.int .i64 y.fN,.str y.fB] []
 generalize τ.length=k1 at *
 generalize τ++[.cells 0 [.int .i64 y.fTag,.int .i64 y.fWire,.int .i64 y.fN,.str y.fB]]=τ1 at *
 have hm1:=hL1.h1;have hs1:=hL1.h0;simp only[ze] at hm1;simp only[zd] at hs1
 refine rc [3,4,5,8,9,12,13,15,16,17,33,34,35] fun K J=>?_
 refine xO U 3 ?_;simp only[go_sem,qd,qg,qc,qe,hm1,hr1,qk,qp];refine Ys rfl rfl rfl ((zQ.ok hf).c _) ?_;rintro _ _ ⟨rfl,hσ⟩
 rw[hσ]; clear hσ
 refine xO U 6 ?_;simp only[go_sem,qd,qg,qc,qe,z7,hae,hse,qk,qp,uP,uQ];refine zl ?_;simp only[zq,upd,qc,reduceIte,yD,xj];apply J
 clear J K
 have hL2:=hL1.app [.cells 0 [.str f.1.fName,.int .i64 f.1.fTag,.int .i64 f.1.fLabel,.int .i64 f.1.fType.fKind,.str f.1.fType.fName]];have hr2:=YB hr1 [.cells 0 [.str f.1.fName,.int .i64 f.1.fTag,.int .i64 f.1.fLabel,.int .i64 f.1.fType.fKind,.str f.1.fType.fName]];have hm2:=YB hs1 [.cells 0 [.str f.1.fName,.int .i64 f.1.fTag,.int .i64 f.1.fLabel,.int .i64 f.1.fType.fKind,.str f.1.fType.fName]];have hf2:=vcV τ1 [.str f.1.fName,.int .i64 f.1.fTag,.int .i64 f.1.fLabel,.int .i64 f.1.fType.fKind,.str f.1.fType.fName] []
 clear hm1 hs1 hr1
 generalize τ1.length=k2 at *
 generalize τ1++[.cells 0 [.str f.1.fName,.int .i64 f.1.fTag,.int .i64 f.1.fLabel,.int .i64 f.1.fType.fKind,.str f.1.fType.fName]]=τ2 at *
 refine za fun Y hY=>?_
 refine rg U [3,4,5,8,9,12,13,15,16,17,33,34,35,47] fun K J=>?_
 simp only[go_sem,qd,qc];apply J
 clear J K
 have hb2:∀ (b:Bool),(!b)=true→b=false:=by decide
 refine zB (b := !f.2) rfl (fun hc3=>?_) (fun hc3=>?_)
 · have hc4:f.2=false:=by simpa using hc3
   rw[wn hc4] at h;obtain⟨u,hu,h⟩:=bind_some h;have hrm:=yR hu;have hL5:=hL2.h5;have hl4:(rest.flatMap zA).length=rest.length*4:=zU E35.len rest
   refine rg U [3,4,5,8,9,12,13,33,34,35] fun K J=>?_
   have hlit:=vcV τ2 [.int .i64 y.fTag,.int .i64 y.fWire,.int .i64 y.fN,.str y.fB] [];have hat5:=YB hL5 [.cells 0 [.int .i64 y.fTag,.int .i64 y.fWire,.int .i64 y.fN,.str y.fB]]
   have hap:yG tab 35 35 (.os true 4 5 rver 0 rest.length false) (.os true 4 τ2.length 0 0 1 true) (τ2++[.cells 0 [.int .i64 y.fTag,.int .i64 y.fWire,.int .i64 y.fN,.str y.fB]])=
    some (.os true 4 5 (rver+1) 0 (rest.length+1) false,List.set (τ2++[.cells 0 [.int .i64 y.fTag,.int .i64 y.fWire,.int .i64 y.fN,.str y.fB]]) 5 (.cells (rver+1) (rest.flatMap zA++[.int .i64 y.fTag,.int .i64 y.fWire,.int .i64 y.fN,.str y.fB]))):=by
    have e1:y0 (τ2++[.cells 0 [.int .i64 y.fTag,.int .i64 y.fWire,.int .i64 y.fN,.str y.fB]]) 4 (.os true 4 τ2.length 0 0 1 true)=some (1,[.int .i64 y.fTag,.int .i64 y.fWire,.int .i64 y.fN,.str y.fB]):=by
     simp only[y0,hlit]; simp
    simp only[yG,tab_35,tab_139,e1,yJ,yf,hat5,hl4,hrm]
    simp[AV.one]
   simp only[go_sem,qd,qg,qc,qe,qj,hr2,zM,yz,qV,qL,true_and,q5,qk,qp,hap];apply J
   clear J K
   refine zJ ?_;simp only[go_sem,reduceCtorEq]
   have hLs:Loop (List.set (τ2++[.cells 0 [.int .i64 y.fTag,.int .i64 y.fWire,.int .i64 y.fN,.str y.fB]]) 5 (.cells (rver+1) (rest.flatMap zA++[.int .i64 y.fTag,.int .i64 y.fWire,.int .i64 y.fN,.str y.fB]))) a0 a1 ever (rver+1) L (rest++[y]):=by
    have hL3:=hL2.app [.cells 0 [.int .i64 y.fTag,.int .i64 y.fWire,.int .i64 y.fN,.str y.fB]];refine⟨Zq hL3.h0 (by decide) _,Zq hL3.h1 (by decide) _,Zq hL3.h2 (by decide) _,hL3.rep.set_ne (fun hm=>?_) _,?_,hL3.ids⟩
    · simp only[uc,uB] at hm
      rcases hm with h|h|⟨z,hz,h⟩
      · cases h
      · cases h
      have:=hL3.ids z hz; omega
    rw[zf.at_set hL3.h5,um]
    simp[zA]
   exact fin _ _ L (rest++[y]) ever (rver+1) ⟨rfl,rfl,rfl,rfl,rfl,rfl,by rw[qt]; rfl,rfl,rfl,rfl,trivial⟩ hLs h
 have hc4:f.2=true:=by simpa using hc3
 rw[if_pos hc4] at h;refine zg ?_;refine hY _ _ ?_
 clear hY Y
 obtain⟨x,hx1,h⟩:=bind_some h;have hty:AV.agg (wd f.1.fType)=.agg [.int .i64 f.1.fType.fKind,.str f.1.fType.fName]:=rfl
 refine rc [3,4,5,8,9,12,13,16,18,19,33,34,35] fun K J=>?_
 refine xO U 5 ?_;simp only[go_sem,qd,qg,qc,qe,hm2,hr2,hf2,qk,qp,uD,qw,uC,uO];refine Ys rfl rfl rfl (ev_one a0 f.1.fType y a3 x hx1 _) ?_;rintro _ _ ⟨rfl,hσ⟩
 rw[hσ]; clear hσ
 refine xO U 6 ?_;simp only[go_sem,qd,qg,qc,qe,zb,hae,hse,qk,qp,uP,uQ];refine zl ?_;simp only[zq,upd,qc,reduceIte,yD,xj];apply J
 clear J K hr2 hm2
 obtain⟨xc,hxc⟩:∃ xc,xc=[AV.int .i64 x.1.fKind,.int .i64 x.1.fN,.str x.1.fS,.ds true (qb zx x.1.fEntries) x.1.fEntries.length false,.ds true (qb zA x.1.fRest) x.1.fRest.length false]:=⟨_,rfl⟩
 rw[← hxc];have hL3:=hL2.app [.cells 0 xc];have hf3:=YB hf2 [.cells 0 xc];have hx3:=vcV τ2 xc []
 clear hf2 hL2
 generalize τ2.length=k3 at *
 generalize τ2++[.cells 0 xc]=τ3 at *
 subst hxc
 refine za fun Y hY=>?_
 refine rg U [3,4,5,8,9,12,13,16,18,19,33,34,35,62] fun K J=>?_
 simp only[go_sem,qd,qc];apply J
 clear J K
 have h23:=hL3.h2;have h24:=zf.at_set (ver':=0) (cs':=[.int .i64 0,.int .i64 0,.str [],.ds true [] 0 true,.ds true [] 0 true]) h23;refine zR rfl (fun hc5=>?_) (fun hc5=>?_)
 · rw[if_neg hc5] at h;obtain rfl:=Option.some.inj h
   refine rg U [8,9] fun K J=>?_
   simp only[go_sem,qd,qg,qc,qe,h23,qk,qp,uP,uQ];apply J
   clear J K
   refine yE ?_;simp only[vee,Yk,xg,xw,wu,exists_eq_left',go_sem,qg,qc,qe,h24,qk,qp];exact vct
 rw[if_pos hc5] at h;obtain⟨pp,hp,h⟩:=bind_some h;refine zg ?_;refine hY _ _ ?_
 clear hY Y
 refine rc [3,4,5,8,9,12,13,33,34,35,68] fun K J=>?_
 refine xO U 2 ?_;simp only[go_sem,qd,qg,qc,qe,hf3,hx3,qk,qp];refine Ys rfl rfl rfl (put_at hL3.rep f.1 x.1 (es':=pp.1) (b:=pp.2) hp) ?_;rintro _ τ4 ⟨ever',L',rfl,hR4,he4,hid4,hle4,hfr4⟩;refine xO U 1 ?_;simp only[go_sem,qd,qc];refine zl ?_;simp only[zq,upd,qc,reduceIte,yD,xj];apply J
 clear J K
 have hkeep:∀ {j v:Nat} {cs:List AV},zf.at τ3 j v=some cs→j<6→j≠3→j≠4→zf.at τ4 j v=some cs:=by
  intro j v cs hj h6 h3 h4
  have hlt:=zf.at_lt hj;unfold zf.at at hj ⊢;rw[hfr4 j hlt (fun hm=>?_)]
  · exact hj
  simp only[uc,uB] at hm
  rcases hm with h|h|⟨z,hz,h⟩
  · exact h3 h
  · exact h4 h
  have:=hL3.ids z hz; omega
 have h45:6≤τ3.length:=by
  have:=zf.at_lt hL3.h5; omega
 have hL4:Loop τ4 a0 a1 ever' rver L' rest:=by
  refine⟨hkeep hL3.h0 (by decide) (by decide) (by decide),hkeep hL3.h1 (by decide) (by decide) (by decide),hkeep hL3.h2 (by decide) (by decide) (by decide),hR4,hkeep hL3.h5 (by decide) (by decide) (by decide),fun z hz=>?_⟩
  rcases hid4 z hz with h|h
  · obtain⟨w,hw,h'⟩:=uB.1 h
    have:=hL3.ids w hw; omega
  omega
 have h43:=hL4.h2;have h44:=zf.at_set (ver':=0) (cs':=[.int .i64 0,.int .i64 0,.str [],.ds true [] 0 true,.ds true [] 0 true]) h43;refine zB (b := !pp.2) rfl (fun hc6=>?_) (fun hc6=>?_)
 · have hc7:pp.2=false:=by simpa using hc6
   rw[wn hc7] at h;obtain rfl:=Option.some.inj h
   refine rg U [8,9] fun K J=>?_
   simp only[go_sem,qd,qg,qc,qe,h43,qk,qp,uP,uQ];apply J
   clear J K
   refine yE ?_;simp only[vee,Yk,xg,xw,wu,exists_eq_left',go_sem,qg,qc,qe,h44,qk,qp];exact vct
 have hc7:pp.2=true:=by simpa using hc6
 rw[if_pos hc7] at h;refine zg ?_;simp only[vaf,zq];exact fin _ _ L' rest ever' rver ⟨rfl,rfl,rfl,rfl,rfl,rfl,rfl,rfl,rfl,rfl,trivial⟩ hL4 (by rw[he4]; exact h)
end
section
set_option maxRecDepth 8000
open Go.RowKit AM
mutual
def yB : Nat→zm→zz→List UInt8→Int→Option (zi×Int)
 |0,_,_,_,_=>none
 |k+1,a0,a1,a2,a3=>yB.body (yB k) (yM k) a0 a1 a2 a3
def yM : Nat→zm→YE→xF→Int→Option (zi×Int)
 |0,_,_,_,_=>none
 |k+1,a0,a1,a2,a3=>yM.body (yB k) (yM k) a0 a1 a2 a3
end
theorem yB.all (k:Nat):
 (∀ (a0:zm) (a1:zz) (a2:List UInt8) (a3:Int) (r:zi×Int),yB k a0 a1 a2 a3=some r→ACalls qf 149 [.agg (zd a0),.agg (ze a1),.ds true (qb XD a2) (qa a2) false,.int .i64 a3] [] (fun r' _=>r'=.tup [.agg (zb r.1),.int .i64 r.2]))∧
 (∀ (a0:zm) (a1:YE) (a2:xF) (a3:Int) (r:zi×Int),yM k a0 a1 a2 a3=some r→ACalls qf 194 [.agg (zd a0),.agg (wd a1),.agg (zA a2),.int .i64 a3] [] (fun r' _=>r'=.tup [.agg (zb r.1),.int .i64 r.2])):=by
 induction k with
 |zero=>exact⟨fun a0 a1 a2 a3 r h=>(by simp only[yB] at h; cases h),fun a0 a1 a2 a3 r h=>(by simp only[yM] at h; cases h)⟩
 |succ k ih=>
  exact⟨fun a0 a1 a2 a3 r h=>yB.step (yB k) (yM k) ih.2 a0 a1 a2 a3 r (by simpa only [yB] using h),
   fun a0 a1 a2 a3 r h=>yM.step (yB k) (yM k) ih.1 ih.2 a0 a1 a2 a3 r (by simpa only [yM] using h)⟩
theorem yB.ok (k:Nat)(a0:zm)(a1:zz)(a2:List UInt8)(a3:Int)(r:zi×Int)(h:yB k a0 a1 a2 a3=some r):ACalls qf 149 [.agg (zd a0),.agg (ze a1),.ds true (qb XD a2) (qa a2) false,.int .i64 a3] [] (fun r' _=>r'=.tup [.agg (zb r.1),.int .i64 r.2]):=
 (yB.all k).1 a0 a1 a2 a3 r h
theorem yB.ev (k:Nat)(a0:zm)(a1:zz)(a2:List UInt8)(a3:Int)(r:zi×Int)(h:yB k a0 a1 a2 a3=some r)(σ:zf):ACalls qf 149 [.agg (zd a0),.agg (ze a1),.ds true (qb XD a2) (qa a2) false,.int .i64 a3] σ (fun r' σ'=>r'=.tup [.agg (zb r.1),.int .i64 r.2]∧σ'=σ):=
 (yB.ok k a0 a1 a2 a3 r h).pureAt (by simp only[AV.canon,xo,xA,qD,qI,qX,qn,qu,qv,ur,ug,zb,ze,zd]) (by simp only[AV.canon,xo,xA,qD,qI,qX,qn,qu,qv,ur,ug,zb,yC]) σ
end
section
namespace AM
open Go.RowKit
variable {Φ:Ctx}
end AM
end
section
set_option maxRecDepth 8000
open Go.RowKit AM
section
variable {Φ:Ctx} {P:Program} {n k:Nat} {Q:Exit→Fr→zf→Prop} {F:Fr} {σ:zf}
theorem AM.opsWp_inil {T:TT}(hT:TOK P T){ops:Array Oper}{o:Oper}{l:List Oper}{x:Operand}{t yt:TypeId}{i:TI}{e:Array (String×TypeId)}(hg:YX ops F o=some true)(ho:o.op=.binOp .eql t x (.const .nilIface) yt)(hi:T t=some i)(hd:i.desc=.interface e)
 (hs:ev F x=.nilI) (hdst:vaN n o.dst=true) (h:ZJ Φ P n k ops l Q (van F o.dst (.bool true)) σ):ZJ Φ P n k ops (o::l) Q F σ:=by
 intro E a hk hS hF
 unfold wpListIn;rw[if_pos (ZK hF hg)];have hx:=hF.ev x;rw[hs] at hx
 have hv:a.eval x=.nilIface:=by
  generalize a.eval x=v at hx
  cases hx; rfl
 refine vbs (fun c hc=>by rw[ho] at hc; cases hc) ?_
 have hrun:(execOp a.eval o).run P E.w=.ok (.value (.bool true)) E.w:=by
  obtain⟨dst,op,ty,pos,after,guard⟩:=o;simp only at ho;subst ho
  show (do pure (.value (← (do eqGuard .eql t x (.const .nilIface) (a.eval x) .nilIface; Go.binOp .eql t (a.eval x) .nilIface:Sem Value))):Sem Next).run P E.w=_
  have h3:∀ d,(Op.equalIn (d+1) t .nilIface .nilIface).run P E.w=.ok true E.w:=by
   intro d
   simp only[Op.equalIn,qm,ym _ (hT _ _ hi),qi,hd]; rfl
  have h2:(Op.equal t .nilIface .nilIface).run P E.w=.ok true E.w:=h3 9999
  have h1:(do eqGuard .eql t x (.const .nilIface) .nilIface .nilIface; Go.binOp .eql t .nilIface .nilIface:Sem Value).run P E.w=.ok (.bool true) E.w:=by
   have hgd:(eqGuard .eql t x (.const .nilIface) .nilIface .nilIface).run P E.w=.ok () E.w:=by
    unfold eqGuard
    cases x<;>rfl
   rw[qm,hgd,qi];simp only[Go.binOp,qm,h2,qi,qJ]
  rw[hv,qm,h1,qi]; rfl
 rw[hrun];exact h E _ hk hS (hF.put (vad hdst) (.bool true))
end
theorem kind_num (m:Int)(σ:zf):ACalls qf 275 [.int .i64 m] σ (fun r' σ'=>r'=.int .i64 1∧σ'=σ):=by
 refine ACalls.c (x:=.int .i64 1) ?_ σ;refine zk (rs:=[.tmp 2]) U Tryz.func275 rfl Tryz.ntmps275 rfl Tryz.call275 (by simp) ?_;refine zu [(0,.int .i64 m)] ⟨rfl,trivial⟩ ?_
 refine rg U [2] fun K J=>?_
 simp only[go_sem,qd,qg,qc,qe,qj,qr,reduceIte,reduceCtorEq];apply J
 clear J K
 refine rg U [2] fun K J=>?_
 simp only[go_sem,qd,qg,qc,qe,qj,qr,reduceIte,reduceCtorEq];apply J
 clear J K
 refine yE ?_;exact retA
theorem kind_str (m:List UInt8)(σ:zf):ACalls qf 276 [.str m] σ (fun r' σ'=>r'=.int .i64 2∧σ'=σ):=by
 refine ACalls.c (x:=.int .i64 2) ?_ σ;refine zk (rs:=[.tmp 2]) U Tryz.func276 rfl Tryz.ntmps276 rfl Tryz.call276 (by simp) ?_;refine zu [(0,.str m)] ⟨rfl,trivial⟩ ?_
 refine rg U [2] fun K J=>?_
 simp only[go_sem,qd,qg,qc,qe,qj,qr,reduceIte,reduceCtorEq];apply J
 clear J K
 refine rg U [2] fun K J=>?_
 simp only[go_sem,qd,qg,qc,qe,qj,qr,reduceIte,reduceCtorEq];apply J
 clear J K
 refine yE ?_;exact retA
theorem kind_node (m:yA)(σ:zf):ACalls qf 274 [.dp (zO m) 0] σ (fun r' σ'=>r'=.int .i64 3∧σ'=σ):=by
 refine ACalls.c (x:=.int .i64 3) ?_ σ;refine zk (rs:=[.tmp 2]) U Tryz.func274 rfl Tryz.ntmps274 rfl Tryz.call274 (by simp) ?_;refine zu [(0,.dp (zO m) 0)] ⟨rfl,trivial⟩ ?_
 refine rg U [2] fun K J=>?_
 simp only[go_sem,qd,qg,qc,qe,qj,qr,reduceIte,reduceCtorEq];apply J
 clear J K
 refine rg U [2] fun K J=>?_
 simp only[go_sem,qd,qg,qc,qe,qj,qr,reduceIte,reduceCtorEq];apply J
 clear J K
 refine yE ?_;exact retA
theorem has_num : vcW qf 348 "concordat/value.kind" 275:=by intro v w; kernel_rfl
theorem has_str : vcW qf 349 "concordat/value.kind" 276:=by intro v w; kernel_rfl
theorem has_node : vcW qf 232 "concordat/value.kind" 274:=by intro v w; kernel_rfl
def Zn (a0:zt):Int:=
 match a0 with|.nil=>0|.num _=>1|.str _=>2|.node _ _=>3
theorem Zn.ok (a0:zt)(r:Int)(h:Zn a0=r):ACalls qf 253 [.agg (zn a0)] [] (fun r' _=>r'=.int .i64 r):=by
 refine zk (rs:=[.tmp 2]) U Tryz.func253 rfl Tryz.ntmps253 rfl Tryz.call253 (by simp) ?_;refine zu [(0,.agg (zn a0))] ⟨rfl,trivial⟩ ?_;unfold Zn at h;have f1:=Xb a0;unfold AV.one at f1
 refine rg U [1] fun K J=>?_
 simp only[go_sem,qd,qg,qc,qe,qj,qr,reduceIte,reduceCtorEq,zn,f1];apply J
 clear J K
 rcases a0 with _|n2|s2|⟨e2,r2⟩
 · dsimp only at h
   try simp only[vcK]
   refine za fun Z hZ=>?_
   refine rc [1,5] fun K J=>?_
   refine xO U 2 ?_;simp only[go_sem,qd,qg,qc,qe,qj,qr,reduceIte,reduceCtorEq];refine opsWp_inil U rfl rfl rfl rfl rfl rfl ?_;refine zl ?_;simp only[zq,XN,vaq,van,upd,qc,reduceIte,yD,xj];apply J
   clear J K
   refine zE rfl ?_
   refine rg U [2] fun K J=>?_
   simp only[go_sem,qd,qg,qc,qe,qj,qr,reduceIte,reduceCtorEq];apply J
   clear J K
   refine yE ?_;obtain rfl:=h;exact retA
 · dsimp only at h
   try simp only[vcJ]
   refine za fun Z hZ=>?_
   refine rg U [1,5] fun K J=>?_
   simp only[go_sem,qd,qg,qc,qe,qj,qr,reduceIte,reduceCtorEq,evEq];apply J
   clear J K
   refine zD rfl ?_;refine zg ?_;refine hZ _ _ ?_
   clear hZ Z
   refine rc [2] fun K J=>?_
   refine xO U 2 ?_;simp only[go_sem,qd,qg,qc,qe,qj,qr,reduceIte,reduceCtorEq];refine vbE rfl rfl rfl has_num rfl (kind_num n2 _) ?_;rintro _ _ ⟨rfl,rfl⟩;refine xO U 1 ?_;simp only[go_sem,qd,qg,qc,qe,qj,qr,reduceIte,reduceCtorEq];refine zl ?_;simp only[zq,XN,vaq,van,upd,qc,reduceIte,yD,xj];apply J
   clear J K
   refine yE ?_;obtain rfl:=h;exact retA
 · dsimp only at h
   try simp only[vcI]
   refine za fun Z hZ=>?_
   refine rg U [1,5] fun K J=>?_
   simp only[go_sem,qd,qg,qc,qe,qj,qr,reduceIte,reduceCtorEq,evEq];apply J
   clear J K
   refine zD rfl ?_;refine zg ?_;refine hZ _ _ ?_
   clear hZ Z
   refine rc [2] fun K J=>?_
   refine xO U 2 ?_;simp only[go_sem,qd,qg,qc,qe,qj,qr,reduceIte,reduceCtorEq];refine vbE rfl rfl rfl has_str rfl (kind_str s2 _) ?_;rintro _ _ ⟨rfl,rfl⟩;refine xO U 1 ?_;simp only[go_sem,qd,qg,qc,qe,qj,qr,reduceIte,reduceCtorEq];refine zl ?_;simp only[zq,XN,vaq,van,upd,qc,reduceIte,yD,xj];apply J
   clear J K
   refine yE ?_;obtain rfl:=h;exact retA
 dsimp only at h
 try simp only[vaV]
 refine za fun Z hZ=>?_
 refine rg U [1,5] fun K J=>?_
 simp only[go_sem,qd,qg,qc,qe,qj,qr,reduceIte,reduceCtorEq,evEq];apply J
 clear J K
 refine zD rfl ?_;refine zg ?_;refine hZ _ _ ?_
 clear hZ Z
 refine rc [2] fun K J=>?_
 refine xO U 2 ?_;simp only[go_sem,qd,qg,qc,qe,qj,qr,reduceIte,reduceCtorEq];refine vbE rfl rfl rfl has_node rfl (kind_node ⟨e2,r2⟩ _) ?_;rintro _ _ ⟨rfl,rfl⟩;refine xO U 1 ?_;simp only[go_sem,qd,qg,qc,qe,qj,qr,reduceIte,reduceCtorEq];refine zl ?_;simp only[zq,XN,vaq,van,upd,qc,reduceIte,yD,xj];apply J
 clear J K
 refine yE ?_;obtain rfl:=h;exact retA
theorem Zn.ev (a0:zt)(r:Int)(h:Zn a0=r)(σ:zf):ACalls qf 253 [.agg (zn a0)] σ (fun r' σ'=>r'=.int .i64 r∧σ'=σ):=
 (Zn.ok a0 r h).c σ
end
section
namespace AM
open Go.RowKit
section
variable {Φ:Ctx} {P:Program} {n k:Nat} {Q:Exit→Fr→zf→Prop} {F:Fr} {σ:zf}
end
end AM
end
section
set_option maxRecDepth 8000
open Go.RowKit AM

end
section
set_option maxRecDepth 8000
open AM

end
section
set_option maxRecDepth 8000
open Go.RowKit AM

end
section
set_option maxRecDepth 4000
set_option maxHeartbeats 1000000
open AM
def wt.l9 (a0:List UInt8):Nat→Nat→Int→Option Int
 |0,_,_=>none
 |k9+1,p5,x6=>(if p5<qa a0 then ((wt.l9 a0 k9) (p5+(vba a0 p5).2) (IntKind.i64.wrap (x6+1))) else some x6)
def wt (a0:List UInt8):Option Int:=
 (xD a0).bind fun r2=>(if (!r2)=true then some 0 else (wt.l9 a0 yp 0 0))
theorem wt.ok {a0 r}(h:wt a0=some r):ACalls qf 167 [.str a0] [] (fun r' _=>r'=.int .i64 r):=by
 refine zk (rs:=[.tmp 2]) U Tryz.func167 rfl Tryz.ntmps167 rfl Tryz.call167 (by simp) ?_;refine zu [(0,.str a0)] ⟨rfl,trivial⟩ ?_;unfold wt at h;refine O [0] ?_
 refine za fun Z1 hZ1=>?_
 refine rc [0,6] fun K J=>?_
 obtain⟨r2,hr2,h⟩:=bind_some h;refine κ 1 ?_;refine clN rfl rfl rfl ((xD.ok hr2).c _) ?_;refine κ 1 ?_;refine nkN J ?_;refine zB (b:=(!r2)) rfl (fun hc3=>?_) (fun hc3=>?_)
 · rw[if_pos hc3] at h;refine O [2] ?_;cases h;exact rtA
 rw[wn hc3] at h;apply zg;apply hZ1;refine O [0,3] ?_
 refine za fun Z4 hZ4=>?_
 refine O [3,8] ?_;apply zj;refine zG (fun m L τ=>∃ (k9:Nat) (p5:Nat) (x6:Int),m=0+k9∧L=[(3,.int .i64 x6),(8,.it 0)]∧τ=([.iter a0 p5]:zf)∧wt.l9 a0 k9 p5 x6=some r) _ ⟨yp,0,0,rfl,rfl,rfl,h⟩ .s ?_;rintro m L τ ⟨k9,p5,x6,rfl,rfl,rfl,h⟩
 rcases k9 with _|k9
 · cases h
 simp only[wt.l9] at h
 by_cases hn10:p5<qa a0
 · rw[if_pos hn10] at h;have t11:=eq_true hn10
   refine rg U [3,8,10] fun K J=>?_
   simp only[go_sem,qd,qc,qe,vcM,if_true,if_false,t11];apply J
   refine za fun Z12 hZ12=>?_
   refine zE rfl ?_;apply zg;apply hZ12;apply zj
   refine rgE U [3,8] fun K J=>?_
   simp only[go_sem,qd,qc];apply J
   exact⟨_,_,_,qo (0+k9),⟨k9,p5+(vba a0 p5).2,IntKind.i64.wrap (x6+1),rfl,rfl,rfl,h⟩,.s⟩
 rw[if_neg hn10] at h;have t13:=eq_false hn10
 refine rg U [3,8,10] fun K J=>?_
 simp only[go_sem,qd,qc,vcM,if_true,if_false,t13];apply J
 refine za fun Z14 hZ14=>?_
 refine zD rfl ?_;apply zJ;apply hZ4;refine O [2] ?_;cases h;exact rtA
def wR.j3 (x2:Bool):Bool:=
 (if x2=true then true else false)
def wR (a0:List UInt8):Bool:=
 (if a0=[115,99,104,101,109,97] then (wR.j3 (decide (a0=[115,99,104,101,109,97]))) else (if a0=[109,101,115,115,97,103,101] then (wR.j3 (decide (a0=[109,101,115,115,97,103,101]))) else (if a0=[101,110,117,109] then (wR.j3 (decide (a0=[101,110,117,109]))) else (if a0=[99,97,108,108] then (wR.j3 (decide (a0=[99,97,108,108]))) else (if a0=[114,101,116,117,114,110,115] then (wR.j3 (decide (a0=[114,101,116,117,114,110,115]))) else (if a0=[114,101,115,101,114,118,101,100] then (wR.j3 (decide (a0=[114,101,115,101,114,118,101,100]))) else (if a0=[111,112,116,105,111,110,97,108] then (wR.j3 (decide (a0=[111,112,116,105,111,110,97,108]))) else (if a0=[114,101,112,101,97,116,101,100] then (wR.j3 (decide (a0=[114,101,112,101,97,116,101,100]))) else (if a0=[105,110,116,51,50] then (wR.j3 (decide (a0=[105,110,116,51,50]))) else (if a0=[105,110,116,54,52] then (wR.j3 (decide (a0=[105,110,116,54,52]))) else (if a0=[98,111,111,108] then (wR.j3 (decide (a0=[98,111,111,108]))) else (if a0=[116,101,120,116] then (wR.j3 (decide (a0=[116,101,120,116]))) else (wR.j3 (decide (a0=[98,121,116,101,115])))))))))))))))
theorem wR.ok {a0 r}(h:wR a0=r):ACalls qf 168 [.str a0] [] (fun r' _=>r'=.bool r):=by
 refine zk (rs:=[.tmp 2]) U Tryz.func168 rfl Tryz.ntmps168 rfl Tryz.call168 (by simp) ?_;refine zu [(0,.str a0)] ⟨rfl,trivial⟩ ?_;unfold wR at h;refine O [0] ?_
 refine za fun Z1 hZ1=>?_
 refine O [3] ?_;apply zj;refine we (fun L τ=>∃ (x2:Bool),L=[(4,.bool x2)]∧τ=([]:zf)∧wR.j3 x2=r) ?_ ?_
 · refine O [3,4] ?_;refine zR rfl (fun hc5=>?_) (fun hc5=>?_)
   · rw[if_pos hc5] at h;have t6:=eq_true hc5;apply zg;exact⟨_,_,⟨decide (a0=[115,99,104,101,109,97]),rfl,rfl,h⟩,.s⟩
   rw[if_neg hc5] at h;have t7:=eq_false hc5;refine rgW [3,4] t7 ?_;refine zR rfl (fun hc8=>?_) (fun hc8=>?_)
   · rw[if_pos hc8] at h;have t9:=eq_true hc8;apply zg;exact⟨_,_,⟨decide (a0=[109,101,115,115,97,103,101]),rfl,rfl,h⟩,.s⟩
   rw[if_neg hc8] at h;have t10:=eq_false hc8;refine rgW [3,4] t10 ?_;refine zR rfl (fun hc11=>?_) (fun hc11=>?_)
   · rw[if_pos hc11] at h;have t12:=eq_true hc11;apply zg;exact⟨_,_,⟨decide (a0=[101,110,117,109]),rfl,rfl,h⟩,.s⟩
   rw[if_neg hc11] at h;have t13:=eq_false hc11;refine rgW [3,4] t13 ?_;refine zR rfl (fun hc14=>?_) (fun hc14=>?_)
   · rw[if_pos hc14] at h;have t15:=eq_true hc14;apply zg;exact⟨_,_,⟨decide (a0=[99,97,108,108]),rfl,rfl,h⟩,.s⟩
   rw[if_neg hc14] at h;have t16:=eq_false hc14;refine rgW [3,4] t16 ?_;refine zR rfl (fun hc17=>?_) (fun hc17=>?_)
   · rw[if_pos hc17] at h;have t18:=eq_true hc17;apply zg;exact⟨_,_,⟨decide (a0=[114,101,116,117,114,110,115]),rfl,rfl,h⟩,.s⟩
   rw[if_neg hc17] at h;have t19:=eq_false hc17;refine rgW [3,4] t19 ?_;refine zR rfl (fun hc20=>?_) (fun hc20=>?_)
   · rw[if_pos hc20] at h;have t21:=eq_true hc20;apply zg;exact⟨_,_,⟨decide (a0=[114,101,115,101,114,118,101,100]),rfl,rfl,h⟩,.s⟩
   rw[if_neg hc20] at h;have t22:=eq_false hc20;refine rgW [3,4] t22 ?_;refine zR rfl (fun hc23=>?_) (fun hc23=>?_)
   · rw[if_pos hc23] at h;have t24:=eq_true hc23;apply zg;exact⟨_,_,⟨decide (a0=[111,112,116,105,111,110,97,108]),rfl,rfl,h⟩,.s⟩
   rw[if_neg hc23] at h;have t25:=eq_false hc23;refine rgW [3,4] t25 ?_;refine zR rfl (fun hc26=>?_) (fun hc26=>?_)
   · rw[if_pos hc26] at h;have t27:=eq_true hc26;apply zg;exact⟨_,_,⟨decide (a0=[114,101,112,101,97,116,101,100]),rfl,rfl,h⟩,.s⟩
   rw[if_neg hc26] at h;have t28:=eq_false hc26;refine rgW [3,4] t28 ?_;refine zR rfl (fun hc29=>?_) (fun hc29=>?_)
   · rw[if_pos hc29] at h;have t30:=eq_true hc29;apply zg;exact⟨_,_,⟨decide (a0=[105,110,116,51,50]),rfl,rfl,h⟩,.s⟩
   rw[if_neg hc29] at h;have t31:=eq_false hc29;refine rgW [3,4] t31 ?_;refine zR rfl (fun hc32=>?_) (fun hc32=>?_)
   · rw[if_pos hc32] at h;have t33:=eq_true hc32;apply zg;exact⟨_,_,⟨decide (a0=[105,110,116,54,52]),rfl,rfl,h⟩,.s⟩
   rw[if_neg hc32] at h;have t34:=eq_false hc32;refine rgW [3,4] t34 ?_;refine zR rfl (fun hc35=>?_) (fun hc35=>?_)
   · rw[if_pos hc35] at h;have t36:=eq_true hc35;apply zg;exact⟨_,_,⟨decide (a0=[98,111,111,108]),rfl,rfl,h⟩,.s⟩
   rw[if_neg hc35] at h;have t37:=eq_false hc35;refine rgW [3,4] t37 ?_;refine zR rfl (fun hc38=>?_) (fun hc38=>?_)
   · rw[if_pos hc38] at h;have t39:=eq_true hc38;apply zg;exact⟨_,_,⟨decide (a0=[116,101,120,116]),rfl,rfl,h⟩,.s⟩
   rw[if_neg hc38] at h;have t40:=eq_false hc38
   refine rgE U [4] fun K J=>?_
   simp only[go_sem,qd,qc,t40];apply J
   exact⟨_,_,⟨decide (a0=[98,121,116,101,115]),rfl,rfl,h⟩,.s⟩
 rintro _ _ ⟨x2,rfl,rfl,h⟩;unfold wR.j3 at h;refine zB (b:=x2) rfl (fun hc4=>?_) (fun hc4=>?_)
 · rw[if_pos hc4] at h;refine O [2] ?_;cases h;exact rtA
 rw[wn hc4] at h;apply zg;apply hZ1;refine O [2] ?_;cases h;exact rtA
def YJ (a0:Int)(a1:Int)(a2:Int):Bool:=
 ((decide (a1≤a0))&&(decide (a0≤a2)))
theorem YJ.ok {a0 a1 a2 r}(h:YJ a0 a1 a2=r):ACalls qf 212 [.int .i32 a0,.int .i32 a1,.int .i32 a2] [] (fun r' _=>r'=.bool r):=by
 refine zk (rs:=[.tmp 6]) U Tryz.func212 rfl Tryz.ntmps212 rfl Tryz.call212 (by simp) ?_;refine zu [(0,.int .i32 a0),(1,.int .i32 a1),(2,.int .i32 a2)] ⟨rfl,rfl,rfl,trivial⟩ ?_;unfold YJ at h;refine O [0,1,2] ?_
 refine rc [6] fun K J=>?_
 refine κ 4 ?_;refine cut 4 10 14 [] ((decide (a1≤a0))&&(decide (a0≤a2))) qF rfl ?_;refine κ 1 ?_;refine nkN J ?_;cases h;exact rtA
def wZ.j6 (a0:Int)(x5:Bool):Bool:=
 (if x5=true then false else bnd (YJ a0 97 122) fun r8=>bnd (if r8=true then true else bnd (YJ a0 65 90) fun r9=>r9) fun c9=>bnd (if c9=true then true else bnd (YJ a0 192 591) fun r11=>r11) fun c11=>bnd (if c11=true then true else bnd (YJ a0 913 969) fun r13=>r13) fun c13=>c13)
def wZ (a0:Int):Bool:=
 (if a0=95 then true else (if a0=215 then (wZ.j6 a0 (decide (a0=215))) else (if a0=247 then (wZ.j6 a0 (decide (a0=247))) else (wZ.j6 a0 (decide (a0=930))))))
theorem wZ.ok {a0 r}(h:wZ a0=r):ACalls qf 169 [.int .i32 a0] [] (fun r' _=>r'=.bool r):=by
 refine zk (rs:=[.tmp 2]) U Tryz.func169 rfl Tryz.ntmps169 rfl Tryz.call169 (by simp) ?_;refine zu [(0,.int .i32 a0)] ⟨rfl,trivial⟩ ?_;unfold wZ at h;refine O [0] ?_
 refine za fun Z1 hZ1=>?_
 refine O [0,3] ?_;apply zj;refine O [0,3,4] ?_;refine zR rfl (fun hc2=>?_) (fun hc2=>?_)
 · rw[if_pos hc2] at h;have t3:=eq_true hc2;refine rgW [2] t3 ?_;cases h;exact rtA
 rw[if_neg hc2] at h;have t4:=eq_false hc2;refine we (fun L τ=>∃ (x5:Bool),L=[(0,.int .i32 a0),(6,.bool x5)]∧τ=([]:zf)∧wZ.j6 a0 x5=r) ?_ ?_
 · refine rgW [0,3,6] t4 ?_;refine zR rfl (fun hc15=>?_) (fun hc15=>?_)
   · rw[if_pos hc15] at h;have t16:=eq_true hc15;apply zg;exact⟨_,_,⟨decide (a0=215),rfl,rfl,h⟩,.s⟩
   rw[if_neg hc15] at h;have t17:=eq_false hc15;refine rgW [0,3,6] t17 ?_;refine zR rfl (fun hc18=>?_) (fun hc18=>?_)
   · rw[if_pos hc18] at h;have t19:=eq_true hc18;apply zg;exact⟨_,_,⟨decide (a0=247),rfl,rfl,h⟩,.s⟩
   rw[if_neg hc18] at h;have t20:=eq_false hc18
   refine rgE U [0,6] fun K J=>?_
   simp only[go_sem,qd,qc,reduceCtorEq,t20];apply J
   exact⟨_,_,⟨decide (a0=930),rfl,rfl,h⟩,.s⟩
 rintro _ _ ⟨x5,rfl,rfl,h⟩;unfold wZ.j6 at h;refine zB (b:=x5) rfl (fun hc7=>?_) (fun hc7=>?_)
 · rw[if_pos hc7] at h;refine O [2] ?_;cases h;exact rtA
 rw[wn hc7] at h;apply zg;apply hZ1
 refine rc [2] fun K J=>?_
 obtain⟨r8,hr8,h⟩:=yb h;refine κ 1 ?_;refine clN rfl rfl rfl ((YJ.ok hr8).c _) ?_;refine κ 1 ?_;obtain⟨c9,hc9,h⟩:=yb h;refine yv 3 (fun L τ=>L=[(0,.int .i32 a0),(15,.bool c9)]∧τ=([]:zf)) ?_ ?_
 · refine xm (b:=r8) 12 rfl (fun hg12=>?_) (fun hg12=>?_)
   · rw[if_pos hg12] at hc9;refine κ 3 ?_;subst hc9;refine zl ⟨rfl,_,_,⟨rfl,rfl⟩,.b hg12⟩
   rw[wn hg12] at hc9;obtain⟨r10,hr10,hc9⟩:=yb hc9;refine κ 1 ?_;refine clN rfl rfl rfl ((YJ.ok hr10).c _) ?_;refine κ 1 ?_;subst hc9;refine zl ⟨rfl,_,_,⟨rfl,rfl⟩,.b hg12⟩
 rintro _ _ ⟨rfl,rfl⟩;refine κ 1 ?_;obtain⟨c11,hc11,h⟩:=yb h;refine yv 3 (fun L τ=>L=[(0,.int .i32 a0),(19,.bool c11)]∧τ=([]:zf)) ?_ ?_
 · refine xm (b:=c9) 16 rfl (fun hg16=>?_) (fun hg16=>?_)
   · rw[if_pos hg16] at hc11;refine κ 3 ?_;subst hc11;refine zl ⟨rfl,_,_,⟨rfl,rfl⟩,.b hg16⟩
   rw[wn hg16] at hc11;obtain⟨r12,hr12,hc11⟩:=yb hc11;refine κ 1 ?_;refine clN rfl rfl rfl ((YJ.ok hr12).c _) ?_;refine κ 1 ?_;subst hc11;refine zl ⟨rfl,_,_,⟨rfl,rfl⟩,.b hg16⟩
 rintro _ _ ⟨rfl,rfl⟩;refine κ 1 ?_;obtain⟨c13,hc13,h⟩:=yb h;refine yv 3 (fun L τ=>L=[(23,.bool c13)]∧τ=([]:zf)) ?_ ?_
 · refine xm (b:=c11) 20 rfl (fun hg20=>?_) (fun hg20=>?_)
   · rw[if_pos hg20] at hc13;refine κ 3 ?_;subst hc13;refine zl ⟨rfl,_,_,⟨rfl,rfl⟩,.b hg20⟩
   rw[wn hg20] at hc13;obtain⟨r14,hr14,hc13⟩:=yb hc13;refine κ 1 ?_;refine clN rfl rfl rfl ((YJ.ok hr14).c _) ?_;refine κ 1 ?_;subst hc13;refine zl ⟨rfl,_,_,⟨rfl,rfl⟩,.b hg20⟩
 rintro _ _ ⟨rfl,rfl⟩;refine κ 1 ?_;refine nkN J ?_;cases h;exact rtA
def XI (a0:Int):Bool:=
 bnd (YJ a0 48 57) fun r1=>r1
theorem XI.ok {a0 r}(h:XI a0=r):ACalls qf 170 [.int .i32 a0] [] (fun r' _=>r'=.bool r):=by
 refine zk (rs:=[.tmp 2]) U Tryz.func170 rfl Tryz.ntmps170 rfl Tryz.call170 (by simp) ?_;refine zu [(0,.int .i32 a0)] ⟨rfl,trivial⟩ ?_;unfold XI at h;refine O [0] ?_
 refine rc [2] fun K J=>?_
 obtain⟨r1,hr1,h⟩:=yb h;refine κ 1 ?_;refine clN rfl rfl rfl ((YJ.ok hr1).c _) ?_;refine κ 1 ?_;refine nkN J ?_;cases h;exact rtA
def xQ.l11 (a0:List UInt8):Nat→Nat→Option Bool
 |0,_=>none
 |k11+1,p9=>(if p9<qa a0 then bnd (wZ ((vba a0 p9).1:Int)) fun r15=>bnd (if (!r15)=true then bnd (if ((p9:Nat):Int)=0 then true else bnd (XI ((vba a0 p9).1:Int)) fun r16 => !r16) fun c16=>c16 else false) fun c16=>(if c16=true then some false else ((xQ.l11 a0 k11) (p9+(vba a0 p9).2))) else some true)
def xQ (a0:List UInt8):Option Bool:=
 (wt a0).bind fun r1=>bnd (if ((decide (r1<1))||(decide (20<r1)))=true then true else bnd (wR a0) fun r5=>r5) fun c5=>(if c5=true then some false else (xQ.l11 a0 yp 0))
theorem xQ.ok {a0 r}(h:xQ a0=some r):ACalls qf 125 [.str a0] [] (fun r' _=>r'=.bool r):=by
 refine zk (rs:=[.tmp 2]) U Tryz.func125 rfl Tryz.ntmps125 rfl Tryz.call125 (by simp) ?_;refine zu [(0,.str a0)] ⟨rfl,trivial⟩ ?_;unfold xQ at h;refine O [0] ?_
 refine rc [0,3] fun K J=>?_
 obtain⟨r1,hr1,h⟩:=bind_some h;refine κ 1 ?_;refine clN rfl rfl rfl ((wt.ok hr1).c _) ?_;refine κ 1 ?_;refine nkN J ?_
 refine za fun Z2 hZ2=>?_
 refine rc [0,17] fun K J=>?_
 refine κ 3 ?_;refine cut 3 10 13 [0] ((decide (r1<1))||(decide (20<r1))) qF rfl ?_;refine κ 1 ?_;obtain⟨c5,hc5,h⟩:=yb h;refine yv 3 (fun L τ=>L=[(0,.str a0),(17,.bool c5)]∧τ=([]:zf)) ?_ ?_
 · refine xm (b:=((decide (r1<1))||(decide (20<r1)))) 14 rfl (fun hg14=>?_) (fun hg14=>?_)
   · rw[if_pos hg14] at hc5;refine κ 3 ?_;subst hc5;refine zl ⟨rfl,_,_,⟨rfl,rfl⟩,.b hg14⟩
   rw[wn hg14] at hc5;obtain⟨r6,hr6,hc5⟩:=yb hc5;refine κ 1 ?_;refine clN rfl rfl rfl ((wR.ok hr6).c _) ?_;refine κ 1 ?_;subst hc5;refine zl ⟨rfl,_,_,⟨rfl,rfl⟩,.b hg14⟩
 rintro _ _ ⟨rfl,rfl⟩;refine nkN J ?_;refine zB (b:=c5) rfl (fun hc7=>?_) (fun hc7=>?_)
 · rw[if_pos hc7] at h;refine O [2] ?_;cases h;exact rtA
 rw[wn hc7] at h;apply zg;apply hZ2
 refine za fun Z8 hZ8=>?_
 refine O [19] ?_;apply zj;refine zG (fun m L τ=>∃ (k11:Nat) (p9:Nat),m=0+k11∧L=[(19,.it 0)]∧τ=([.iter a0 p9]:zf)∧xQ.l11 a0 k11 p9=some r) _ ⟨yp,0,rfl,rfl,rfl,h⟩ .s ?_;rintro m L τ ⟨k11,p9,rfl,rfl,rfl,h⟩
 rcases k11 with _|k11
 · cases h
 simp only[xQ.l11] at h
 by_cases hn12:p9<qa a0
 · rw[if_pos hn12] at h;have t13:=eq_true hn12
   refine rg U [19,20,21] fun K J=>?_
   simp only[go_sem,qd,qc,qe,vcM,if_true,if_false,t13];apply J
   refine za fun Z14 hZ14=>?_
   refine zE rfl ?_;apply zg;apply hZ14;apply zj;refine O [4,5,19] ?_
   refine rc [19,35] fun K J=>?_
   obtain⟨r15,hr15,h⟩:=yb h;refine κ 1 ?_;refine clN rfl rfl rfl ((wZ.ok hr15).c _) ?_;refine κ 2 ?_;obtain⟨c16,hc16,h⟩:=yb h;refine yv 8 (fun L τ=>L=[(19,.it 0),(35,.bool c16)]∧τ=([.iter a0 (p9+(vba a0 p9).2)]:zf)) ?_ ?_
   · refine xm (b:=(!r15)) 27 rfl (fun hg27=>?_) (fun hg27=>?_)
     · rw[if_pos hg27] at hc16;refine κ 3 ?_;obtain⟨c17,hc17,hc16⟩:=yb hc16;refine yv 4 (fun L τ=>L=[(19,.it 0),(27,.bool true),(34,.bool c17)]∧τ=([.iter a0 (p9+(vba a0 p9).2)]:zf)) ?_ ?_
       · refine Yz 30 rfl (fun hg30=>?_) (fun hg30=>?_)
         · have t18:=eq_true hg30;rw[if_pos hg30] at hc17;refine κ 4 ?_;subst hc17;refine zl ⟨rfl,_,_,⟨rfl,rfl⟩,.p t18⟩
         have t19:=eq_false hg30;rw[if_neg hg30] at hc17;obtain⟨r20,hr20,hc17⟩:=yb hc17;refine κ 1 ?_;refine clN rfl rfl rfl ((XI.ok hr20).c _) ?_;refine κ 2 ?_;subst hc17;refine zl ⟨rfl,_,_,⟨rfl,rfl⟩,.p t19⟩
       rintro _ _ ⟨rfl,rfl⟩;refine κ 1 ?_;subst hc16;refine zl ⟨rfl,_,_,⟨rfl,rfl⟩,.b hg27⟩
     rw[wn hg27] at hc16;refine κ 8 ?_;subst hc16;refine zl ⟨rfl,_,_,⟨rfl,rfl⟩,.b hg27⟩
   rintro _ _ ⟨rfl,rfl⟩;refine nkN J ?_;refine zB (b:=c16) rfl (fun hc21=>?_) (fun hc21=>?_)
   · rw[if_pos hc21] at h;refine O [2] ?_;cases h;exact rtA
   rw[wn hc21] at h;apply zg;exact⟨_,_,_,qo (0+k11),⟨k11,p9+(vba a0 p9).2,rfl,rfl,rfl,h⟩,.s⟩
 rw[if_neg hn12] at h;have t22:=eq_false hn12
 refine rg U [19,20,21] fun K J=>?_
 simp only[go_sem,qd,qc,vcM,if_true,if_false,t22];apply J
 refine za fun Z23 hZ23=>?_
 refine zD rfl ?_;apply zJ;apply hZ8;refine O [2] ?_;cases h;exact rtA
def xe (a0:List (List UInt8×Bool))(a1:List UInt8):Option (Bool×List (List UInt8×Bool)):=
 (xQ a1).bind fun r2=>(if ((!r2)||((vax a0 a1).getD false))=true then some (false,a0) else some (true,vcY a0 a1 true))
theorem xe.ok {a0 a1 r}(h:xe a0 a1=some r):ACalls qf 128 [.mp 0,.str a1] [.map (xp AV.str AV.bool a0)] (fun r' σ'=>r'=.bool r.1∧σ'=[.map (xp AV.str AV.bool r.2)]):=by
 refine ZH [0] (rs:=[.tmp 4]) U Tryz.func128 rfl Tryz.ntmps128 rfl Tryz.call128 (by simp) rfl ?_;refine zu [(0,.mp 0),(1,.str a1)] ⟨rfl,rfl,trivial⟩ ?_;unfold xe at h;refine O [0,1] ?_
 refine za fun Z1 hZ1=>?_
 refine rc [0,1,12] fun K J=>?_
 obtain⟨r2,hr2,h⟩:=bind_some h;refine κ 1 ?_;refine clN rfl rfl rfl ((xQ.ok hr2).c _) ?_;refine κ 2 ?_;refine yv 4 (fun L τ=>L=[(0,.mp 0),(1,.str a1),(12,.bool ((!r2)||((vax a0 a1).getD false)))]∧τ=([.map (xp AV.str AV.bool a0)]:zf)) ?_ ?_
 · refine xm (b:=(!r2)) 8 rfl (fun hg8=>?_) (fun hg8=>?_)
   · refine xO U 4 ?_;simp only[go_sem,qd,qc,reduceCtorEq,if_false,if_true];refine zl ⟨rfl,_,_,⟨rfl,rfl⟩,.b hg8⟩
   have f3:=fun (x:zf)=>vbe (T:=tab) (t:=202) (ek:=AV.str) (ev:=AV.bool) (z:=false) (veh.str rfl rfl rfl rfl) rfl rfl rfl rfl a0 a1 false (.map (xp AV.str AV.bool a0)::x) 0 rfl
   refine xO U 4 ?_;simp only[go_sem,qd,qc,reduceCtorEq,vaT,qU,if_false,if_true,f3];refine zl ⟨rfl,_,_,⟨rfl,rfl⟩,.b hg8⟩
 rintro _ _ ⟨rfl,rfl⟩;refine nkN J ?_;refine zB (b:=((!r2)||((vax a0 a1).getD false))) rfl (fun hc4=>?_) (fun hc4=>?_)
 · rw[if_pos hc4] at h;refine O [4] ?_;apply yE;cases h;simp only[Yk,xg,xw,wu,exists_eq_left',go_sem];refine⟨by decide,by simp,?_,?_⟩
   · first|rfl|(simp only[go_sem,qd,qg,qc,qe,qj,qr,reduceIte,reduceCtorEq,push_cast,if_true,qw,ql,qy,qq,qE,qv,qM,qI,qz,qu,qn,zL]<;>rfl)
   first|rfl|(simp only[go_sem,push_cast,qq]<;>rfl)
 rw[wn hc4] at h;apply zg;apply hZ1
 have f5:=fun (x:zf)=>vcq (T:=tab) (t:=202) (ek:=AV.str) (ev:=AV.bool) (veh.str rfl rfl rfl rfl) rfl rfl a0 a1 true (.map (xp AV.str AV.bool a0)::x) 0 rfl
 refine rgW [] f5 ?_;refine O [4] ?_;apply yE;cases h;simp only[Yk,xg,xw,wu,exists_eq_left',go_sem];refine⟨by decide,by simp,?_,?_⟩
 · first|rfl|(simp only[go_sem,qd,qg,qc,qe,qj,qr,reduceIte,reduceCtorEq,push_cast,if_true,qw,ql,qy,qq,qE,qv,qM,qI,qz,qu,qn,zL]<;>rfl)
 first|rfl|(simp only[go_sem,push_cast,qq]<;>rfl)
def XC (a0:Int):Bool:=
 ((decide (1≤a0))&&(decide (a0≤500)))
theorem XC.ok {a0 r}(h:XC a0=r):ACalls qf 171 [.int .i64 a0] [] (fun r' _=>r'=.bool r):=by
 refine zk (rs:=[.tmp 2]) U Tryz.func171 rfl Tryz.ntmps171 rfl Tryz.call171 (by simp) ?_;refine zu [(0,.int .i64 a0)] ⟨rfl,trivial⟩ ?_;unfold XC at h;refine O [0] ?_
 refine rc [2] fun K J=>?_
 refine κ 3 ?_;refine cut 3 5 8 [] ((decide (1≤a0))&&(decide (a0≤500))) qF rfl ?_;refine κ 1 ?_;refine nkN J ?_;cases h;exact rtA
def Zm.l4 (a1:List UInt8):List zT→Int→zT×Bool
 |[],x2=>((⟨[],([]:List Zx)⟩:zT),false)
 |y4::q4,x2=>(if y4.fName=a1 then (y4,true) else ((Zm.l4 a1 q4) (x2+1)))
def Zm (a0:zm)(a1:List UInt8):zT×Bool:=
 (Zm.l4 a1 a0.fEnums 0)
theorem Zm.ok {a0 a1 r}(h:Zm a0 a1=r):ACalls qf 213 [.agg (zd a0),.str a1] [] (fun r' _=>r'=.tup [.agg (zh r.1),.bool r.2]):=by
 refine zk (rs:=[.cell 4 142,.tmp 5]) U Tryz.func213 rfl Tryz.ntmps213 rfl Tryz.call213 (by simp) ?_;refine zu [(0,.agg (zd a0)),(1,.str a1)] ⟨rfl,rfl,trivial⟩ ?_;unfold Zm at h;refine rgW [1,2,4] @zd.eq_1 ?_
 refine za fun Z1 hZ1=>?_
 refine O [1,4,9,10,11] ?_;apply zj
 refine xq 9 fun hb4=>?_
 replace hb4:qa a0.fEnums≤9223372036854775807:=hb4.1;refine zG (fun m L τ=>∃ (p4 q4:List zT) (x2:Int),m=qa q4∧L=[(1,.str a1),(4,.op 0 0 0),(9,.ds true (qb zh a0.fEnums) (qa a0.fEnums) false),(10,.int .i64 (qa a0.fEnums:Int)),(11,.int .i64 x2)]∧τ=([.cells 0 [.str [],.ds true [] 0 true]]:zf)∧a0.fEnums=p4++q4∧x2=(qa p4:Int)∧Zm.l4 a1 q4 x2=r) _ ⟨[],a0.fEnums,0,rfl,rfl,rfl,rfl,rfl,h⟩ (.t [1] false) ?_;rintro m L τ ⟨p4,q4,x2,rfl,rfl,rfl,hE4,hi4,h⟩
 rcases q4 with _|⟨y4,q4⟩
 · have hz4:=yH hE4 hi4;simp only[Zm.l4] at h;refine rgW [1,4,9,10,11,12] hz4 ?_
   refine za fun Z5 hZ5=>?_
   refine zD rfl ?_;apply zJ;apply hZ1;refine O [4,5] ?_;cases h;exact rtA
 obtain⟨hz4,hw4,hx4,hE'4,hi'4⟩:=yo hE4 hi4 hb4;simp only[Zm.l4] at h;refine rgW [1,4,9,10,11,12] hz4 ?_
 refine za fun Z6 hZ6=>?_
 refine zE rfl ?_;apply zg;apply hZ6
 refine za fun Z7 hZ7=>?_
 apply zj;have f8:=E28.idxS hx4;have f9:=E28.loadS rfl rfl hx4;refine rgW [1,4,7,9,10,11] (aI @zh.eq_1 (aI f8 f9)) ?_;refine O [1,4,7,9,10,11,18] ?_;refine zR rfl (fun hc10=>?_) (fun hc10=>?_)
 · rw[if_pos hc10] at h;have t11:=eq_true hc10;refine rgW [4,5] t11 ?_;cases h;exact rtA
 rw[if_neg hc10] at h;have t12:=eq_false hc10;apply zg;apply hZ7
 refine rgE U [1,4,9,10,11] fun K J=>?_
 simp only[go_sem,qd,qc,hw4,t12];apply J
 exact⟨_,_,_,qo q4.length,⟨p4++[y4],q4,x2+1,rfl,rfl,rfl,hE'4,hi'4,h⟩,(.t [0] false)⟩
def Z0 (a0:zm)(a1:yY):Bool:=
 (if a1.fType.fKind=6 then bnd (Zm a0 a1.fType.fName) fun r6=>(((decide (1≤a1.fLabel))&&(decide (a1.fLabel≤3)))&&r6.2) else (if a1.fType.fKind=7 then bnd (zP a0 a1.fType.fName) fun r10=>(((decide (1≤a1.fLabel))&&(decide (a1.fLabel≤3)))&&r10.2) else (((((decide (1≤a1.fLabel))&&(decide (a1.fLabel≤3)))&&(decide (1≤a1.fType.fKind)))&&(decide (a1.fType.fName=[])))&&(decide (a1.fType.fKind<6)))))
theorem Z0.ok {a0 a1 r}(h:Z0 a0 a1=r):ACalls qf 172 [.agg (zd a0),.agg (z7 a1)] [] (fun r' _=>r'=.bool r):=by
 refine zk (rs:=[.tmp 4]) U Tryz.func172 rfl Tryz.ntmps172 rfl Tryz.call172 (by simp) ?_;refine zu [(0,.agg (zd a0)),(1,.agg (z7 a1))] ⟨rfl,rfl,trivial⟩ ?_;unfold Z0 at h;refine rgW [2,3] (aI @z7.eq_1 @zd.eq_1) ?_
 refine rc [2,3,5] fun K J=>?_
 refine κ 4 ?_;refine cut 4 13 17 [2,3] ((decide (1≤a1.fLabel))&&(decide (a1.fLabel≤3))) qF rfl ?_;refine κ 1 ?_;refine nkN J ?_
 refine za fun Z3 hZ3=>?_
 refine O [2,3,5,20] ?_;apply zj;refine O [2,3,5,20,21] ?_;refine zR rfl (fun hc4=>?_) (fun hc4=>?_)
 · rw[if_pos hc4] at h;have t5:=eq_true hc4
   refine rc [5,7] fun K J=>?_
   obtain⟨r6,hr6,h⟩:=yb h;refine rnW 4 t5 ?_;refine clN rfl rfl rfl ((Zm.ok hr6).c _) ?_;refine rnW 6 @zh.eq_1 ?_;refine nkN J ?_
   refine rc [4] fun K J=>?_
   refine κ 2 ?_;refine cut (b:=((decide (1≤a1.fLabel))&&(decide (a1.fLabel≤3)))) (hb:=boolP_eq _) 2 32 34 [] (((decide (1≤a1.fLabel))&&(decide (a1.fLabel≤3)))&&r6.2) t5 rfl ?_;refine κ 1 ?_;refine nkN J ?_;cases h;exact rtA
 rw[if_neg hc4] at h;have t7:=eq_false hc4;refine rgW [2,3,5,35] t7 ?_;refine zR rfl (fun hc8=>?_) (fun hc8=>?_)
 · rw[if_pos hc8] at h;have t9:=eq_true hc8
   refine rc [5,9] fun K J=>?_
   obtain⟨r10,hr10,h⟩:=yb h;refine rnW 4 t9 ?_;refine clN rfl rfl rfl ((zP.ok hr10).c _) ?_;refine rnW 6 @ze.eq_1 ?_;refine nkN J ?_
   refine rc [4] fun K J=>?_
   refine κ 2 ?_;refine cut (b:=((decide (1≤a1.fLabel))&&(decide (a1.fLabel≤3)))) (hb:=boolP_eq _) 2 46 48 [] (((decide (1≤a1.fLabel))&&(decide (a1.fLabel≤3)))&&r10.2) (aI t7 t9) rfl ?_;refine κ 1 ?_;refine nkN J ?_;cases h;exact rtA
 rw[if_neg hc8] at h;have t11:=eq_false hc8;apply zg;apply hZ3
 refine rc [4] fun K J=>?_
 refine rnW 2 t11 ?_;refine cut (b:=((decide (1≤a1.fLabel))&&(decide (a1.fLabel≤3)))) (hb:=boolP_eq _) 5 50 55 [3] (((decide (1≤a1.fLabel))&&(decide (a1.fLabel≤3)))&&(decide (1≤a1.fType.fKind))) (aI t7 t11) rfl ?_;refine κ 1 ?_;refine yv 8 (fun L τ=>L=[(3,.op 1 0 0),(64,.bool ((((decide (1≤a1.fLabel))&&(decide (a1.fLabel≤3)))&&(decide (1≤a1.fType.fKind)))&&(decide (a1.fType.fName=[]))))]∧τ=([.cells 0 (zd a0),.cells 0 (z7 a1)]:zf)) ?_ ?_
 · refine xm (b:=(((decide (1≤a1.fLabel))&&(decide (a1.fLabel≤3)))&&(decide (1≤a1.fType.fKind)))) 56 rfl (fun hg56=>?_) (fun hg56=>?_)
   · refine xO U 8 ?_;simp only[go_sem,qd,qg,qc,qe,evEqA,vaH,ceq];refine zl ⟨rfl,_,_,⟨rfl,rfl⟩,.b hg56⟩
   refine κ 8 ?_;refine zl ⟨rfl,_,_,⟨rfl,rfl⟩,.b hg56⟩
 rintro _ _ ⟨rfl,rfl⟩;refine κ 1 ?_;refine cut (b:=((((decide (1≤a1.fLabel))&&(decide (a1.fLabel≤3)))&&(decide (1≤a1.fType.fKind)))&&(decide (a1.fType.fName=[])))) (hb:=boolP_eq _) 5 65 70 [] (((((decide (1≤a1.fLabel))&&(decide (a1.fLabel≤3)))&&(decide (1≤a1.fType.fKind)))&&(decide (a1.fType.fName=[])))&&(decide (a1.fType.fKind<6))) (aI @wd.eq_1 (aI t7 t11)) rfl ?_;refine κ 1 ?_;refine nkN J ?_;cases h;exact rtA
def yn.l21 (a0:zm)(r2:Bool×List (List UInt8×Bool)):List yY→Int→List (Int×Bool)→List (List UInt8×Bool)→Option (Int×List (List UInt8×Bool))
 |[],x17,l15,l16=>some (0,r2.2)
 |y21::q21,x17,l15,l16=>(xe l16 y21.fName).bind fun r28=>(if (!r28.1)=true then some (6,r2.2) else bnd (XC y21.fTag) fun r30=>(if ((!r30)||((vax l15 y21.fTag).getD false))=true then some (7,r2.2) else bnd (Z0 a0 y21) fun r33=>(if (!r33)=true then some (8,r2.2) else ((yn.l21 a0 r2 q21) (x17+1) (vcY l15 y21.fTag true) r28.2))))
def yn.l12 (a0:zm)(a2:zz)(r2:Bool×List (List UInt8×Bool)):List Int→Int→List (Int×Bool)→Option (Int×List (List UInt8×Bool))
 |[],x9,l8=>(yn.l21 a0 r2 a2.fFields 0 l8 [])
 |y12::q12,x9,l8=>bnd (XC y12) fun r41=>(if ((!r41)||((vax l8 y12).getD false))=true then some (7,r2.2) else ((yn.l12 a0 a2 r2 q12) (x9+1) (vcY l8 y12 true)))
def yn (a0:zm)(a1:List (List UInt8×Bool))(a2:zz):Option (Int×List (List UInt8×Bool)):=
 (xe a1 a2.fName).bind fun r2=>(if (!r2.1)=true then some (6,r2.2) else (if ((decide (16<(qa a2.fFields:Int)))||(decide (32<(qa a2.fReserved:Int))))=true then some (4,r2.2) else (yn.l12 a0 a2 r2 a2.fReserved 0 [])))
theorem yn.ok {a0 a1 a2 r}(h:yn a0 a1 a2=some r):ACalls qf 126 [.agg (zd a0),.mp 0,.agg (ze a2)] [.map (xp AV.str AV.bool a1)] (fun r' σ'=>r'=.int .i64 r.1∧σ'=[.map (xp AV.str AV.bool r.2)]):=by
 refine ZH [0] (rs:=[.tmp 6]) U Tryz.func126 rfl Tryz.ntmps126 rfl Tryz.call126 (by simp) rfl ?_;refine zu [(0,.agg (zd a0)),(1,.mp 0),(2,.agg (ze a2))] ⟨rfl,rfl,rfl,trivial⟩ ?_;unfold yn at h;refine rgW [1,3,5] (aI @ze.eq_1 @zd.eq_1) ?_
 refine za fun Z1 hZ1=>?_
 apply zj
 refine rc [3,5,13] fun K J=>?_
 obtain⟨r2,hr2,h⟩:=bind_some h;refine κ 3 ?_;refine clN rfl rfl rfl (@id (ACalls qf 128 [.mp 0,.str a2.fName] [.map (xp AV.str AV.bool a1),.cells 0 (zd a0),.cells 0 (ze a2)] (fun r' σ'=>r'=.bool r2.1∧σ'=[.map (xp AV.str AV.bool r2.2),.cells 0 (zd a0),.cells 0 (ze a2)])) ((xe.ok hr2).i [0])) ?_;refine κ 2 ?_;refine nkN J ?_;refine zB (b:=(!r2.1)) rfl (fun hc3=>?_) (fun hc3=>?_)
 · rw[if_pos hc3] at h;refine O [6] ?_;apply yE;cases h;simp only[Yk,xg,xw,wu,exists_eq_left',go_sem,qe];refine⟨by decide,by simp,?_,?_⟩
   · first|rfl|(simp only[go_sem,qd,qg,qc,qe,qj,qr,reduceIte,reduceCtorEq,push_cast,if_true,qw,ql,qy,qq,qE,qv,qM,qI,qz,qu,qn,zL]<;>rfl)
   first|rfl|(simp only[go_sem,push_cast,qq]<;>rfl)
 rw[wn hc3] at h
 refine rc [3,5,19] fun K J=>?_
 refine κ 5 ?_;refine cut 5 24 29 [3,5] ((decide (16<(qa a2.fFields:Int)))||(decide (32<(qa a2.fReserved:Int)))) qF rfl ?_;refine κ 1 ?_;refine nkN J ?_;refine zB (b:=((decide (16<(qa a2.fFields:Int)))||(decide (32<(qa a2.fReserved:Int))))) rfl (fun hc6=>?_) (fun hc6=>?_)
 · rw[if_pos hc6] at h;refine O [6] ?_;apply yE;cases h;simp only[Yk,xg,xw,wu,exists_eq_left',go_sem,qe];refine⟨by decide,by simp,?_,?_⟩
   · first|rfl|(simp only[go_sem,qd,qg,qc,qe,qj,qr,reduceIte,reduceCtorEq,push_cast,if_true,qw,ql,qy,qq,qE,qv,qM,qI,qz,qu,qn,zL]<;>rfl)
   first|rfl|(simp only[go_sem,push_cast,qq]<;>rfl)
 rw[wn hc6] at h;apply zg;apply hZ1;refine O [3,5,7] ?_;refine XS 3 rfl (τ:=[.map (xp AV.str AV.bool r2.2),.cells 0 (zd a0),.cells 0 (ze a2),.map (xp (AV.int .i64) AV.bool [])]) rfl ?_;refine yX (L:=[(3,.op 1 0 0),(5,.op 2 0 0),(7,.mp 3)]) (τ:=[.map (xp AV.str AV.bool r2.2),.cells 0 (zd a0),.cells 0 (ze a2),.map (xp (AV.int .i64) AV.bool [])]) .s ?_
 refine za fun Z7 hZ7=>?_
 refine O [3,5,7,32,33,34] ?_;apply zj
 refine xq 32 fun hb12=>?_
 replace hb12:qa a2.fReserved≤9223372036854775807:=hb12.1;refine zG (fun m L τ=>∃ (p12 q12:List Int) (x9:Int) (l8:List (Int×Bool)),m=qa q12∧L=[(3,.op 1 0 0),(5,.op 2 0 0),(7,.mp 3),(32,.ds true (qb ZC a2.fReserved) (qa a2.fReserved) false),(33,.int .i64 (qa a2.fReserved:Int)),(34,.int .i64 x9)]∧τ=([.map (xp AV.str AV.bool r2.2),.cells 0 (zd a0),.cells 0 (ze a2),.map (xp (AV.int .i64) AV.bool l8)]:zf)∧a2.fReserved=p12++q12∧x9=(qa p12:Int)∧yn.l12 a0 a2 r2 q12 x9 l8=some r) _ ⟨[],a2.fReserved,0,[],rfl,rfl,rfl,rfl,rfl,h⟩ .s ?_;rintro m L τ ⟨p12,q12,x9,l8,rfl,rfl,rfl,hE12,hi12,h⟩
 rcases q12 with _|⟨y12,q12⟩
 · have hz12:=yH hE12 hi12;simp only[yn.l12] at h;refine rgW [3,5,7,32,33,34,35] hz12 ?_
   refine za fun Z13 hZ13=>?_
   refine zD rfl ?_;apply zJ;apply hZ7;refine O [3,5,7,10] ?_;refine XS 4 rfl (τ:=[.map (xp AV.str AV.bool r2.2),.cells 0 (zd a0),.cells 0 (ze a2),.map (xp (AV.int .i64) AV.bool l8),.map (xp AV.str AV.bool [])]) rfl ?_;refine yX (L:=[(3,.op 1 0 0),(5,.op 2 0 0),(7,.mp 3),(10,.mp 4)]) (τ:=[.map (xp AV.str AV.bool r2.2),.cells 0 (zd a0),.cells 0 (ze a2),.map (xp (AV.int .i64) AV.bool l8),.map (xp AV.str AV.bool [])]) .s ?_
   refine za fun Z14 hZ14=>?_
   refine O [3,7,10,51,52,53] ?_;apply zj
   refine xq 51 fun hb21=>?_
   replace hb21:qa a2.fFields≤9223372036854775807:=hb21.1;refine zG (fun m L τ=>∃ (p21 q21:List yY) (x17:Int) (l15:List (Int×Bool)) (l16:List (List UInt8×Bool)),m=qa q21∧L=[(3,.op 1 0 0),(7,.mp 2),(10,.mp 3),(51,.ds true (qb z7 a2.fFields) (qa a2.fFields) false),(52,.int .i64 (qa a2.fFields:Int)),(53,.int .i64 x17)]∧τ=([.map (xp AV.str AV.bool r2.2),.cells 0 (zd a0),.map (xp (AV.int .i64) AV.bool l15),.map (xp AV.str AV.bool l16)]:zf)∧a2.fFields=p21++q21∧x17=(qa p21:Int)∧yn.l21 a0 r2 q21 x17 l15 l16=some r) _ ⟨[],a2.fFields,0,l8,[],rfl,rfl,rfl,rfl,rfl,h⟩ (.t [0,1,3,4] false) ?_;rintro m L τ ⟨p21,q21,x17,l15,l16,rfl,rfl,rfl,hE21,hi21,h⟩
   rcases q21 with _|⟨y21,q21⟩
   · have hz21:=yH hE21 hi21;simp only[yn.l21] at h;refine rgW [3,7,10,51,52,53,54] hz21 ?_
     refine za fun Z22 hZ22=>?_
     refine zD rfl ?_;apply zJ;apply hZ14;refine O [6] ?_;apply yE;cases h;simp only[Yk,xg,xw,wu,exists_eq_left',go_sem,qe];refine⟨by decide,by simp,?_,?_⟩
     · first|rfl|(simp only[go_sem,qd,qg,qc,qe,qj,qr,reduceIte,reduceCtorEq,push_cast,if_true,qw,ql,qy,qq,qE,qv,qM,qI,qz,qu,qn,zL]<;>rfl)
     first|rfl|(simp only[go_sem,push_cast,qq]<;>rfl)
   obtain⟨hz21,hw21,hx21,hE'21,hi'21⟩:=yo hE21 hi21 hb21;simp only[yn.l21] at h;refine rgW [3,7,10,51,52,53,54] hz21 ?_
   refine za fun Z23 hZ23=>?_
   refine zE rfl ?_;apply zg;apply hZ23
   refine za fun Z24 hZ24=>?_
   apply zj;have f25:=E127.idxS hx21;have f26:=E127.loadS rfl rfl hx21;refine rgW [3,7,10,12,51,52,53] (aI @z7.eq_1 (aI f25 f26)) ?_
   refine za fun Z27 hZ27=>?_
   apply zj
   refine rc [3,7,10,12,51,52,53,57] fun K J=>?_
   obtain⟨r28,hr28,h⟩:=bind_some h;refine κ 3 ?_;refine clN rfl rfl rfl (@id (ACalls qf 128 [.mp 3,.str y21.fName] [.map (xp AV.str AV.bool r2.2),.cells 0 (zd a0),.map (xp (AV.int .i64) AV.bool l15),.map (xp AV.str AV.bool l16),.cells 0 (z7 y21)] (fun r' σ'=>r'=.bool r28.1∧σ'=[.map (xp AV.str AV.bool r2.2),.cells 0 (zd a0),.map (xp (AV.int .i64) AV.bool l15),.map (xp AV.str AV.bool r28.2),.cells 0 (z7 y21)])) ((xe.ok hr28).i [3])) ?_;refine κ 2 ?_;refine nkN J ?_;refine zB (b:=(!r28.1)) rfl (fun hc29=>?_) (fun hc29=>?_)
   · rw[if_pos hc29] at h;refine O [6] ?_;apply yE;cases h;simp only[Yk,xg,xw,wu,exists_eq_left',go_sem,qe];refine⟨by decide,by simp,?_,?_⟩
     · first|rfl|(simp only[go_sem,qd,qg,qc,qe,qj,qr,reduceIte,reduceCtorEq,push_cast,if_true,qw,ql,qy,qq,qE,qv,qM,qI,qz,qu,qn,zL]<;>rfl)
     first|rfl|(simp only[go_sem,push_cast,qq]<;>rfl)
   rw[wn hc29] at h
   refine rc [3,7,10,12,51,52,53,63] fun K J=>?_
   obtain⟨r30,hr30,h⟩:=yb h;refine κ 2 ?_;refine clN rfl rfl rfl ((XC.ok hr30).c _) ?_;refine κ 2 ?_;refine yv 5 (fun L τ=>L=[(3,.op 1 0 0),(7,.mp 2),(10,.mp 3),(12,.op 4 0 0),(51,.ds true (qb z7 a2.fFields) (qa a2.fFields) false),(52,.int .i64 (qa a2.fFields:Int)),(53,.int .i64 x17),(73,.bool ((!r30)||((vax l15 y21.fTag).getD false)))]∧τ=([.map (xp AV.str AV.bool r2.2),.cells 0 (zd a0),.map (xp (AV.int .i64) AV.bool l15),.map (xp AV.str AV.bool r28.2),.cells 0 (z7 y21)]:zf)) ?_ ?_
   · refine xm (b:=(!r30)) 68 rfl (fun hg68=>?_) (fun hg68=>?_)
     · refine xO U 5 ?_;simp only[go_sem,qd,qc,if_false,if_true];refine zl ⟨rfl,_,_,⟨rfl,rfl⟩,.b hg68⟩
     have f31:=fun (o0:Y3) (o1:Y3) (x:zf)=>vbe (T:=tab) (t:=265) (ek:=(AV.int .i64)) (ev:=AV.bool) (z:=false) (veh.int rfl rfl rfl rfl) rfl rfl rfl rfl l15 y21.fTag false (o0::o1::.map (xp (AV.int .i64) AV.bool l15)::x) 2 rfl
     refine xO U 5 ?_;simp only[go_sem,qd,qc,qe,vaT,qU,if_false,if_true,f31];refine zl ⟨rfl,_,_,⟨rfl,rfl⟩,.b hg68⟩
   rintro _ _ ⟨rfl,rfl⟩;refine κ 1 ?_;refine nkN J ?_;refine zB (b:=((!r30)||((vax l15 y21.fTag).getD false))) rfl (fun hc32=>?_) (fun hc32=>?_)
   · rw[if_pos hc32] at h;refine O [6] ?_;apply yE;cases h;simp only[Yk,xg,xw,wu,exists_eq_left',go_sem,qe];refine⟨by decide,by simp,?_,?_⟩
     · first|rfl|(simp only[go_sem,qd,qg,qc,qe,qj,qr,reduceIte,reduceCtorEq,push_cast,if_true,qw,ql,qy,qq,qE,qv,qM,qI,qz,qu,qn,zL]<;>rfl)
     first|rfl|(simp only[go_sem,push_cast,qq]<;>rfl)
   rw[wn hc32] at h
   refine rc [3,7,10,12,51,52,53,74] fun K J=>?_
   obtain⟨r33,hr33,h⟩:=yb h;refine κ 2 ?_;refine clN rfl rfl rfl ((Z0.ok hr33).c _) ?_;refine κ 2 ?_;refine nkN J ?_;refine zB (b:=(!r33)) rfl (fun hc34=>?_) (fun hc34=>?_)
   · rw[if_pos hc34] at h;refine O [6] ?_;apply yE;cases h;simp only[Yk,xg,xw,wu,exists_eq_left',go_sem,qe];refine⟨by decide,by simp,?_,?_⟩
     · first|rfl|(simp only[go_sem,qd,qg,qc,qe,qj,qr,reduceIte,reduceCtorEq,push_cast,if_true,qw,ql,qy,qq,qE,qv,qM,qI,qz,qu,qn,zL]<;>rfl)
     first|rfl|(simp only[go_sem,push_cast,qq]<;>rfl)
   rw[wn hc34] at h;apply zg;apply hZ27
   have f35:=fun (o0:Y3) (o1:Y3) (x:zf)=>vcq (T:=tab) (t:=265) (ek:=(AV.int .i64)) (ev:=AV.bool) (veh.int rfl rfl rfl rfl) rfl rfl l15 y21.fTag true (o0::o1::.map (xp (AV.int .i64) AV.bool l15)::x) 2 rfl
   refine rgE U [3,7,10,51,52,53] fun K J=>?_
   simp only[go_sem,qd,qc,qe,f35];apply J
   apply hZ24
   refine rgE U [3,7,10,51,52,53] fun K J=>?_
   simp only[go_sem,qd,qc,hw21];apply J
   exact⟨_,_,_,qo q21.length,⟨p21++[y21],q21,x17+1,vcY l15 y21.fTag true,r28.2,rfl,rfl,rfl,hE'21,hi'21,h⟩,(.t [0,1,2,3] false)⟩
 obtain⟨hz12,hw12,hx12,hE'12,hi'12⟩:=yo hE12 hi12 hb12;simp only[yn.l12] at h;refine rgW [3,5,7,32,33,34,35] hz12 ?_
 refine za fun Z36 hZ36=>?_
 refine zE rfl ?_;apply zg;apply hZ36
 refine za fun Z37 hZ37=>?_
 apply zj;have f38:=E26.idxS hx12;have f39:=E26.fldS0 (f:=3) rfl rfl hx12
 refine rg U [3,5,7,9,32,33,34] fun K J=>?_
 simp only[go_sem,qd,qc,ZC,f38,f39];apply J
 refine za fun Z40 hZ40=>?_
 refine rc [3,5,7,9,32,33,34,45] fun K J=>?_
 obtain⟨r41,hr41,h⟩:=yb h;refine κ 1 ?_;refine clN rfl rfl rfl ((XC.ok hr41).c _) ?_;refine κ 2 ?_;refine yv 4 (fun L τ=>L=[(3,.op 1 0 0),(5,.op 2 0 0),(7,.mp 3),(9,.int .i64 y12),(32,.ds true (qb ZC a2.fReserved) (qa a2.fReserved) false),(33,.int .i64 (qa a2.fReserved:Int)),(34,.int .i64 x9),(45,.bool ((!r41)||((vax l8 y12).getD false)))]∧τ=([.map (xp AV.str AV.bool r2.2),.cells 0 (zd a0),.cells 0 (ze a2),.map (xp (AV.int .i64) AV.bool l8)]:zf)) ?_ ?_
 · refine xm (b:=(!r41)) 41 rfl (fun hg41=>?_) (fun hg41=>?_)
   · refine xO U 4 ?_;simp only[go_sem,qd,qc,if_false,if_true];refine zl ⟨rfl,_,_,⟨rfl,rfl⟩,.b hg41⟩
   have f42:=fun (o0:Y3) (o1:Y3) (o2:Y3) (x:zf)=>vbe (T:=tab) (t:=265) (ek:=(AV.int .i64)) (ev:=AV.bool) (z:=false) (veh.int rfl rfl rfl rfl) rfl rfl rfl rfl l8 y12 false (o0::o1::o2::.map (xp (AV.int .i64) AV.bool l8)::x) 3 rfl
   refine xO U 4 ?_;simp only[go_sem,qd,qc,vaT,qU,if_false,if_true,f42];refine zl ⟨rfl,_,_,⟨rfl,rfl⟩,.b hg41⟩
 rintro _ _ ⟨rfl,rfl⟩;refine nkN J ?_;refine zB (b:=((!r41)||((vax l8 y12).getD false))) rfl (fun hc43=>?_) (fun hc43=>?_)
 · rw[if_pos hc43] at h;refine O [6] ?_;apply yE;cases h;simp only[Yk,xg,xw,wu,exists_eq_left',go_sem,qe];refine⟨by decide,by simp,?_,?_⟩
   · first|rfl|(simp only[go_sem,qd,qg,qc,qe,qj,qr,reduceIte,reduceCtorEq,push_cast,if_true,qw,ql,qy,qq,qE,qv,qM,qI,qz,qu,qn,zL]<;>rfl)
   first|rfl|(simp only[go_sem,push_cast,qq]<;>rfl)
 rw[wn hc43] at h;apply zg;apply hZ40
 have f44:=fun (o0:Y3) (o1:Y3) (o2:Y3) (x:zf)=>vcq (T:=tab) (t:=265) (ek:=(AV.int .i64)) (ev:=AV.bool) (veh.int rfl rfl rfl rfl) rfl rfl l8 y12 true (o0::o1::o2::.map (xp (AV.int .i64) AV.bool l8)::x) 3 rfl
 refine rgE U [3,5,7,32,33,34] fun K J=>?_
 simp only[go_sem,qd,qc,f44];apply J
 apply hZ37
 refine rgE U [3,5,7,32,33,34] fun K J=>?_
 simp only[go_sem,qd,qc,hw12];apply J
 exact⟨_,_,_,qo q12.length,⟨p12++[y12],q12,x9+1,vcY l8 y12 true,rfl,rfl,rfl,hE'12,hi'12,h⟩,.s⟩
end
section
set_option maxRecDepth 4000
set_option maxHeartbeats 1000000
open AM
def xx.l23 (r2:Bool×List (List UInt8×Bool)):List Zx→Int→List (List UInt8×Bool)→List (Int×Bool)→Option (Int×List (List UInt8×Bool))
 |[],x19,l17,l18=>some (0,r2.2)
 |y23::q23,x19,l17,l18=>(xe l17 y23.fName).bind fun r30=>(if (!r30.1)=true then some (6,r2.2) else (if (((decide (y23.fN<0))||(decide (2147483647<y23.fN)))||((vax l18 y23.fN).getD false))=true then some (11,r2.2) else ((xx.l23 r2 q23) (x19+1) r30.2 (vcY l18 y23.fN true))))
def xx.l12 (a1:zT)(r2:Bool×List (List UInt8×Bool)):List Zx→Int→Bool→Option (Int×List (List UInt8×Bool))
 |[],x9,x8=>(if (!x8)=true then some (12,r2.2) else (xx.l23 r2 a1.fValues 0 [] []))
 |y12::q12,x9,x8=>((xx.l12 a1 r2 q12) (x9+1) (x8||(decide (y12.fN=0))))
def xx (a0:List (List UInt8×Bool))(a1:zT):Option (Int×List (List UInt8×Bool)):=
 (xe a0 a1.fName).bind fun r2=>(if (!r2.1)=true then some (6,r2.2) else (if 16<(qa a1.fValues:Int) then some (4,r2.2) else (xx.l12 a1 r2 a1.fValues 0 false)))
theorem xx.ok {a0 a1 r}(h:xx a0 a1=some r):ACalls qf 127 [.mp 0,.agg (zh a1)] [.map (xp AV.str AV.bool a0)] (fun r' σ'=>r'=.int .i64 r.1∧σ'=[.map (xp AV.str AV.bool r.2)]):=by
 refine ZH [0] (rs:=[.tmp 4]) U Tryz.func127 rfl Tryz.ntmps127 rfl Tryz.call127 (by simp) rfl ?_;refine zu [(0,.mp 0),(1,.agg (zh a1))] ⟨rfl,rfl,trivial⟩ ?_;unfold xx at h;refine rgW [0,3] @zh.eq_1 ?_
 refine za fun Z1 hZ1=>?_
 apply zj
 refine rc [3,12] fun K J=>?_
 obtain⟨r2,hr2,h⟩:=bind_some h;refine κ 3 ?_;refine clN rfl rfl rfl (@id (ACalls qf 128 [.mp 0,.str a1.fName] [.map (xp AV.str AV.bool a0),.cells 0 (zh a1)] (fun r' σ'=>r'=.bool r2.1∧σ'=[.map (xp AV.str AV.bool r2.2),.cells 0 (zh a1)])) ((xe.ok hr2).i [0])) ?_;refine κ 2 ?_;refine nkN J ?_;refine zB (b:=(!r2.1)) rfl (fun hc3=>?_) (fun hc3=>?_)
 · rw[if_pos hc3] at h;refine O [4] ?_;apply yE;cases h;simp only[Yk,xg,xw,wu,exists_eq_left',go_sem,qe];refine⟨by decide,by simp,?_,?_⟩
   · first|rfl|(simp only[go_sem,qd,qg,qc,qe,qj,qr,reduceIte,reduceCtorEq,push_cast,if_true,qw,ql,qy,qq,qE,qv,qM,qI,qz,qu,qn,zL]<;>rfl)
   first|rfl|(simp only[go_sem,push_cast,qq]<;>rfl)
 rw[wn hc3] at h;refine O [3,18] ?_;refine zR rfl (fun hc4=>?_) (fun hc4=>?_)
 · rw[if_pos hc4] at h;have t5:=eq_true hc4;refine rgW [4] t5 ?_;apply yE;cases h;simp only[Yk,xg,xw,wu,exists_eq_left',go_sem,qe];refine⟨by decide,by simp,?_,?_⟩
   · first|rfl|(simp only[go_sem,qd,qg,qc,qe,qj,qr,reduceIte,reduceCtorEq,push_cast,if_true,qw,ql,qy,qq,qE,qv,qM,qI,qz,qu,qn,zL]<;>rfl)
   first|rfl|(simp only[go_sem,push_cast,qq]<;>rfl)
 rw[if_neg hc4] at h;have t6:=eq_false hc4;apply zg;apply hZ1;refine rgW [3,5] t6 ?_
 refine za fun Z7 hZ7=>?_
 refine O [3,5,24,25,26] ?_;apply zj
 refine xq 24 fun hb12=>?_
 replace hb12:qa a1.fValues≤9223372036854775807:=hb12.1;refine zG (fun m L τ=>∃ (p12 q12:List Zx) (x9:Int) (x8:Bool),m=qa q12∧L=[(3,.op 1 0 0),(5,.bool x8),(24,.ds true (qb wS a1.fValues) (qa a1.fValues) false),(25,.int .i64 (qa a1.fValues:Int)),(26,.int .i64 x9)]∧τ=([.map (xp AV.str AV.bool r2.2),.cells 0 (zh a1)]:zf)∧a1.fValues=p12++q12∧x9=(qa p12:Int)∧xx.l12 a1 r2 q12 x9 x8=some r) _ ⟨[],a1.fValues,0,false,rfl,rfl,rfl,rfl,rfl,h⟩ .s ?_;rintro m L τ ⟨p12,q12,x9,x8,rfl,rfl,rfl,hE12,hi12,h⟩
 rcases q12 with _|⟨y12,q12⟩
 · have hz12:=yH hE12 hi12;simp only[xx.l12] at h;refine rgW [3,5,24,25,26,27] hz12 ?_
   refine za fun Z13 hZ13=>?_
   refine zD rfl ?_;apply zJ;apply hZ7
   refine za fun Z14 hZ14=>?_
   refine O [3,38] ?_;refine zB (b:=(!x8)) rfl (fun hc15=>?_) (fun hc15=>?_)
   · rw[if_pos hc15] at h;refine O [4] ?_;apply yE;cases h;simp only[Yk,xg,xw,wu,exists_eq_left',go_sem,qe];refine⟨by decide,by simp,?_,?_⟩
     · first|rfl|(simp only[go_sem,qd,qg,qc,qe,qj,qr,reduceIte,reduceCtorEq,push_cast,if_true,qw,ql,qy,qq,qE,qv,qM,qI,qz,qu,qn,zL]<;>rfl)
     first|rfl|(simp only[go_sem,push_cast,qq]<;>rfl)
   rw[wn hc15] at h;apply zg;apply hZ14;refine O [3,8,9] ?_;refine XS 2 rfl rfl ?_;refine XS 3 rfl (τ:=[.map (xp AV.str AV.bool r2.2),.cells 0 (zh a1),.map (xp AV.str AV.bool []),.map (xp (AV.int .i64) AV.bool [])]) rfl ?_;refine yX (L:=[(3,.op 1 0 0),(8,.mp 2),(9,.mp 3)]) (τ:=[.map (xp AV.str AV.bool r2.2),.cells 0 (zh a1),.map (xp AV.str AV.bool []),.map (xp (AV.int .i64) AV.bool [])]) .s ?_
   refine za fun Z16 hZ16=>?_
   refine O [8,9,42,43,44] ?_;apply zj
   refine xq 42 fun hb23=>?_
   replace hb23:qa a1.fValues≤9223372036854775807:=hb23.1;refine zG (fun m L τ=>∃ (p23 q23:List Zx) (x19:Int) (l17:List (List UInt8×Bool)) (l18:List (Int×Bool)),m=qa q23∧L=[(8,.mp 1),(9,.mp 2),(42,.ds true (qb wS a1.fValues) (qa a1.fValues) false),(43,.int .i64 (qa a1.fValues:Int)),(44,.int .i64 x19)]∧τ=([.map (xp AV.str AV.bool r2.2),.map (xp AV.str AV.bool l17),.map (xp (AV.int .i64) AV.bool l18)]:zf)∧a1.fValues=p23++q23∧x19=(qa p23:Int)∧xx.l23 r2 q23 x19 l17 l18=some r) _ ⟨[],a1.fValues,0,[],[],rfl,rfl,rfl,rfl,rfl,h⟩ (.t [0,2,3] false) ?_;rintro m L τ ⟨p23,q23,x19,l17,l18,rfl,rfl,rfl,hE23,hi23,h⟩
   rcases q23 with _|⟨y23,q23⟩
   · have hz23:=yH hE23 hi23;simp only[xx.l23] at h;refine rgW [8,9,42,43,44,45] hz23 ?_
     refine za fun Z24 hZ24=>?_
     refine zD rfl ?_;apply zJ;apply hZ16;refine O [4] ?_;apply yE;cases h;simp only[Yk,xg,xw,wu,exists_eq_left',go_sem,qe];refine⟨by decide,by simp,?_,?_⟩
     · first|rfl|(simp only[go_sem,qd,qg,qc,qe,qj,qr,reduceIte,reduceCtorEq,push_cast,if_true,qw,ql,qy,qq,qE,qv,qM,qI,qz,qu,qn,zL]<;>rfl)
     first|rfl|(simp only[go_sem,push_cast,qq]<;>rfl)
   obtain⟨hz23,hw23,hx23,hE'23,hi'23⟩:=yo hE23 hi23 hb23;simp only[xx.l23] at h;refine rgW [8,9,42,43,44,45] hz23 ?_
   refine za fun Z25 hZ25=>?_
   refine zE rfl ?_;apply zg;apply hZ25
   refine za fun Z26 hZ26=>?_
   apply zj;have f27:=E140.idxS hx23;have f28:=E140.loadS rfl rfl hx23;refine rgW [8,9,11,42,43,44] (aI @wS.eq_1 (aI f27 f28)) ?_
   refine za fun Z29 hZ29=>?_
   apply zj
   refine rc [8,9,11,42,43,44,48] fun K J=>?_
   obtain⟨r30,hr30,h⟩:=bind_some h;refine κ 3 ?_;refine clN rfl rfl rfl (@id (ACalls qf 128 [.mp 1,.str y23.fName] [.map (xp AV.str AV.bool r2.2),.map (xp AV.str AV.bool l17),.map (xp (AV.int .i64) AV.bool l18),.cells 0 [.str y23.fName,.int .i64 y23.fN]] (fun r' σ'=>r'=.bool r30.1∧σ'=[.map (xp AV.str AV.bool r2.2),.map (xp AV.str AV.bool r30.2),.map (xp (AV.int .i64) AV.bool l18),.cells 0 [.str y23.fName,.int .i64 y23.fN]])) ((xe.ok hr30).i [1])) ?_;refine κ 2 ?_;refine nkN J ?_;refine zB (b:=(!r30.1)) rfl (fun hc31=>?_) (fun hc31=>?_)
   · rw[if_pos hc31] at h;refine O [4] ?_;apply yE;cases h;simp only[Yk,xg,xw,wu,exists_eq_left',go_sem,qe];refine⟨by decide,by simp,?_,?_⟩
     · first|rfl|(simp only[go_sem,qd,qg,qc,qe,qj,qr,reduceIte,reduceCtorEq,push_cast,if_true,qw,ql,qy,qq,qE,qv,qM,qI,qz,qu,qn,zL]<;>rfl)
     first|rfl|(simp only[go_sem,push_cast,qq]<;>rfl)
   rw[wn hc31] at h
   refine rc [8,9,11,42,43,44,54] fun K J=>?_
   refine κ 4 ?_;refine cut 4 58 62 [8,9,42,11,44,43] ((decide (y23.fN<0))||(decide (2147483647<y23.fN))) (aI t6 (aI hz12 (aI hz23 hw23))) rfl ?_;refine κ 1 ?_;refine yv 5 (fun L τ=>L=[(8,.mp 1),(9,.mp 2),(11,.op 3 0 0),(42,.ds true (qb wS a1.fValues) (qa a1.fValues) false),(43,.int .i64 (qa a1.fValues:Int)),(44,.int .i64 x19),(68,.bool (((decide (y23.fN<0))||(decide (2147483647<y23.fN)))||((vax l18 y23.fN).getD false)))]∧τ=([.map (xp AV.str AV.bool r2.2),.map (xp AV.str AV.bool r30.2),.map (xp (AV.int .i64) AV.bool l18),.cells 0 [.str y23.fName,.int .i64 y23.fN]]:zf)) ?_ ?_
   · refine xm (b:=((decide (y23.fN<0))||(decide (2147483647<y23.fN)))) 63 rfl (fun hg63=>?_) (fun hg63=>?_)
     · refine xO U 5 ?_;simp only[go_sem,qd,qc,if_false,if_true];refine zl ⟨rfl,_,_,⟨rfl,rfl⟩,.b hg63⟩
     have f34:=fun (o0:Y3) (o1:Y3) (x:zf)=>vbe (T:=tab) (t:=265) (ek:=(AV.int .i64)) (ev:=AV.bool) (z:=false) (veh.int rfl rfl rfl rfl) rfl rfl rfl rfl l18 y23.fN false (o0::o1::.map (xp (AV.int .i64) AV.bool l18)::x) 2 rfl
     refine xO U 5 ?_;simp only[go_sem,qd,qc,qe,vaT,qU,if_false,if_true,f34];refine zl ⟨rfl,_,_,⟨rfl,rfl⟩,.b hg63⟩
   rintro _ _ ⟨rfl,rfl⟩;refine κ 1 ?_;refine nkN J ?_;refine zB (b:=(((decide (y23.fN<0))||(decide (2147483647<y23.fN)))||((vax l18 y23.fN).getD false))) rfl (fun hc35=>?_) (fun hc35=>?_)
   · rw[if_pos hc35] at h;refine O [4] ?_;apply yE;cases h;simp only[Yk,xg,xw,wu,exists_eq_left',go_sem,qe];refine⟨by decide,by simp,?_,?_⟩
     · first|rfl|(simp only[go_sem,qd,qg,qc,qe,qj,qr,reduceIte,reduceCtorEq,push_cast,if_true,qw,ql,qy,qq,qE,qv,qM,qI,qz,qu,qn,zL]<;>rfl)
     first|rfl|(simp only[go_sem,push_cast,qq]<;>rfl)
   rw[wn hc35] at h;apply zg;apply hZ29
   have f36:=fun (o0:Y3) (o1:Y3) (x:zf)=>vcq (T:=tab) (t:=265) (ek:=(AV.int .i64)) (ev:=AV.bool) (veh.int rfl rfl rfl rfl) rfl rfl l18 y23.fN true (o0::o1::.map (xp (AV.int .i64) AV.bool l18)::x) 2 rfl
   refine rgE U [8,9,42,43,44] fun K J=>?_
   simp only[go_sem,qd,qc,qe,f36];apply J
   apply hZ26
   refine rgE U [8,9,42,43,44] fun K J=>?_
   simp only[go_sem,qd,qc,hw23];apply J
   exact⟨_,_,_,qo q23.length,⟨p23++[y23],q23,x19+1,r30.2,vcY l18 y23.fN true,rfl,rfl,rfl,hE'23,hi'23,h⟩,(.t [0,1,2] false)⟩
 obtain⟨hz12,hw12,hx12,hE'12,hi'12⟩:=yo hE12 hi12 hb12;simp only[xx.l12] at h;refine rgW [3,5,24,25,26,27] hz12 ?_
 refine za fun Z37 hZ37=>?_
 refine zE rfl ?_;apply zg;apply hZ37
 refine za fun Z38 hZ38=>?_
 apply zj;have f39:=E140.idxS hx12;have f40:=E140.loadS rfl rfl hx12;refine rgW [3,5,7,24,25,26] (aI @wS.eq_1 (aI f39 f40)) ?_
 refine rcE [3,5,24,25,26] fun K J=>?_
 refine κ 2 ?_;refine cut (b:=x8) (hb:=boolP_eq _) 4 31 35 [3,5,24,25,26] (x8||(decide (y12.fN=0))) (aI t6 (aI hz12 hw12)) rfl ?_;refine κ 1 ?_;refine nkN J ?_;apply hZ38
 refine rgE U [3,5,24,25,26] fun K J=>?_
 simp only[go_sem,qd,qc,hw12];apply J
 exact⟨_,_,_,qo q12.length,⟨p12++[y12],q12,x9+1,(x8||(decide (y12.fN=0))),rfl,rfl,rfl,hE'12,hi'12,h⟩,(.t [0,1] false)⟩
def zZ.l29 (a0:zm):List Zk→Int→List (List UInt8×Bool)→Option Int
 |[],x26,l25=>some 0
 |y29::q29,x26,l25=>bnd (zP a0 y29.fIn) fun r35=>bnd (zP a0 y29.fOut) fun r36=>(xe l25 y29.fName).bind fun r37=>(if (!r37.1)=true then some 6 else (if ((!r35.2)||(!r36.2))=true then some 8 else ((zZ.l29 a0 q29) (x26+1) r37.2)))
def zZ.l22 (a0:zm):List zT→Int→List (List UInt8×Bool)→Option Int
 |[],x19,l18=>(zZ.l29 a0 a0.fMethods 0 [])
 |y22::q22,x19,l18=>(xx l18 y22).bind fun r44=>(if r44.1=0 then ((zZ.l22 a0 q22) (x19+1) r44.2) else some r44.1)
def zZ.l15 (a0:zm):List zz→Int→List (List UInt8×Bool)→Option Int
 |[],x12,l11=>(zZ.l22 a0 a0.fEnums 0 l11)
 |y15::q15,x12,l11=>(yn a0 l11 y15).bind fun r52=>(if r52.1=0 then ((zZ.l15 a0 q15) (x12+1) r52.2) else some r52.1)
def zZ (a0:zm):Option Int:=
 (xQ a0.fName).bind fun r2=>(if (!r2)=true then some 6 else (if (qa a0.fMessages:Int)=0 then some 12 else (if (((decide (10<(qa a0.fMessages:Int)))||(decide (6<(qa a0.fEnums:Int))))||(decide (6<(qa a0.fMethods:Int))))=true then some 4 else (zZ.l15 a0 a0.fMessages 0 []))))
theorem zZ.ok {a0 r}(h:zZ a0=some r):ACalls qf 82 [.agg (zd a0)] [] (fun r' _=>r'=.int .i64 r):=by
 refine zk (rs:=[.tmp 2]) U Tryz.func82 rfl Tryz.ntmps82 rfl Tryz.call82 (by simp) ?_;refine zu [(0,.agg (zd a0))] ⟨rfl,trivial⟩ ?_;unfold zZ at h;refine rgW [1] @zd.eq_1 ?_
 refine za fun Z1 hZ1=>?_
 apply zj
 refine rc [1,17] fun K J=>?_
 obtain⟨r2,hr2,h⟩:=bind_some h;refine κ 2 ?_;refine clN rfl rfl rfl ((xQ.ok hr2).c _) ?_;refine κ 2 ?_;refine nkN J ?_;refine zB (b:=(!r2)) rfl (fun hc3=>?_) (fun hc3=>?_)
 · rw[if_pos hc3] at h;refine O [2] ?_;cases h;exact rtA
 rw[wn hc3] at h;refine O [1,22] ?_;refine zR rfl (fun hc4=>?_) (fun hc4=>?_)
 · rw[if_pos hc4] at h;have t5:=eq_true hc4;refine rgW [2] t5 ?_;cases h;exact rtA
 rw[if_neg hc4] at h;have t6:=eq_false hc4
 refine rc [1,27] fun K J=>?_
 refine rnW 5 t6 ?_;refine cut 5 32 37 [1] ((decide (10<(qa a0.fMessages:Int)))||(decide (6<(qa a0.fEnums:Int)))) t6 rfl ?_;refine κ 1 ?_;refine cut (b:=((decide (10<(qa a0.fMessages:Int)))||(decide (6<(qa a0.fEnums:Int))))) (hb:=boolP_eq _) 5 38 43 [1] (((decide (10<(qa a0.fMessages:Int)))||(decide (6<(qa a0.fEnums:Int))))||(decide (6<(qa a0.fMethods:Int)))) t6 rfl ?_;refine κ 1 ?_;refine nkN J ?_;refine zB (b:=(((decide (10<(qa a0.fMessages:Int)))||(decide (6<(qa a0.fEnums:Int))))||(decide (6<(qa a0.fMethods:Int))))) rfl (fun hc9=>?_) (fun hc9=>?_)
 · rw[if_pos hc9] at h;refine O [2] ?_;cases h;exact rtA
 rw[wn hc9] at h;apply zg;apply hZ1;refine O [1,3] ?_;refine XS 1 rfl (τ:=[.cells 0 (zd a0),.map (xp AV.str AV.bool [])]) rfl ?_;refine yX (L:=[(1,.op 0 0 0),(3,.mp 1)]) (τ:=[.cells 0 (zd a0),.map (xp AV.str AV.bool [])]) .s ?_
 refine za fun Z10 hZ10=>?_
 refine O [1,3,46,47,48] ?_;apply zj
 refine xq 46 fun hb15=>?_
 replace hb15:qa a0.fMessages≤9223372036854775807:=hb15.1;refine zG (fun m L τ=>∃ (p15 q15:List zz) (x12:Int) (l11:List (List UInt8×Bool)),m=qa q15∧L=[(1,.op 0 0 0),(3,.mp 1),(46,.ds true (qb ze a0.fMessages) (qa a0.fMessages) false),(47,.int .i64 (qa a0.fMessages:Int)),(48,.int .i64 x12)]∧τ=([.cells 0 (zd a0),.map (xp AV.str AV.bool l11)]:zf)∧a0.fMessages=p15++q15∧x12=(qa p15:Int)∧zZ.l15 a0 q15 x12 l11=some r) _ ⟨[],a0.fMessages,0,[],rfl,rfl,rfl,rfl,rfl,h⟩ .s ?_;rintro m L τ ⟨p15,q15,x12,l11,rfl,rfl,rfl,hE15,hi15,h⟩
 rcases q15 with _|⟨y15,q15⟩
 · have hz15:=yH hE15 hi15;simp only[zZ.l15] at h;refine rgW [1,3,46,47,48,49] hz15 ?_
   refine za fun Z16 hZ16=>?_
   refine zD rfl ?_;apply zJ;apply hZ10
   refine za fun Z17 hZ17=>?_
   refine O [1,3,61,62,63] ?_;apply zj
   refine xq 61 fun hb22=>?_
   replace hb22:qa a0.fEnums≤9223372036854775807:=hb22.1;refine zG (fun m L τ=>∃ (p22 q22:List zT) (x19:Int) (l18:List (List UInt8×Bool)),m=qa q22∧L=[(1,.op 0 0 0),(3,.mp 1),(61,.ds true (qb zh a0.fEnums) (qa a0.fEnums) false),(62,.int .i64 (qa a0.fEnums:Int)),(63,.int .i64 x19)]∧τ=([.cells 0 (zd a0),.map (xp AV.str AV.bool l18)]:zf)∧a0.fEnums=p22++q22∧x19=(qa p22:Int)∧zZ.l22 a0 q22 x19 l18=some r) _ ⟨[],a0.fEnums,0,l11,rfl,rfl,rfl,rfl,rfl,h⟩ .s ?_;rintro m L τ ⟨p22,q22,x19,l18,rfl,rfl,rfl,hE22,hi22,h⟩
   rcases q22 with _|⟨y22,q22⟩
   · have hz22:=yH hE22 hi22;simp only[zZ.l22] at h;refine rgW [1,3,61,62,63,64] hz22 ?_
     refine za fun Z23 hZ23=>?_
     refine zD rfl ?_;apply zJ;apply hZ17;refine O [1,10] ?_;refine XS 2 rfl (τ:=[.cells 0 (zd a0),.map (xp AV.str AV.bool l18),.map (xp AV.str AV.bool [])]) rfl ?_;refine yX (L:=[(1,.op 0 0 0),(10,.mp 2)]) (τ:=[.cells 0 (zd a0),.map (xp AV.str AV.bool l18),.map (xp AV.str AV.bool [])]) .s ?_
     refine za fun Z24 hZ24=>?_
     refine O [1,10,76,77,78] ?_;apply zj
     refine xq 76 fun hb29=>?_
     replace hb29:qa a0.fMethods≤9223372036854775807:=hb29.1;refine zG (fun m L τ=>∃ (p29 q29:List Zk) (x26:Int) (l25:List (List UInt8×Bool)),m=qa q29∧L=[(1,.op 0 0 0),(10,.mp 1),(76,.ds true (qb zv a0.fMethods) (qa a0.fMethods) false),(77,.int .i64 (qa a0.fMethods:Int)),(78,.int .i64 x26)]∧τ=([.cells 0 (zd a0),.map (xp AV.str AV.bool l25)]:zf)∧a0.fMethods=p29++q29∧x26=(qa p29:Int)∧zZ.l29 a0 q29 x26 l25=some r) _ ⟨[],a0.fMethods,0,[],rfl,rfl,rfl,rfl,rfl,h⟩ (.t [0,2] false) ?_;rintro m L τ ⟨p29,q29,x26,l25,rfl,rfl,rfl,hE29,hi29,h⟩
     rcases q29 with _|⟨y29,q29⟩
     · have hz29:=yH hE29 hi29;simp only[zZ.l29] at h;refine rgW [1,10,76,77,78,79] hz29 ?_
       refine za fun Z30 hZ30=>?_
       refine zD rfl ?_;apply zJ;apply hZ24;refine O [2] ?_;cases h;exact rtA
     obtain⟨hz29,hw29,hx29,hE'29,hi'29⟩:=yo hE29 hi29 hb29;simp only[zZ.l29] at h;refine rgW [1,10,76,77,78,79] hz29 ?_
     refine za fun Z31 hZ31=>?_
     refine zE rfl ?_;apply zg;apply hZ31
     refine za fun Z32 hZ32=>?_
     apply zj;have f33:=E29.idxS hx29;have f34:=E29.loadS rfl rfl hx29;refine rgW [1,10,12,76,77,78] (aI @zv.eq_1 (aI f33 f34)) ?_
     refine rc [1,10,12,14,76,77,78] fun K J=>?_
     obtain⟨r35,hr35,h⟩:=yb h;refine κ 3 ?_;refine clN rfl rfl rfl ((zP.ok hr35).c _) ?_;refine rnW 6 @ze.eq_1 ?_;refine nkN J ?_
     refine rc [1,10,12,14,16,76,77,78] fun K J=>?_
     obtain⟨r36,hr36,h⟩:=yb h;refine κ 3 ?_;refine clN rfl rfl rfl ((zP.ok hr36).c _) ?_;refine rnW 6 @ze.eq_1 ?_;refine nkN J ?_;apply zj
     refine rc [1,10,14,16,76,77,78,96] fun K J=>?_
     obtain⟨r37,hr37,h⟩:=bind_some h;refine κ 3 ?_;refine clN rfl rfl rfl (@id (ACalls qf 128 [.mp 1,.str y29.fName] [.cells 0 (zd a0),.map (xp AV.str AV.bool l25),.cells 0 [.str y29.fName,.str y29.fIn,.str y29.fOut],.cells 0 (ze r35.1),.cells 0 (ze r36.1)] (fun r' σ'=>r'=.bool r37.1∧σ'=[.cells 0 (zd a0),.map (xp AV.str AV.bool r37.2),.cells 0 [.str y29.fName,.str y29.fIn,.str y29.fOut],.cells 0 (ze r35.1),.cells 0 (ze r36.1)])) ((xe.ok hr37).i [1])) ?_;refine κ 2 ?_;refine nkN J ?_;refine zB (b:=(!r37.1)) rfl (fun hc38=>?_) (fun hc38=>?_)
     · rw[if_pos hc38] at h;refine O [2] ?_;cases h;exact rtA
     rw[wn hc38] at h
     refine rc [1,10,76,77,78,102] fun K J=>?_
     refine κ 3 ?_;refine cut (b:=(!r35.2)) (hb:=boolP_eq _) 3 105 108 [1,10,76,77,78] ((!r35.2)||(!r36.2)) (aI t6 (aI hz15 (aI hz22 (aI hz29 hw29)))) rfl ?_;refine κ 1 ?_;refine nkN J ?_;refine zB (b:=((!r35.2)||(!r36.2))) rfl (fun hc39=>?_) (fun hc39=>?_)
     · rw[if_pos hc39] at h;refine O [2] ?_;cases h;exact rtA
     rw[wn hc39] at h;apply zg;apply hZ32
     refine rgE U [1,10,76,77,78] fun K J=>?_
     simp only[go_sem,qd,qc,hw29];apply J
     exact⟨_,_,_,qo q29.length,⟨p29++[y29],q29,x26+1,r37.2,rfl,rfl,rfl,hE'29,hi'29,h⟩,(.t [0,1] false)⟩
   obtain⟨hz22,hw22,hx22,hE'22,hi'22⟩:=yo hE22 hi22 hb22;simp only[zZ.l22] at h;refine rgW [1,3,61,62,63,64] hz22 ?_
   refine za fun Z40 hZ40=>?_
   refine zE rfl ?_;apply zg;apply hZ40
   refine za fun Z41 hZ41=>?_
   apply zj;have f42:=E28.idxS hx22;have f43:=E28.loadS rfl rfl hx22;refine rgW [1,3,8,61,62,63] (aI @zh.eq_1 (aI f42 f43)) ?_
   refine rc [1,3,9,61,62,63] fun K J=>?_
   obtain⟨r44,hr44,h⟩:=bind_some h;refine κ 2 ?_;refine clN rfl rfl rfl (@id (ACalls qf 127 [.mp 1,.agg (zh y22)] [.cells 0 (zd a0),.map (xp AV.str AV.bool l18),.cells 0 (zh y22)] (fun r' σ'=>r'=.int .i64 r44.1∧σ'=[.cells 0 (zd a0),.map (xp AV.str AV.bool r44.2),.cells 0 (zh y22)])) ((xx.ok hr44).i [1])) ?_;refine κ 1 ?_;refine nkN J ?_;refine O [1,3,9,61,62,63,71] ?_;refine zR rfl (fun hc45=>?_) (fun hc45=>?_)
   · rw[if_neg hc45] at h;have t46:=eq_false hc45;refine rgW [2] t46 ?_;cases h;exact rtA
   rw[if_pos hc45] at h;have t47:=eq_true hc45;apply zg;apply hZ41
   refine rgE U [1,3,61,62,63] fun K J=>?_
   simp only[go_sem,qd,qc,hw22,t47];apply J
   exact⟨_,_,_,qo q22.length,⟨p22++[y22],q22,x19+1,r44.2,rfl,rfl,rfl,hE'22,hi'22,h⟩,(.t [0,1] false)⟩
 obtain⟨hz15,hw15,hx15,hE'15,hi'15⟩:=yo hE15 hi15 hb15;simp only[zZ.l15] at h;refine rgW [1,3,46,47,48,49] hz15 ?_
 refine za fun Z48 hZ48=>?_
 refine zE rfl ?_;apply zg;apply hZ48
 refine za fun Z49 hZ49=>?_
 apply zj;have f50:=E27.idxS hx15;have f51:=E27.loadS rfl rfl hx15;refine rgW [1,3,5,46,47,48] (aI @ze.eq_1 (aI f50 f51)) ?_
 refine rc [1,3,6,46,47,48] fun K J=>?_
 obtain⟨r52,hr52,h⟩:=bind_some h;refine κ 3 ?_;refine clN rfl rfl rfl (@id (ACalls qf 126 [.agg (zd a0),.mp 1,.agg (ze y15)] [.cells 0 (zd a0),.map (xp AV.str AV.bool l11),.cells 0 (ze y15)] (fun r' σ'=>r'=.int .i64 r52.1∧σ'=[.cells 0 (zd a0),.map (xp AV.str AV.bool r52.2),.cells 0 (ze y15)])) ((yn.ok hr52).i [1])) ?_;refine κ 1 ?_;refine nkN J ?_;refine O [1,3,6,46,47,48,57] ?_;refine zR rfl (fun hc53=>?_) (fun hc53=>?_)
 · rw[if_neg hc53] at h;have t54:=eq_false hc53;refine rgW [2] t54 ?_;cases h;exact rtA
 rw[if_pos hc53] at h;have t55:=eq_true hc53;apply zg;apply hZ49
 refine rgE U [1,3,46,47,48] fun K J=>?_
 simp only[go_sem,qd,qc,hw15,t55];apply J
 exact⟨_,_,_,qo q15.length,⟨p15++[y15],q15,x12+1,r52.2,rfl,rfl,rfl,hE'15,hi'15,h⟩,(.t [0,1] false)⟩
def Zw.l10 (a2:List zm):List Int→Int→Int→Option Bool
 |[],x7,x6=>some true
 |y10::q10,x7,x6=>(if ((decide (y10≤x6))||(decide (12<y10)))=true then some true else (Yl a2 x7).bind fun y19=>(zZ y19).bind fun r22=>some (!(decide (r22=0)))).bind fun c19=>(if c19=true then none else ((Zw.l10 a2 q10) (x7+1) y10))
def Zw (a0:Int)(a1:List Int)(a2:List zm):Option Bool:=
 (if (((((decide ((qa a1:Int)<1))||(decide (12<(qa a1:Int))))||(!(decide ((qa a2:Int)=(qa a1:Int)))))||(decide (a0<0)))||(decide (255<a0)))=true then none else (Zw.l10 a2 a1 0 0))
theorem Zw.ok {a0 a1 a2 r}(h:Zw a0 a1 a2=some r):ACalls qf 58 [.int .i64 a0,.ds true (qb ZC a1) (qa a1) false,.ds true (qb zd a2) (qa a2) false] [] (fun r' _=>r'=.bool r):=by
 refine zk (rs:=[.tmp 6]) U Tryz.func58 rfl Tryz.ntmps58 rfl Tryz.call58 (by simp) ?_;refine zu [(0,.int .i64 a0),(1,.ds true (qb ZC a1) (qa a1) false),(2,.ds true (qb zd a2) (qa a2) false)] ⟨rfl,rfl,rfl,trivial⟩ ?_;unfold Zw at h;refine O [0,1,2] ?_
 refine za fun Z1 hZ1=>?_
 refine rc [1,2,32] fun K J=>?_
 refine κ 4 ?_;refine cut 4 13 17 [0,1,2] ((decide ((qa a1:Int)<1))||(decide (12<(qa a1:Int)))) qF rfl ?_;refine κ 1 ?_;refine cut (b:=((decide ((qa a1:Int)<1))||(decide (12<(qa a1:Int))))) (hb:=boolP_eq _) 6 18 24 [1,2,0] (((decide ((qa a1:Int)<1))||(decide (12<(qa a1:Int))))||(!(decide ((qa a2:Int)=(qa a1:Int))))) qF rfl ?_;refine κ 1 ?_;refine cut (b:=(((decide ((qa a1:Int)<1))||(decide (12<(qa a1:Int))))||(!(decide ((qa a2:Int)=(qa a1:Int)))))) (hb:=boolP_eq _) 3 25 28 [1,2,0] ((((decide ((qa a1:Int)<1))||(decide (12<(qa a1:Int))))||(!(decide ((qa a2:Int)=(qa a1:Int)))))||(decide (a0<0))) qF rfl ?_;refine κ 1 ?_;refine cut (b:=((((decide ((qa a1:Int)<1))||(decide (12<(qa a1:Int))))||(!(decide ((qa a2:Int)=(qa a1:Int)))))||(decide (a0<0)))) (hb:=boolP_eq _) 3 29 32 [1,2] (((((decide ((qa a1:Int)<1))||(decide (12<(qa a1:Int))))||(!(decide ((qa a2:Int)=(qa a1:Int)))))||(decide (a0<0)))||(decide (255<a0))) qF rfl ?_;refine nkN J ?_;refine zB (b:=(((((decide ((qa a1:Int)<1))||(decide (12<(qa a1:Int))))||(!(decide ((qa a2:Int)=(qa a1:Int)))))||(decide (a0<0)))||(decide (255<a0)))) rfl (fun hc4=>?_) (fun hc4=>?_)
 · rw[if_pos hc4] at h;cases h
 rw[wn hc4] at h;apply zg;apply hZ1;refine O [1,2,7] ?_
 refine za fun Z5 hZ5=>?_
 refine O [2,7,33,34,35] ?_;apply zj
 refine xq 33 fun hb10=>?_
 replace hb10:qa a1≤9223372036854775807:=hb10.1;refine zG (fun m L τ=>∃ (p10 q10:List Int) (x7:Int) (x6:Int),m=qa q10∧L=[(2,.ds true (qb zd a2) (qa a2) false),(7,.int .i64 x6),(33,.ds true (qb ZC a1) (qa a1) false),(34,.int .i64 (qa a1:Int)),(35,.int .i64 x7)]∧τ=([]:zf)∧a1=p10++q10∧x7=(qa p10:Int)∧Zw.l10 a2 q10 x7 x6=some r) _ ⟨[],a1,0,0,rfl,rfl,rfl,rfl,rfl,h⟩ .s ?_;rintro m L τ ⟨p10,q10,x7,x6,rfl,rfl,rfl,hE10,hi10,h⟩
 rcases q10 with _|⟨y10,q10⟩
 · have hz10:=yH hE10 hi10;simp only[Zw.l10] at h;refine rgW [2,7,33,34,35,36] hz10 ?_
   refine za fun Z11 hZ11=>?_
   refine zD rfl ?_;apply zJ;apply hZ5;refine O [6] ?_;cases h;exact rtA
 obtain⟨hz10,hw10,hx10,hE'10,hi'10⟩:=yo hE10 hi10 hb10;simp only[Zw.l10] at h;refine rgW [2,7,33,34,35,36] hz10 ?_
 refine za fun Z12 hZ12=>?_
 refine zE rfl ?_;apply zg;apply hZ12
 refine za fun Z13 hZ13=>?_
 apply zj;have f14:=E26.idxS hx10;have f15:=E26.fldS0 (f:=3) rfl rfl hx10
 refine rg U [2,7,8,9,33,34,35] fun K J=>?_
 simp only[go_sem,qd,qc,ZC,f14,f15];apply J
 refine za fun Z16 hZ16=>?_
 refine rc [2,9,33,34,35,54] fun K J=>?_
 refine κ 4 ?_;refine cut 3 43 46 [33,2,35,34,8,9] ((decide (y10≤x6))||(decide (12<y10))) (aI hz10 hw10) rfl ?_;refine κ 1 ?_;obtain⟨c19,hc19,h⟩:=bind_some h;refine yv 7 (fun L τ=>L=[(2,.ds true (qb zd a2) (qa a2) false),(9,.int .i64 y10),(33,.ds true (qb ZC a1) (qa a1) false),(34,.int .i64 (qa a1:Int)),(35,.int .i64 x7),(54,.bool c19)]∧τ=([]:zf)) ?_ ?_
 · refine xm (b:=((decide (y10≤x6))||(decide (12<y10)))) 47 rfl (fun hg47=>?_) (fun hg47=>?_)
   · rw[if_pos hg47] at hc19;refine κ 7 ?_;cases hc19;refine zl ⟨rfl,_,_,⟨rfl,rfl⟩,.b hg47⟩
   rw[wn hg47] at hc19;obtain⟨y20,hy20,hc19⟩:=bind_some hc19;have f21:=E33.idxS hy20;have f22:=E33.loadS rfl rfl hy20;obtain⟨r23,hr23,hc19⟩:=bind_some hc19;refine rnW 4 (aI @zd.eq_1 (aI f21 f22)) ?_;refine clN rfl rfl rfl ((zZ.ok hr23).c _) ?_;refine κ 2 ?_;cases hc19;refine zl ⟨rfl,_,_,⟨rfl,rfl⟩,.b hg47⟩
 rintro _ _ ⟨rfl,rfl⟩;refine nkN J ?_;refine zB (b:=c19) rfl (fun hc24=>?_) (fun hc24=>?_)
 · rw[if_pos hc24] at h;cases h
 rw[wn hc24] at h;apply zg;apply hZ16
 refine rgE U [2,7,33,34,35] fun K J=>?_
 simp only[go_sem,qd,qc];apply J
 apply hZ13
 refine rgE U [2,7,33,34,35] fun K J=>?_
 simp only[go_sem,qd,qc,hw10];apply J
 exact⟨_,_,_,qo q10.length,⟨p10++[y10],q10,x7+1,y10,rfl,rfl,rfl,hE'10,hi'10,h⟩,.s⟩
def wa.l4 (a1:List UInt8):List Zk→Int→Zk×Bool
 |[],x2=>((⟨[],[],[]⟩:Zk),false)
 |y4::q4,x2=>(if y4.fName=a1 then (y4,true) else ((wa.l4 a1 q4) (x2+1)))
def wa (a0:zm)(a1:List UInt8):Zk×Bool:=
 (wa.l4 a1 a0.fMethods 0)
theorem wa.ok {a0 a1 r}(h:wa a0 a1=r):ACalls qf 59 [.agg (zd a0),.str a1] [] (fun r' _=>r'=.tup [.agg (zv r.1),.bool r.2]):=by
 refine zk (rs:=[.cell 4 61,.tmp 5]) U Tryz.func59 rfl Tryz.ntmps59 rfl Tryz.call59 (by simp) ?_;refine zu [(0,.agg (zd a0)),(1,.str a1)] ⟨rfl,rfl,trivial⟩ ?_;unfold wa at h;refine rgW [1,2,4] @zd.eq_1 ?_
 refine za fun Z1 hZ1=>?_
 refine O [1,4,9,10,11] ?_;apply zj
 refine xq 9 fun hb4=>?_
 replace hb4:qa a0.fMethods≤9223372036854775807:=hb4.1;refine zG (fun m L τ=>∃ (p4 q4:List Zk) (x2:Int),m=qa q4∧L=[(1,.str a1),(4,.op 0 0 0),(9,.ds true (qb zv a0.fMethods) (qa a0.fMethods) false),(10,.int .i64 (qa a0.fMethods:Int)),(11,.int .i64 x2)]∧τ=([.cells 0 [.str [],.str [],.str []]]:zf)∧a0.fMethods=p4++q4∧x2=(qa p4:Int)∧wa.l4 a1 q4 x2=r) _ ⟨[],a0.fMethods,0,rfl,rfl,rfl,rfl,rfl,h⟩ (.t [1] false) ?_;rintro m L τ ⟨p4,q4,x2,rfl,rfl,rfl,hE4,hi4,h⟩
 rcases q4 with _|⟨y4,q4⟩
 · have hz4:=yH hE4 hi4;simp only[wa.l4] at h;refine rgW [1,4,9,10,11,12] hz4 ?_
   refine za fun Z5 hZ5=>?_
   refine zD rfl ?_;apply zJ;apply hZ1;refine O [4,5] ?_;cases h;exact rtA
 obtain⟨hz4,hw4,hx4,hE'4,hi'4⟩:=yo hE4 hi4 hb4;simp only[wa.l4] at h;refine rgW [1,4,9,10,11,12] hz4 ?_
 refine za fun Z6 hZ6=>?_
 refine zE rfl ?_;apply zg;apply hZ6
 refine za fun Z7 hZ7=>?_
 apply zj;have f8:=E29.idxS hx4;have f9:=E29.loadS rfl rfl hx4;refine rgW [1,4,7,9,10,11] (aI @zv.eq_1 (aI f8 f9)) ?_;refine O [1,4,7,9,10,11,18] ?_;refine zR rfl (fun hc10=>?_) (fun hc10=>?_)
 · rw[if_pos hc10] at h;have t11:=eq_true hc10;refine rgW [4,5] t11 ?_;cases h;exact rtA
 rw[if_neg hc10] at h;have t12:=eq_false hc10;apply zg;apply hZ7
 refine rgE U [1,4,9,10,11] fun K J=>?_
 simp only[go_sem,qd,qc,hw4,t12];apply J
 exact⟨_,_,_,qo q4.length,⟨p4++[y4],q4,x2+1,rfl,rfl,rfl,hE'4,hi'4,h⟩,(.t [0] false)⟩
def yN.l20 (wi:zi→Int→Option Int)(a1:Int)(x7:Int)(rec10:Int→Int→Option Int):List zi→Int→Int→Option Int
 |[],x17,x16=>(rec10 (x7+1) x16)
 |y20::q20,x17,x16=>(wi y20 (IntKind.i64.wrap (a1-1))).bind fun r26=>((yN.l20 wi a1 x7 rec10 q20) (x17+1) (if x16<r26 then r26 else x16))
def yN.l10 (wi:zi→Int→Option Int)(a1:Int):List zp→Int→Int→Option Int
 |[],x7,x6=>some (IntKind.i64.wrap (x6+1))
 |y10::q10,x7,x6=>(yN.l20 wi a1 x7 (yN.l10 wi a1 q10) y10.fTrees 0 x6)
def yN.body (wi:zi→Int→Option Int)(a0:zi)(a1:Int):Option Int:=
 (if ((!(decide (a0.fKind=3)))||(decide (a1=0)))=true then some 0 else (yN.l10 wi a1 a0.fEntries 0 0))
theorem yN.step (wi:zi→Int→Option Int)(ih_value_deep:∀ (a0:zi) (a1:Int) (r:Int),wi a0 a1=some r→ACalls qf 179 [.agg (zb a0),.int .i64 a1] [] (fun r' _=>r'=.int .i64 r))(a0:zi)(a1:Int)(r:Int)(h:yN.body wi a0 a1=some r):ACalls qf 179 [.agg (zb a0),.int .i64 a1] [] (fun r' _=>r'=.int .i64 r):=by
 have ev_value_deep:=fun a0 a1 r h σ=>(ih_value_deep a0 a1 r h).c σ
 refine zk (rs:=[.tmp 4]) U Tryz.func179 rfl Tryz.ntmps179 rfl Tryz.call179 (by simp) ?_;refine zu [(0,.agg (zb a0)),(1,.int .i64 a1)] ⟨rfl,rfl,trivial⟩ ?_;unfold yN.body at h;refine rgW [1,2] @zb.eq_1 ?_
 refine za fun Z1 hZ1=>?_
 refine rc [1,2,16] fun K J=>?_
 refine κ 4 ?_;refine cut 3 13 16 [1,2] ((!(decide (a0.fKind=3)))||(decide (a1=0))) qF rfl ?_;refine nkN J ?_;refine zB (b:=((!(decide (a0.fKind=3)))||(decide (a1=0)))) rfl (fun hc4=>?_) (fun hc4=>?_)
 · rw[if_pos hc4] at h;refine O [4] ?_;cases h;exact rtA
 rw[wn hc4] at h;apply zg;apply hZ1;refine O [1,2,5] ?_
 refine za fun Z5 hZ5=>?_
 refine O [1,5,18,19,20] ?_;apply zj
 refine xq 18 fun hb10=>?_
 replace hb10:qa a0.fEntries≤9223372036854775807:=hb10.1;refine zG (fun m L τ=>∃ (p10 q10:List zp) (x7:Int) (x6:Int),m=qa q10∧L=[(1,.int .i64 a1),(5,.int .i64 x6),(18,.ds true (qb zx a0.fEntries) (qa a0.fEntries) false),(19,.int .i64 (qa a0.fEntries:Int)),(20,.int .i64 x7)]∧τ=([]:zf)∧a0.fEntries=p10++q10∧x7=(qa p10:Int)∧yN.l10 wi a1 q10 x7 x6=some r) _ ⟨[],a0.fEntries,0,0,rfl,rfl,rfl,rfl,rfl,h⟩ (.t [] false) ?_;rintro m L τ ⟨p10,q10,x7,x6,rfl,rfl,rfl,hE10,hi10,h⟩
 rcases q10 with _|⟨y10,q10⟩
 · have hz10:=yH hE10 hi10;simp only[yN.l10] at h;refine rgW [1,5,18,19,20,21] hz10 ?_
   refine za fun Z11 hZ11=>?_
   refine zD rfl ?_;apply zJ;apply hZ5;refine O [4] ?_;cases h;exact rtA
 obtain⟨hz10,hw10,hx10,hE'10,hi'10⟩:=yo hE10 hi10 hb10;simp only[yN.l10] at h;refine rgW [1,5,18,19,20,21] hz10 ?_
 refine za fun Z12 hZ12=>?_
 refine zE rfl ?_;apply zg;apply hZ12
 refine za fun Z13 hZ13=>?_
 apply zj;have f14:=E34.idxS hx10;have f15:=E34.loadS rfl rfl hx10;refine rgW [1,5,7,18,19,20] (aI @zK.eq_1 (aI @yh (aI f14 f15))) ?_;refine O [1,5,18,19,20,25,26,27] ?_;apply zj
 refine xq 25 fun hb20=>?_
 replace hb20:qa y10.fTrees≤9223372036854775807:=hb20.1;refine zG (fun m L τ=>∃ (p20 q20:List zi) (x17:Int) (x16:Int),m=qa q20∧L=[(1,.int .i64 a1),(5,.int .i64 x16),(18,.ds true (qb zx a0.fEntries) (qa a0.fEntries) false),(19,.int .i64 (qa a0.fEntries:Int)),(20,.int .i64 x7),(25,.ds true (qb ya y10.fTrees) (qa y10.fTrees) false),(26,.int .i64 (qa y10.fTrees:Int)),(27,.int .i64 x17)]∧τ=([]:zf)∧y10.fTrees=p20++q20∧x17=(qa p20:Int)∧yN.l20 wi a1 x7 (yN.l10 wi a1 q10) q20 x17 x16=some r) _ ⟨[],y10.fTrees,0,x6,rfl,rfl,rfl,rfl,rfl,h⟩ (.t [] false) ?_;rintro m L τ ⟨p20,q20,x17,x16,rfl,rfl,rfl,hE20,hi20,h⟩
 rcases q20 with _|⟨y20,q20⟩
 · have hz20:=yH hE20 hi20;simp only[yN.l20] at h;refine rgW [1,5,18,19,20,25,26,27,28] hz20 ?_
   refine za fun Z21 hZ21=>?_
   refine zD rfl ?_;apply zJ;apply hZ13
   refine rgE U [1,5,18,19,20] fun K J=>?_
   simp only[go_sem,qd,qc,hw10];apply J
   exact⟨_,_,_,qo q10.length,⟨p10++[y10],q10,x7+1,x16,rfl,rfl,rfl,hE'10,hi'10,h⟩,.s⟩
 obtain⟨hz20,hw20,hx20,hE'20,hi'20⟩:=yo hE20 hi20 hb20;simp only[yN.l20] at h;refine rgW [1,5,18,19,20,25,26,27,28] hz20 ?_
 refine za fun Z22 hZ22=>?_
 refine zE rfl ?_;apply zg;apply hZ22
 refine za fun Z23 hZ23=>?_
 apply zj;have f24:=E38.idxS hx20;have f25:=E38.loadS rfl rfl hx20;refine rgW [1,5,9,18,19,20,25,26,27] (aI @zb.eq_1 (aI @yC (aI f24 f25))) ?_
 refine rcE [1,5,18,19,20,25,26,27] fun K J=>?_
 obtain⟨r26,hr26,h⟩:=bind_some h;refine κ 4 ?_;refine clN rfl rfl rfl (ev_value_deep y20 (IntKind.i64.wrap (a1-1)) r26 hr26 _) ?_;refine xO U 2 ?_;simp only[go_sem,qd,qc,vbo,vdv,vb6];refine nkN J ?_;apply hZ23
 refine rgE U [1,5,18,19,20,25,26,27] fun K J=>?_
 simp only[go_sem,qd,qc,hw20];apply J
 exact⟨_,_,_,qo q20.length,⟨p20++[y20],q20,x17+1,(if x16<r26 then r26 else x16),rfl,rfl,rfl,hE'20,hi'20,h⟩,(.t [] false)⟩
def yN : Nat→zi→Int→Option Int
 |0,_,_=>none
 |k+1,a0,a1=>yN.body (yN k) a0 a1
theorem yN.all (k:Nat):(∀ (a0:zi) (a1:Int) (r:Int),yN k a0 a1=some r→ACalls qf 179 [.agg (zb a0),.int .i64 a1] [] (fun r' _=>r'=.int .i64 r)):=by
 induction k with
 |zero=>exact (fun a0 a1 r h=>by simp only[yN] at h; cases h)
 |succ k ih=>exact (fun a0 a1 r h=>yN.step _ ih a0 a1 r (by simpa only [yN] using h))
theorem yN.ev (k:Nat)(a0:zi)(a1:Int)(r:Int)(h:yN k a0 a1=some r)(σ:zf):ACalls qf 179 [.agg (zb a0),.int .i64 a1] σ (fun r' σ'=>r'=.int .i64 r∧σ'=σ):=
 ((yN.all k) a0 a1 r h).c σ
def Xe (a0:zi):Option Int:=
 (yN yp a0 101).bind fun r1=>some r1
theorem Xe.ok {a0 r}(h:Xe a0=some r):ACalls qf 139 [.agg (zb a0)] [] (fun r' _=>r'=.int .i64 r):=by
 refine zk (rs:=[.tmp 2]) U Tryz.func139 rfl Tryz.ntmps139 rfl Tryz.call139 (by simp) ?_;refine zu [(0,.agg (zb a0))] ⟨rfl,trivial⟩ ?_;unfold Xe at h;refine rgW [1] @zb.eq_1 ?_
 refine rc [2] fun K J=>?_
 obtain⟨r1,hr1,h⟩:=bind_some h;refine κ 1 ?_;refine clN rfl rfl rfl (yN.ev yp a0 101 r1 hr1 _) ?_;refine κ 1 ?_;refine nkN J ?_;cases h;exact rtA
def Zl (a0:xF):Bool:=
 (if ((decide (a0.fTag<1))||(decide (500<a0.fTag)))=true then false else (if a0.fWire=0 then decide (a0.fB=[]) else (if a0.fWire=1 then ((decide (a0.fN=0))&&(decide ((qa a0.fB:Int)≤4096))) else false)))
theorem Zl.ok {a0 r}(h:Zl a0=r):ACalls qf 147 [.agg (zA a0)] [] (fun r' _=>r'=.bool r):=by
 refine zk (rs:=[.tmp 2]) U Tryz.func147 rfl Tryz.ntmps147 rfl Tryz.call147 (by simp) ?_;refine zu [(0,.agg (zA a0))] ⟨rfl,trivial⟩ ?_;unfold Zl at h;refine rgW [1] @zA.eq_1 ?_
 refine za fun Z1 hZ1=>?_
 refine rc [1,10] fun K J=>?_
 refine κ 4 ?_;refine cut 4 6 10 [1] ((decide (a0.fTag<1))||(decide (500<a0.fTag))) qF rfl ?_;refine nkN J ?_;refine zB (b:=((decide (a0.fTag<1))||(decide (500<a0.fTag)))) rfl (fun hc4=>?_) (fun hc4=>?_)
 · rw[if_pos hc4] at h;refine O [2] ?_;cases h;exact rtA
 rw[wn hc4] at h;apply zg;apply hZ1
 refine za fun Z5 hZ5=>?_
 refine O [1,12] ?_;apply zj;refine O [1,12,13] ?_;refine zR rfl (fun hc6=>?_) (fun hc6=>?_)
 · rw[if_pos hc6] at h;have t7:=eq_true hc6;refine rgW [2] t7 ?_;cases h;exact rtA
 rw[if_neg hc6] at h;have t8:=eq_false hc6;refine rgW [1,18] t8 ?_;refine zR rfl (fun hc9=>?_) (fun hc9=>?_)
 · rw[if_pos hc9] at h;have t10:=eq_true hc9
   refine rc [2] fun K J=>?_
   refine rnW 4 t10 ?_;refine cut 5 23 28 [] ((decide (a0.fN=0))&&(decide ((qa a0.fB:Int)≤4096))) (aI t8 t10) rfl ?_;refine κ 1 ?_;refine nkN J ?_;cases h;exact rtA
 rw[if_neg hc9] at h;have t13:=eq_false hc9;apply zg;apply hZ5;refine rgW [2] t13 ?_;cases h;exact rtA
end
end Go.Proofs.YtaahlckibpiphaaGreatDoor
