import Derived.Test.YtaddlmlpeghonaaDoorUT
import Derived.Test.YtaddlmlpeghonaaDoorUBz
set_option linter.unusedSimpArgs false
set_option linter.unusedVariables false
namespace Go.Proofs.YtaddlmlpeghonaaDoor
open Nat renaming reduceLT → rL, reduceLeDiff → rD, reduceEqDiff → rE, reduceAdd → rA, reduceMul → rM, reduceSub → rS
open AM
structure GRaw where
 fTag : Int
 fWire : Int
 fN : Int
 fB : List UInt8
 deriving DecidableEq
def encGRaw (x : GRaw) : List AV := [.int .i64 x.fTag, .int .i64 x.fWire, .int .i64 x.fN, .str x.fB]
instance : CanonE encGRaw := ⟨fun _ _ => rfl⟩
instance : OneE encGRaw := ⟨fun _ => rfl⟩
instance : LenE encGRaw 4 := ⟨fun _ => rfl⟩
mutual
inductive GTree where
 | mk (fKind fN : Int) (fS : List UInt8) (fEntries : List GEntry) (fRest : List GRaw)
inductive GEntry where
 | mk (fTag : Int) (fTrees : List GTree)
end
def GTree.fKind : GTree → Int | .mk a _ _ _ _ => a
def GTree.fN : GTree → Int | .mk _ a _ _ _ => a
def GTree.fS : GTree → List UInt8 | .mk _ _ a _ _ => a
def GTree.fEntries : GTree → List GEntry | .mk _ _ _ a _ => a
def GTree.fRest : GTree → List GRaw | .mk _ _ _ _ a => a
def GEntry.fTag : GEntry → Int | .mk a _ => a
def GEntry.fTrees : GEntry → List GTree | .mk _ a => a
mutual
def encGTree : GTree → List AV
 | .mk k n s es rs => [.int .i64 k, .int .i64 n, .str s, .ds true (encGEntryL es) (List.length es) false, .ds true (List.flatMap encGRaw rs) (List.length rs) false]
def encGEntry : GEntry → List AV
 | .mk t ts => [.int .i64 t, .ds true (encGTreeL ts) (List.length ts) false]
def encGEntryL : List GEntry → List AV
 | [] => []
 | e :: l => encGEntry e ++ encGEntryL l
def encGTreeL : List GTree → List AV
 | [] => []
 | e :: l => encGTree e ++ encGTreeL l
end
theorem encGEntryL_eq (l : List GEntry) : encGEntryL l = List.flatMap encGEntry l := by
 induction l with
 | nil => rfl
 | cons e l ih => rw [encGEntryL, ih]; rfl
theorem encGTreeL_eq (l : List GTree) : encGTreeL l = List.flatMap encGTree l := by
 induction l with
 | nil => rfl
 | cons e l ih => rw [encGTreeL, ih]; rfl
def cellsGTree (x : GTree) : List AV := [.int .i64 x.fKind, .int .i64 x.fN, .str x.fS, .ds true (List.flatMap encGEntry x.fEntries) (List.length x.fEntries) false, .ds true (List.flatMap encGRaw x.fRest) (List.length x.fRest) false]
def cellsGEntry (x : GEntry) : List AV := [.int .i64 x.fTag, .ds true (List.flatMap encGTree x.fTrees) (List.length x.fTrees) false]
theorem encGTree_eq (x : GTree) : encGTree x = cellsGTree x := by
 cases x; rw [encGTree, encGEntryL_eq]; rfl
theorem zy (x : GEntry) : encGEntry x = cellsGEntry x := by
 cases x; rw [encGEntry, encGTreeL_eq]; rfl
mutual
theorem canonGTree (s : Bool) : ∀ x : GTree, canonL s (encGTree x) = true
 | .mk k n t es rs => by
  simp only [encGTree, canonL, AV.canon, canonGEntryL s es, canon_all, Bool.and_self, Bool.not_false, Bool.or_true]
theorem canonGEntry (s : Bool) : ∀ x : GEntry, canonL s (encGEntry x) = true
 | .mk t ts => by simp only [encGEntry, canonL, AV.canon, canonGTreeL s ts, Bool.and_self, Bool.not_false, Bool.or_true]
theorem canonGEntryL (s : Bool) : ∀ l : List GEntry, canonL s (encGEntryL l) = true
 | [] => rfl
 | e :: l => by rw [encGEntryL, canonL_append, canonGEntry s e, canonGEntryL s l]; rfl
theorem canonGTreeL (s : Bool) : ∀ l : List GTree, canonL s (encGTreeL l) = true
 | [] => rfl
 | e :: l => by rw [encGTreeL, canonL_append, canonGTree s e, canonGTreeL s l]; rfl
end
instance : CanonE encGTree := ⟨canonGTree⟩
instance : CanonE encGEntry := ⟨canonGEntry⟩
instance : CanonE cellsGTree := ⟨fun s x => by rw [← encGTree_eq]; exact canonGTree s x⟩
instance : CanonE cellsGEntry := ⟨fun s x => by rw [← zy]; exact canonGEntry s x⟩
instance : OneE encGTree := ⟨fun x => by rw [encGTree_eq]; rfl⟩
instance : OneE encGEntry := ⟨fun x => by rw [zy]; rfl⟩
instance : LenE encGTree 5 := ⟨fun x => by rw [encGTree_eq]; rfl⟩
instance : LenE encGEntry 2 := ⟨fun x => by rw [zy]; rfl⟩
mutual
inductive GValueValue where
 | nil
 | num (n : Int)
 | str (s : List UInt8)
 | node (es : List GValueEntry) (rs : List GRaw)
inductive GValueEntry where
 | mk (ftag : Int) (fl : List GValueValue)
end
def GValueEntry.ftag : GValueEntry → Int | .mk a _ => a
def GValueEntry.fl : GValueEntry → List GValueValue | .mk _ a => a
structure GValueNode where
 fentries : List GValueEntry
 frest : List GRaw
mutual
def ifcV : GValueValue → AV
 | .nil => .nilI
 | .num n => .ifc 182 (.int .i64 n)
 | .str s => .ifc 183 (.str s)
 | .node es rs => .ifc 131 (.dp [.ds true (encGValueEntryL es) (List.length es) false, .ds true (List.flatMap encGRaw rs) (List.length rs) false] 0)
def encGValueEntry : GValueEntry → List AV
 | .mk t l => [.int .i64 t, .ds true (encGValueValueL l) (List.length l) false]
def encGValueEntryL : List GValueEntry → List AV
 | [] => []
 | e :: l => encGValueEntry e ++ encGValueEntryL l
def encGValueValueL : List GValueValue → List AV
 | [] => []
 | e :: l => ifcV e :: encGValueValueL l
end
def encGValueValue (v : GValueValue) : List AV := [ifcV v]
theorem encGValueEntryL_eq (l : List GValueEntry) : encGValueEntryL l = List.flatMap encGValueEntry l := by
 induction l with
 | nil => rfl
 | cons e l ih => rw [encGValueEntryL, ih]; rfl
theorem encGValueValueL_eq (l : List GValueValue) : encGValueValueL l = List.flatMap encGValueValue l := by
 induction l with
 | nil => rfl
 | cons e l ih => rw [encGValueValueL, ih]; rfl
def cellsGValueEntry (x : GValueEntry) : List AV := [.int .i64 x.ftag, .ds true (List.flatMap encGValueValue x.fl) (List.length x.fl) false]
theorem encGValueEntry_eq (x : GValueEntry) : encGValueEntry x = cellsGValueEntry x := by
 cases x; rw [encGValueEntry, encGValueValueL_eq]; rfl
def encGValueNode (x : GValueNode) : List AV := [.ds true (List.flatMap encGValueEntry x.fentries) (List.length x.fentries) false, .ds true (List.flatMap encGRaw x.frest) (List.length x.frest) false]
theorem ifcV_nil : ifcV .nil = .nilI := by rw [ifcV]
theorem ifcV_num {n : Int} : ifcV (.num n) = .ifc 182 (.int .i64 n) := by rw [ifcV]
theorem ifcV_str {s : List UInt8} : ifcV (.str s) = .ifc 183 (.str s) := by rw [ifcV]
theorem ifcV_node {es : List GValueEntry} {rs : List GRaw} : ifcV (.node es rs) = .ifc 131 (.dp [.ds true (List.flatMap encGValueEntry es) (List.length es) false, .ds true (List.flatMap encGRaw rs) (List.length rs) false] 0) := by
 rw [ifcV, encGValueEntryL_eq]
mutual
theorem canonIfcV (s : Bool) : ∀ x : GValueValue, (ifcV x).canon s = true
 | .nil => by simp only [ifcV, AV.canon]
 | .num n => by simp only [ifcV, AV.canon]
 | .str n => by simp only [ifcV, AV.canon]
 | .node es rs => by simp only [ifcV, AV.canon, canonL, canonGValueEntryL s es, canon_all, Bool.and_self, Bool.not_false, Bool.or_true]
theorem canonGValueEntry (s : Bool) : ∀ x : GValueEntry, canonL s (encGValueEntry x) = true
 | .mk t ts => by simp only [encGValueEntry, canonL, AV.canon, canonGValueValueL s ts, Bool.and_self, Bool.not_false, Bool.or_true]
theorem canonGValueEntryL (s : Bool) : ∀ l : List GValueEntry, canonL s (encGValueEntryL l) = true
 | [] => rfl
 | e :: l => by rw [encGValueEntryL, canonL_append, canonGValueEntry s e, canonGValueEntryL s l]; rfl
theorem canonGValueValueL (s : Bool) : ∀ l : List GValueValue, canonL s (encGValueValueL l) = true
 | [] => rfl
 | e :: l => by rw [encGValueValueL, canonL, canonIfcV s e, canonGValueValueL s l]; rfl
end
theorem oneIfcV (x : GValueValue) : (ifcV x).one = true := by cases x <;> simp only [ifcV, AV.one]
instance : CanonV ifcV := ⟨canonIfcV⟩
theorem tell_ifcV {σ : Store} {keep : List Nat} {ls : Bool} {f : Nat} {x : GValueValue} : tell σ keep ls f (ifcV x) = ifcV x := tell_canon _ _ _ _ _ (canonIfcV ls x)
instance : CanonE encGValueValue := ⟨fun s x => by simp only [encGValueValue, canonL, canonIfcV, Bool.and_self]⟩
instance : CanonE encGValueEntry := ⟨canonGValueEntry⟩
instance : CanonE cellsGValueEntry := ⟨fun s x => by rw [← encGValueEntry_eq]; exact canonGValueEntry s x⟩
theorem canonGValueNode (s : Bool) (x : GValueNode) : canonL s (encGValueNode x) = true := by simp only [encGValueNode, canonL, AV.canon, canon_all, Bool.and_self, Bool.not_false, Bool.or_true]
instance : CanonE encGValueNode := ⟨canonGValueNode⟩
instance : OneE encGValueValue := ⟨fun x => by simp only [encGValueValue, List.all_cons, oneIfcV, List.all_nil, Bool.and_self]⟩
instance : OneE encGValueEntry := ⟨fun x => by rw [encGValueEntry_eq]; rfl⟩
instance : OneE encGValueNode := ⟨fun x => rfl⟩
instance : LenE encGValueValue 1 := ⟨fun x => rfl⟩
instance : LenE encGValueEntry 2 := ⟨fun x => by rw [encGValueEntry_eq]; rfl⟩
instance : LenE encGValueNode 2 := ⟨fun x => rfl⟩
def anyV : GValueValue → AV
 | .nil => .nilI
 | .num n => .ifc 3 (.int .i64 n)
 | .str s => .ifc 9 (.str s)
 | .node es rs => ifcV (.node es rs)
theorem anyV_nil : anyV .nil = .nilI := rfl
theorem anyV_num {n : Int} : anyV (.num n) = .ifc 3 (.int .i64 n) := rfl
theorem anyV_str {s : List UInt8} : anyV (.str s) = .ifc 9 (.str s) := rfl
theorem anyV_node {es : List GValueEntry} {rs : List GRaw} : anyV (.node es rs) = .ifc 131 (.dp [.ds true (List.flatMap encGValueEntry es) (List.length es) false, .ds true (List.flatMap encGRaw rs) (List.length rs) false] 0) := ifcV_node
theorem canonAnyV (s : Bool) (x : GValueValue) : (anyV x).canon s = true := by
 cases x with
 | nil => rfl
 | num n => rfl
 | str t => rfl
 | node es rs => exact canonIfcV s (.node es rs)
instance : CanonV anyV := ⟨canonAnyV⟩
structure GType where
 fKind : Int
 fName : List UInt8
 deriving DecidableEq
def encGType (x : GType) : List AV := [.int .i64 x.fKind, .str x.fName]
instance : CanonE encGType := ⟨fun _ _ => rfl⟩
instance : OneE encGType := ⟨fun _ => rfl⟩
instance : LenE encGType 2 := ⟨fun _ => rfl⟩
structure GField where
 fName : List UInt8
 fTag : Int
 fLabel : Int
 fType : GType
 deriving DecidableEq
def encGField (x : GField) : List AV := [.str x.fName, .int .i64 x.fTag, .int .i64 x.fLabel, .int .i64 x.fType.fKind, .str x.fType.fName]
instance : CanonE encGField := ⟨fun _ _ => rfl⟩
instance : OneE encGField := ⟨fun _ => rfl⟩
instance : LenE encGField 5 := ⟨fun _ => rfl⟩
structure GMessage where
 fName : List UInt8
 fFields : List GField
 fReserved : List Int
 deriving DecidableEq
def encGMessage (x : GMessage) : List AV := [.str x.fName, .ds true (List.flatMap encGField x.fFields) (List.length x.fFields) false, .ds true (List.flatMap encI x.fReserved) (List.length x.fReserved) false]
instance : CanonE encGMessage := ⟨fun s x => by simp only [encGMessage, canonL, AV.canon, canon_all, Bool.and_self, Bool.not_false, Bool.or_true]⟩
instance : OneE encGMessage := ⟨fun _ => rfl⟩
instance : LenE encGMessage 3 := ⟨fun _ => rfl⟩
structure GNamed where
 fName : List UInt8
 fN : Int
 deriving DecidableEq
def encGNamed (x : GNamed) : List AV := [.str x.fName, .int .i64 x.fN]
instance : CanonE encGNamed := ⟨fun _ _ => rfl⟩
instance : OneE encGNamed := ⟨fun _ => rfl⟩
instance : LenE encGNamed 2 := ⟨fun _ => rfl⟩
structure GEnumeration where
 fName : List UInt8
 fValues : List GNamed
 deriving DecidableEq
def encGEnumeration (x : GEnumeration) : List AV := [.str x.fName, .ds true (List.flatMap encGNamed x.fValues) (List.length x.fValues) false]
instance : CanonE encGEnumeration := ⟨fun s x => by simp only [encGEnumeration, canonL, AV.canon, canon_all, Bool.and_self, Bool.not_false, Bool.or_true]⟩
instance : OneE encGEnumeration := ⟨fun _ => rfl⟩
instance : LenE encGEnumeration 2 := ⟨fun _ => rfl⟩
structure GMethod where
 fName : List UInt8
 fIn : List UInt8
 fOut : List UInt8
 deriving DecidableEq
def encGMethod (x : GMethod) : List AV := [.str x.fName, .str x.fIn, .str x.fOut]
instance : CanonE encGMethod := ⟨fun _ _ => rfl⟩
instance : OneE encGMethod := ⟨fun _ => rfl⟩
instance : LenE encGMethod 3 := ⟨fun _ => rfl⟩
structure GSchema where
 fName : List UInt8
 fMessages : List GMessage
 fEnums : List GEnumeration
 fMethods : List GMethod
 deriving DecidableEq
def encGSchema (x : GSchema) : List AV := [.str x.fName, .ds true (List.flatMap encGMessage x.fMessages) (List.length x.fMessages) false, .ds true (List.flatMap encGEnumeration x.fEnums) (List.length x.fEnums) false, .ds true (List.flatMap encGMethod x.fMethods) (List.length x.fMethods) false]
instance : CanonE encGSchema := ⟨fun s x => by simp only [encGSchema, canonL, AV.canon, canon_all, Bool.and_self, Bool.not_false, Bool.or_true]⟩
instance : OneE encGSchema := ⟨fun _ => rfl⟩
instance : LenE encGSchema 4 := ⟨fun _ => rfl⟩
structure GPacket where
 fKind : Int
 fFrom : Int
 fTo : Int
 fID : Int
 fVersion : Int
 fMethod : List UInt8
 fErr : Int
 fBody : List UInt8
 deriving DecidableEq
def encGPacket (x : GPacket) : List AV := [.int .i64 x.fKind, .int .i64 x.fFrom, .int .i64 x.fTo, .int .i64 x.fID, .int .i64 x.fVersion, .str x.fMethod, .int .i64 x.fErr, .str x.fBody]
instance : CanonE encGPacket := ⟨fun _ _ => rfl⟩
instance : OneE encGPacket := ⟨fun _ => rfl⟩
instance : LenE encGPacket 8 := ⟨fun _ => rfl⟩
theorem E22 : Enc tab 22 33 4 encGRaw := ⟨⟨_, rfl, rfl⟩, ⟨_, rfl, rfl⟩, by decide, fun _ => rfl⟩
theorem E23 : Enc tab 23 52 5 encGField := ⟨⟨_, rfl, rfl⟩, ⟨_, rfl, rfl⟩, by decide, fun _ => rfl⟩
theorem E24 : Enc tab 24 3 1 encI := ⟨⟨_, rfl, rfl⟩, ⟨_, rfl, rfl⟩, by decide, fun _ => rfl⟩
theorem E27 : Enc tab 27 26 3 encGMessage := ⟨⟨_, rfl, rfl⟩, ⟨_, rfl, rfl⟩, by decide, fun _ => rfl⟩
theorem E28 : Enc tab 28 90 2 encGEnumeration := ⟨⟨_, rfl, rfl⟩, ⟨_, rfl, rfl⟩, by decide, fun _ => rfl⟩
theorem E29 : Enc tab 29 73 3 encGMethod := ⟨⟨_, rfl, rfl⟩, ⟨_, rfl, rfl⟩, by decide, fun _ => rfl⟩
theorem E35 : Enc tab 35 5 1 encB := ⟨⟨_, rfl, rfl⟩, ⟨_, rfl, rfl⟩, by decide, fun _ => rfl⟩
theorem E40 : Enc tab 40 61 2 encGEntry := ⟨⟨_, rfl, rfl⟩, ⟨_, rfl, rfl⟩, by decide, fun x => by rw [zy]; rfl⟩
theorem E59 : Enc tab 59 42 5 encGTree := ⟨⟨_, rfl, rfl⟩, ⟨_, rfl, rfl⟩, by decide, fun x => by rw [encGTree_eq]; rfl⟩
theorem E88 : Enc tab 88 92 2 encGNamed := ⟨⟨_, rfl, rfl⟩, ⟨_, rfl, rfl⟩, by decide, fun _ => rfl⟩
theorem E155 : Enc tab 155 127 1 encGValueValue := ⟨⟨_, rfl, rfl⟩, ⟨_, rfl, rfl⟩, by decide, fun _ => rfl⟩
theorem E172 : Enc tab 172 176 2 encGValueEntry := ⟨⟨_, rfl, rfl⟩, ⟨_, rfl, rfl⟩, by decide, fun x => by rw [encGValueEntry_eq]; rfl⟩
attribute [push_cast] osE1 osE2 tell_u tell_bool tell_int tell_str tell_nilp tell_nilm tell_nilI tell_nilF tell_agg tell_tup tell_ifc tell_ds tell_dp tell_op tell_os tell_mp idxOf_nil idxOf_cons tellS_nil tellS_cons tellO_cells tellO_map tellO_iter tellO_dead encM_tell store_get0 store_getS zv TLS AV.canon canonL canon_all Bool.and_self Bool.and_true Bool.true_and Bool.and_false Bool.false_and Bool.or_true Bool.or_false Bool.false_or Bool.true_or Bool.not_false Bool.not_true if_true List.drop_zero Nat.zero_add List.map_cons List.map_nil List.map_append decide_true decide_false and_self tell_ifcV anyV_nil anyV_num anyV_str anyV_node ifcV_nil ifcV_num ifcV_str ifcV_node canonIfcV canonAnyV canonGValueNode encGRaw encGValueValue encGValueNode encGType encGField encGMessage encGNamed encGEnumeration encGMethod encGSchema encGPacket cellsGTree cellsGEntry cellsGValueEntry encGTree_eq zy encGValueEntry_eq
section
variable {k : Nat} {F : Fr} {σ τ : Store} {L : List (Nat × AV)} {P : Program} {f : FuncId} {args : List AV} {x : AV}
theorem AM.TellS.t (keep : List Nat) (ls : Bool) (h1 : keep.Nodup := by decide) (h2 : ∀ id ∈ keep, id < σ.length := by simp) (h3 : keep.take k = List.range k := by first | rfl | simp) (h4 : tellS σ keep ls 12 = τ := by first | rfl | (simp only [← List.flatMap_append, ← List.length_append]; simp only [go_sem, rL, rD, rE, rA, rM, rS, reduceIte, reduceCtorEq, push_cast]; done) | (simp only [go_sem, rL, rD, rE, rA, rM, rS, reduceIte, reduceCtorEq, push_cast, encB, encI, encS, encBo, encK, setI_length, List.flatMap_append, List.flatMap_cons, List.flatMap_nil, List.append_nil, List.nil_append, List.length_append, List.length_cons, List.length_nil, Nat.zero_add, List.append_assoc, List.cons_append, Nat.add_assoc] <;> first | rfl | (and_intros <;> rfl))) (h5 : TLS σ keep ls F L := by first | rfl | (simp only [← List.flatMap_append, ← List.length_append]; simp only [go_sem, rL, rD, rE, rA, rM, rS, reduceIte, reduceCtorEq, push_cast]; done) | (simp only [go_sem, rL, rD, rE, rA, rM, rS, reduceIte, reduceCtorEq, push_cast, encB, encI, encS, encBo, encK, setI_length, List.flatMap_append, List.flatMap_cons, List.flatMap_nil, List.append_nil, List.nil_append, List.length_append, List.length_cons, List.length_nil, Nat.zero_add, List.append_assoc, List.cons_append, Nat.add_assoc] <;> first | rfl | (and_intros <;> rfl))) : TellS k F σ L τ := .told keep ls h1 h2 h3 h4 h5
theorem AM.TellS.s (h : Fits F L := by first | (and_intros <;> first | rfl | trivial) | simp only [go_sem, rL, rD, rE, rA, rM, rS, reduceIte, reduceCtorEq, Fits, push_cast, setI_length, List.flatMap_append, List.flatMap_cons, List.flatMap_nil, List.append_nil, List.nil_append, List.length_append, List.length_cons, List.length_nil, Nat.zero_add, List.append_assoc, List.cons_append, Nat.add_assoc]) (e : σ = τ := by first | rfl | (simp only [go_sem, rL, rD, rE, rA, rM, rS, reduceIte, reduceCtorEq, push_cast, encB, encI, encS, encK, setI_length, List.flatMap_append, List.flatMap_cons, List.flatMap_nil, List.append_nil, List.nil_append, List.length_append, List.length_cons, List.length_nil, Nat.zero_add, List.append_assoc, List.cons_append, Nat.add_assoc] <;> rfl)) : TellS k F σ L τ := .same h e
theorem AM.TellS.p {p q : Prop} (hp : p = q) (h : p = q → Fits F L := by intro hp; simp only [go_sem, rL, rD, rE, rA, rM, rS, reduceIte, reduceCtorEq, Fits, hp, decide_true, decide_false, Bool.true_and, Bool.false_and, Bool.true_or, Bool.false_or, Bool.not_true, Bool.not_false, and_self] <;> rfl) (e : σ = τ := by rfl) : TellS k F σ L τ := .same (h hp) e
theorem AM.TellS.b {a b : Bool} (hp : a = b) (h : a = b → Fits F L := by intro hp; simp only [go_sem, rL, rD, rE, rA, rM, rS, reduceIte, reduceCtorEq, Fits, hp, decide_true, decide_false, Bool.true_and, Bool.false_and, Bool.true_or, Bool.false_or, Bool.not_true, Bool.not_false, and_self] <;> rfl) (e : σ = τ := by rfl) : TellS k F σ L τ := .same (h hp) e
theorem retA {Q : Exit → Fr → Store → Prop} {e : Exit} {F : Fr} {σ : Store} (h : Q e F σ := by simp only [retQ, resAll, resOne, resAV, exists_eq_left', go_sem, rL, rD, rE, rA, rM, rS, reduceIte, reduceCtorEq, push_cast] <;> first | rfl | (and_intros <;> rfl)) : Q e F σ := h
theorem AM.ACalls.c (h : ACalls P f args [] fun r _ => r = x) (σ : Store) (ha : canonL false args = true := by simp only [push_cast]) (hx : x.canon false = true := by simp only [push_cast]) : ACalls P f args σ fun r σ' => r = x ∧ σ' = σ := h.pureAt ha hx σ
theorem AM.ACalls.ld (h : ACalls P f args [] fun r _ => r = x) {args' : List AV} (hx : x.flat = true := by rfl) (ha : args'.map (tell σ [] true 12) = args := by first | (simp only [go_sem, rL, rD, rE, rA, rM, rS, reduceIte, reduceCtorEq, push_cast, List.nil_append, List.append_nil, Array.toList_map, List.toList_toArray]; done) | (simp only [← List.flatMap_append, ← List.length_append]; simp only [go_sem, rL, rD, rE, rA, rM, rS, reduceIte, reduceCtorEq, push_cast, List.nil_append, List.append_nil, Array.toList_map, List.toList_toArray]; done) | (simp only [go_sem, rL, rD, rE, rA, rM, rS, reduceIte, reduceCtorEq, push_cast, encB, encI, encS, encBo, encK, setI_length, List.flatMap_append, List.flatMap_cons, List.flatMap_nil, List.append_nil, List.nil_append, List.length_append, List.length_cons, List.length_nil, Nat.zero_add, List.append_assoc, List.cons_append, Nat.add_assoc, Array.toList_map, List.toList_toArray] <;> first | rfl | (and_intros <;> rfl))) : ACalls P f args' σ fun r σ' => r = x ∧ σ' = σ := h.lend hx true 12 ha
theorem AM.ACalls.i {σs τs : Store} (h : ACalls P f args σs fun r' σ' => r' = x ∧ σ' = τs) (ids : List Nat) {args' : List AV} (hn : ids.Nodup := by decide) (hlt : ∀ id ∈ ids, id < σ.length := by simp) (hobj : ids.map (fun id => σ[id]?) = σs.map some := by rfl) (hs : σs.all canonO = true := by simp only [List.all_cons, List.all_nil, canonO_map, canonO_cells, push_cast]) (ht : τs.all canonO = true := by simp only [List.all_cons, List.all_nil, canonO_map, canonO_cells, push_cast]) (hl : ids.length = τs.length := by rfl) (hx : x.canon true = true := by simp only [push_cast]) (ha : renL (bigId ids σ.length) args = args' := by first | rfl | (simp only [renL, AV.ren, renL_E, renL_all, bigId]; rfl)) : ACalls P f args' σ fun r' σ' => r' = x ∧ σ' = putI ids τs σ := h.io ids hn hlt hobj hs ht hl hx ha
end
end Go.Proofs.YtaddlmlpeghonaaDoor
