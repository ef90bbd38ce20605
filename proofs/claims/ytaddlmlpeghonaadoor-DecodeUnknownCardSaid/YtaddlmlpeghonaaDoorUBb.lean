import Derived.Test.YtaddlmlpeghonaaDoorUBa
set_option linter.unusedSimpArgs false
set_option linter.unusedVariables false
set_option linter.constructorNameAsVariable false
namespace Go.Proofs.YtaddlmlpeghonaaDoor
namespace AM
open Go.RowKit
structure TI where
 desc : TypeDesc
 size : Nat
 bytes : Nat
 zero : AV
 cmp : Bool
def TypeDesc.isAgg : TypeDesc → Bool
 | .struct _ | .array _ _ => true
 | _ => false
def TI.agg (t : TI) : Bool := TypeDesc.isAgg t.desc
abbrev TT := TypeId → Option TI
structure TI.OK (P : Program) (t : TypeId) (i : TI) : Prop where
 desc : P.underlying t = some i.desc
 info : ∃ f, P.info? t = some f ∧ f.size = i.size ∧ f.bytes = i.bytes ∧ ∃ z, f.zero = some z ∧ z.cells.size = i.size ∧ ∀ E, VR E i.zero z
 cmp : i.cmp = true → P.stoodInHeld t = false ∧ P.eqGuardType P.depth t = false
 ts : tsize t = i.size
def TOK (P : Program) (T : TT) : Prop := ∀ t i, T t = some i → TI.OK P t i
def AllOK (P : Program) : Nat → List (Option TI) → Prop
 | _, [] => True
 | k, none :: l => AllOK P (k + 1) l
 | k, some i :: l => TI.OK P k i ∧ AllOK P (k + 1) l
theorem allOK_get {P : Program} : ∀ {l : List (Option TI)} {k : Nat}, AllOK P k l → ∀ j i, (l[j]?).getD none = some i → TI.OK P (k + j) i := by
 intro l
 induction l with
 | nil => intro k _ j i h; simp at h
 | cons x l ih =>
  intro k h j i hj
  cases x with
  | none =>
   cases j with
   | zero => simp at hj
   | succ j => have := ih h j i (by simpa using hj); rwa [show k + (j + 1) = k + 1 + j by omega]
  | some y =>
   cases j with
   | zero => simp at hj; subst hj; exact h.1
   | succ j => have := ih h.2 j i (by simpa using hj); rwa [show k + (j + 1) = k + 1 + j by omega]
theorem tok_of {P : Program} {l : List (Option TI)} (h : AllOK P 0 l) : TOK P fun t => (l[t]?).getD none := fun t i ht => by
 have := allOK_get h t i ht
 rwa [Nat.zero_add] at this
section
variable {P : Program} {T : TT} {t : TypeId} {i : TI} (w : World)
theorem zq (h : TI.OK P t i) : (underlying t).run P w = .ok i.desc w := by
 simp [underlying, h.desc]
theorem run_size (h : TI.OK P t i) : (sizeOf t).run P w = .ok i.size w := by
 obtain ⟨f, hf, hs, _⟩ := h.info
 simp [sizeOf, typeInfo, hf, hs]
theorem run_bytes (h : TI.OK P t i) : ∃ f, (typeInfo t).run P w = .ok f w ∧ f.bytes = i.bytes ∧ f.size = i.size := by
 obtain ⟨f, hf, hs, hb, _⟩ := h.info
 exact ⟨f, by simp [typeInfo, hf], hb, hs⟩
theorem run_zero (h : TI.OK P t i) : ∃ z, (zeroValue t).run P w = .ok z w ∧ z.cells.size = i.size ∧ ∀ E, VR E i.zero z := by
 obtain ⟨f, hf, hs, hb, z, hz, hzs, hv⟩ := h.info
 exact ⟨z, by simp [zeroValue, typeInfo, hf, hz], hzs, hv⟩
theorem run_agg (h : TI.OK P t i) : (isAgg t).run P w = .ok i.agg w := by
 simp only [isAgg, Sem.run_bind, zq w h, Result.andThen_ok, TI.agg]
 cases i.desc <;> rfl
end
def constCell : Value → AV
 | .bool b => .bool b
 | .int k n => .int k n
 | .string s => .str s.data.toList
 | .pointer none => .nilp
 | .slice none l c => if l = 0 ∧ c = 0 then .ds true [] 0 true else .u
 | .map none => .nilm
 | .nilFunc => .nilF
 | .nilIface => .nilI
 | .func fn a b => if a.size = 0 ∧ b.size = 0 then .fn fn [] [] else .u
 | _ => .u
def constAV : Value → AV
 | .agg cs => .agg (cs.toList.map constCell)
 | .iface t v => .ifc t (constCell v)
 | .tuple vs => if vs.size = 0 then .tup [] else .u
 | v => constCell v
theorem VR.constCell (E : Env) (v : Value) : VR E (constCell v) v := by
 cases v with
 | bool b => exact .bool _
 | int k n => exact .int _ _
 | string s => exact .str _ _ rfl
 | pointer a => cases a with
  | none => exact .nilp
  | some a => exact .u _
 | slice a l c => cases a with
  | none =>
   show VR E (if l = 0 ∧ c = 0 then .ds true [] 0 true else .u) _
   split
   · rename_i h; obtain ⟨rfl, rfl⟩ := h; exact .dsn _
   · exact .u _
  | some a => exact .u _
 | map r => cases r with
  | none => exact .nilm
  | some r => exact .u _
 | nilFunc => exact .nilF
 | nilIface => exact .nilI
 | func fn a b =>
  show VR E (if a.size = 0 ∧ b.size = 0 then .fn fn [] [] else .u) _
  split
  · rename_i h
    exact .fn fn [] [] a b h.1 h.2 (fun i h => absurd h (by simp)) (fun i h => absurd h (by simp))
  · exact .u _
 | _ => exact .u _
theorem gc_map {α : Type} (f : α → AV) (l : List α) (i : Nat) (h : i < l.length) : gc (l.map f) i = f l[i] := by
 simp [gc, h]
theorem VR.constAV_of (E : Env) {v : Value} (h : AM.constAV v = AM.constCell v) : VR E (AM.constAV v) v := by
 rw [h]; exact VR.constCell E v
theorem VR.constAV (E : Env) (v : Value) : VR E (constAV v) v := by
 cases v with
 | agg cs =>
  refine .agg _ _ (by simp) fun i hi => ?_
  have hi' : i < cs.toList.length := by simpa using hi
  rw [gc_map _ _ _ hi']
  have : cs.getD i undef = cs.toList[i] := by simp [show i < cs.size by simpa using hi']
  rw [this]
  exact VR.constCell E _
 | iface t v => exact .ifc _ _ _ (VR.constCell E _)
 | tuple vs =>
  show VR E (if vs.size = 0 then .tup [] else .u) _
  split
  · rename_i h; exact .tup [] vs h (fun i h => absurd h (by simp))
  · exact .u _
 | _ => exact VR.constAV_of E rfl
def evInt (op : BinOp) (k : IntKind) (a b : Int) : Option AV :=
 match op with
 | .add => some (.int k (k.wrap (a + b)))
 | .sub => some (.int k (k.wrap (a - b)))
 | .mul => some (.int k (k.wrap (a * b)))
 | .quo => if b = 0 then none else some (.int k (k.wrap (a.tdiv b)))
 | .rem => if b = 0 then none else some (.int k (a.tmod b))
 | .and => some (.int k (k.wrap (BitVec.ofInt k.bits a &&& BitVec.ofInt k.bits b).toNat))
 | .or => some (.int k (k.wrap (BitVec.ofInt k.bits a ||| BitVec.ofInt k.bits b).toNat))
 | .xor => some (.int k (k.wrap (BitVec.ofInt k.bits a ^^^ BitVec.ofInt k.bits b).toNat))
 | .andNot => some (.int k (k.wrap (BitVec.ofInt k.bits a &&& ~~~ BitVec.ofInt k.bits b).toNat))
 | .eql => some (.bool (decide (a = b)))
 | .neq => some (.bool (!decide (a = b)))
 | .lss => some (.bool (decide (a < b)))
 | .leq => some (.bool (decide (a ≤ b)))
 | .gtr => some (.bool (decide (b < a)))
 | .geq => some (.bool (decide (b ≤ a)))
 | _ => none
def lessB : List UInt8 → List UInt8 → Bool := Op.bytesLess
def evStr (op : BinOp) (a b : List UInt8) : Option AV :=
 match op with
 | .add => if a.length + b.length < 9223372036854775808 then some (.str (a ++ b)) else none
 | .eql => some (.bool (decide (a = b)))
 | .neq => some (.bool (!decide (a = b)))
 | .lss => some (.bool (lessB a b))
 | .leq => some (.bool (lessB a b || decide (a = b)))
 | .gtr => some (.bool (!(lessB a b || decide (a = b))))
 | .geq => some (.bool (!lessB a b))
 | _ => none
def evEq (d : TypeDesc) (x y : AV) : Option Bool :=
 match d, x, y with
 | .bool, .bool a, .bool b => some (a == b)
 | .pointer _, .nilp, .nilp => some true
 | .pointer _, .nilp, .op .. => some false
 | .pointer _, .op .., .nilp => some false
 | .pointer _, .nilp, .dp .. => some false
 | .pointer _, .dp .., .nilp => some false
 | .map _ _, .nilm, .nilm => some true
 | .map _ _, .mp _, .nilm => some false
 | .func _ _ _, .nilF, .nilF => some true
 | .func _ _ _, .fn _ _ _, .nilF => some false
 | .interface _, .ifc _ _, .nilI => some false
 | _, _, _ => none
def evShift (op : BinOp) (k : IntKind) (a b : Int) : Option AV :=
 if b < 0 then none else
 match op with
 | .shl => some (.int k (k.wrap (a * 2 ^ (min b.toNat k.bits))))
 | .shr => some (.int k (a.fdiv (2 ^ (min b.toNat k.bits))))
 | _ => none
def evBin (T : TT) (op : BinOp) (xt : TypeId) (x y : AV) : Option AV :=
 match x, y with
 | .int k a, .int k' b =>
  match op with
  | .shl => evShift .shl k a b
  | .shr => evShift .shr k a b
  | op => if k = k' then evInt op k a b else none
 | .str a, .str b => evStr op a b
 | x, y =>
  match op with
  | .eql => match T xt with
   | some i => (evEq i.desc x y).map AV.bool
   | none => none
  | .neq => match T xt with
   | some i => (evEq i.desc x y).map fun b => AV.bool !b
   | none => none
  | _ => none
theorem beq_dec (a b : Int) : (a == b) = decide (a = b) := by
 by_cases h : a = b <;> simp [h]
theorem run_evInt {P : Program} {w : World} {op : BinOp} {k : IntKind} {a b : Int} {r : AV} (h : evInt op k a b = some r) :
 ∃ v, (Go.binOp op 0 (.int k a) (.int k b)).run P w = .ok v w ∧ ∀ E, VR E r v := by
 cases op <;> simp only [evInt, reduceCtorEq, Option.some.injEq] at h
 case quo =>
  split at h
  · cases h
  · rename_i hb
    cases h
    exact ⟨.int k (k.wrap (a.tdiv b)), by simp [Go.binOp, Op.intDiv, hb], fun _ => .int _ _⟩
 case rem =>
  split at h
  · cases h
  · rename_i hb
    cases h
    exact ⟨.int k (a.tmod b), by simp [Go.binOp, Op.intDiv, hb], fun _ => .int _ _⟩
 all_goals subst h
 case add => exact ⟨.int k (k.wrap (a + b)), by simp [Go.binOp, Op.intArith], fun _ => .int _ _⟩
 case sub => exact ⟨.int k (k.wrap (a - b)), by simp [Go.binOp, Op.intArith], fun _ => .int _ _⟩
 case mul => exact ⟨.int k (k.wrap (a * b)), by simp [Go.binOp, Op.intArith], fun _ => .int _ _⟩
 case and => exact ⟨.int k (k.wrap (BitVec.ofInt k.bits a &&& BitVec.ofInt k.bits b).toNat), by simp [Go.binOp, Op.intBits], fun _ => .int _ _⟩
 case or => exact ⟨.int k (k.wrap (BitVec.ofInt k.bits a ||| BitVec.ofInt k.bits b).toNat), by simp [Go.binOp, Op.intBits], fun _ => .int _ _⟩
 case xor => exact ⟨.int k (k.wrap (BitVec.ofInt k.bits a ^^^ BitVec.ofInt k.bits b).toNat), by simp [Go.binOp, Op.intBits], fun _ => .int _ _⟩
 case andNot => exact ⟨.int k (k.wrap (BitVec.ofInt k.bits a &&& ~~~BitVec.ofInt k.bits b).toNat), by simp [Go.binOp, Op.intBits], fun _ => .int _ _⟩
 case eql => exact ⟨.bool (a == b), by simp [Go.binOp, Op.intCmp], fun _ => by rw [beq_dec]; exact .bool _⟩
 case neq => exact ⟨.bool (a != b), by simp [Go.binOp, Op.intCmp], fun _ => by rw [bne, beq_dec]; exact .bool _⟩
 case lss => exact ⟨.bool (decide (a < b)), by simp [Go.binOp, Op.intCmp], fun _ => .bool _⟩
 case leq => exact ⟨.bool (decide (a ≤ b)), by simp [Go.binOp, Op.intCmp], fun _ => .bool _⟩
 case gtr => exact ⟨.bool (decide (a > b)), by simp [Go.binOp, Op.intCmp], fun _ => .bool _⟩
 case geq => exact ⟨.bool (decide (a ≥ b)), by simp [Go.binOp, Op.intCmp], fun _ => .bool _⟩
theorem binOp_type_int (op : BinOp) (t t' : TypeId) (k k' : IntKind) (a b : Int) : Go.binOp op t (.int k a) (.int k' b) = Go.binOp op t' (.int k a) (.int k' b) := by
 cases op <;> rfl
theorem binOp_type_str (op : BinOp) (t t' : TypeId) (a b : ByteArray) : Go.binOp op t (.string a) (.string b) = Go.binOp op t' (.string a) (.string b) := by
 cases op <;> rfl
theorem bytes_toList_aux (s : ByteArray) : ∀ (n i : Nat) (r : List UInt8), s.size - i = n → ByteArray.toList.loop s i r = r.reverse ++ s.data.toList.drop i := by
 intro n
 induction n with
 | zero =>
  intro i r h
  unfold ByteArray.toList.loop
  have : ¬ i < s.size := by omega
  rw [if_neg this, List.drop_eq_nil_of_le (by rw [Array.length_toList]; exact Nat.le_of_not_lt this)]
  simp
 | succ n ih =>
  intro i r h
  unfold ByteArray.toList.loop
  have hi : i < s.size := by omega
  rw [if_pos hi, ih (i + 1) _ (by omega)]
  have hi' : i < s.data.toList.length := by rw [Array.length_toList]; exact hi
  rw [List.drop_eq_getElem_cons hi', List.reverse_cons, List.append_assoc]
  congr 1
  simp only [List.singleton_append, List.cons.injEq, and_true]
  have hd : i < s.data.size := hi
  show s.data[i]! = _
  rw [getElem!_pos s.data i hd]; simp
theorem bytes_toList (s : ByteArray) : s.toList = s.data.toList := by
 have := bytes_toList_aux s _ 0 [] rfl
 simpa [ByteArray.toList] using this
theorem run_evStr {P : Program} {w : World} {op : BinOp} {a b : ByteArray} {r : AV} (h : evStr op a.data.toList b.data.toList = some r) :
 ∃ v, (Go.binOp op 0 (.string a) (.string b)).run P w = .ok v w ∧ ∀ E, VR E r v := by
 have heq : (a.toList == b.toList) = decide (a.data.toList = b.data.toList) := by
  rw [bytes_toList, bytes_toList]
  by_cases h : a.data.toList = b.data.toList
  · rw [h]; simp
  · rw [decide_eq_false h]; exact beq_eq_false_iff_ne.2 h
 have hlt : Op.bytesLess a.toList b.toList = lessB a.data.toList b.data.toList := by rw [bytes_toList, bytes_toList]; rfl
 cases op <;> simp only [evStr, reduceCtorEq, Option.some.injEq] at h
 case add =>
  split at h
  · rename_i hl
    cases h
    refine ⟨.string (a ++ b), ?_, fun _ => .str _ _ (by simp)⟩
    have hsz : a.data.toList.length + b.data.toList.length = a.size + b.size := by rw [Array.length_toList, Array.length_toList]; rfl
    have hm : (IntKind.i64.max : Int) = 9223372036854775807 := by decide
    have : ¬ (((a.size + b.size : Nat) : Int) > IntKind.i64.max) := by rw [hm]; omega
    simp only [Go.binOp, Op.stringOp]
    rw [if_neg this]; rfl
  · cases h
 all_goals subst h
 all_goals refine ⟨_, by simp only [Go.binOp, Op.stringOp]; rfl, fun E => ?_⟩
 all_goals simp only [heq, hlt]
 all_goals exact .bool _
theorem run_evEq_in {P : Program} {E : Env} {t : TypeId} {i : TI} (hT : TI.OK P t i) {x y : AV} {vx vy : Value} (hx : VR E x vx) (hy : VR E y vy) {r : Bool} (h : evEq i.desc x y = some r) (d : Nat) :
 (Op.equalIn (d + 1) t vx vy).run P E.w = .ok r E.w ∧ (∀ op ox oy, (eqGuard op t ox oy vx vy).run P E.w = .ok () E.w) ∧
  Go.binOp .eql t vx vy = (do pure (.bool (← Op.equal t vx vy))) ∧ Go.binOp .neq t vx vy = (do pure (.bool (!(← Op.equal t vx vy)))) := by
 unfold evEq at h
 split at h <;> simp only [Option.some.injEq, reduceCtorEq] at h
 all_goals subst h
 all_goals rename_i hd
 all_goals cases hx
 all_goals cases hy
 all_goals refine ⟨?_, ?_, rfl, rfl⟩
 all_goals first
  | (intro op ox oy; cases op <;> rfl)
  | (simp only [Op.equalIn, Sem.run_bind, zq _ hT, Result.andThen_ok, hd]; rfl)
theorem run_evEq {P : Program} {E : Env} {t : TypeId} {i : TI} (hT : TI.OK P t i) {x y : AV} {vx vy : Value} (hx : VR E x vx) (hy : VR E y vy) {r : Bool} (h : evEq i.desc x y = some r) :
 (Op.equal t vx vy).run P E.w = .ok r E.w ∧ (∀ op ox oy, (eqGuard op t ox oy vx vy).run P E.w = .ok () E.w) ∧
  Go.binOp .eql t vx vy = (do pure (.bool (← Op.equal t vx vy))) ∧ Go.binOp .neq t vx vy = (do pure (.bool (!(← Op.equal t vx vy)))) :=
 run_evEq_in hT hx hy h 9999
theorem run_evBin {P : Program} {T : TT} (hT : TOK P T) {E : Env} {op : BinOp} {t : TypeId} {x y : AV} {ox oy : Operand} {vx vy : Value} (hx : VR E x vx) (hy : VR E y vy) {r : AV}
 (h : evBin T op t x y = some r) : ∃ v, (do eqGuard op t ox oy vx vy; Go.binOp op t vx vy).run P E.w = .ok v E.w ∧ VR E r v := by
 unfold evBin at h
 split at h
 · rename_i k a k' b
   cases hx; cases hy
   have hg : (eqGuard op t ox oy (.int k a) (.int k' b)).run P E.w = .ok () E.w := by cases op <;> rfl
   simp only [Sem.run_bind, hg, Result.andThen_ok]
   split at h
   · unfold evShift at h
     split at h
     · cases h
     · rename_i hb
       cases h
       refine ⟨_, ?_, .int _ _⟩
       simp only [Go.binOp, Op.shift, if_neg hb, Sem.run_pure]
   · unfold evShift at h
     split at h
     · cases h
     · rename_i hb
       cases h
       refine ⟨_, ?_, .int _ _⟩
       simp only [Go.binOp, Op.shift, if_neg hb, Sem.run_pure]
   · split at h
     · rename_i hk
       subst hk
       obtain ⟨v, hv, hr⟩ := run_evInt (P := P) (w := E.w) h
       exact ⟨v, by rw [binOp_type_int op t 0]; exact hv, hr E⟩
     · cases h
 · rename_i a b
   cases hx with | str _ s hs => cases hy with | str _ s' hs' =>
   subst hs; subst hs'
   have hg : (eqGuard op t ox oy (.string s) (.string s')).run P E.w = .ok () E.w := by cases op <;> rfl
   simp only [Sem.run_bind, hg, Result.andThen_ok]
   obtain ⟨v, hv, hr⟩ := run_evStr (P := P) (w := E.w) h
   exact ⟨v, by rw [binOp_type_str op t 0]; exact hv, hr E⟩
 · split at h
   · split at h
     · rename_i i hi
       cases he : evEq i.desc x y with
       | none => rw [he] at h; cases h
       | some q =>
        rw [he] at h; cases h
        obtain ⟨h1, h2, h3, h4⟩ := run_evEq (hT _ _ hi) hx hy he
        refine ⟨.bool q, ?_, .bool _⟩
        rw [Sem.run_bind, h2 .eql ox oy, Result.andThen_ok, h3]
        simp [h1]
     · cases h
   · split at h
     · rename_i i hi
       cases he : evEq i.desc x y with
       | none => rw [he] at h; cases h
       | some q =>
        rw [he] at h; cases h
        obtain ⟨h1, h2, h3, h4⟩ := run_evEq (hT _ _ hi) hx hy he
        refine ⟨.bool (!q), ?_, .bool _⟩
        rw [Sem.run_bind, h2 .neq ox oy, Result.andThen_ok, h4]
        simp [h1]
     · cases h
   · cases h
def evUn (op : UnOp) (x : AV) : Option AV :=
 match op, x with
 | .neg, .int k n => some (.int k (k.wrap (0 - n)))
 | .xor, .int k n => some (.int k (k.wrap (BitVec.ofInt k.bits (if k.signed then -1 else k.max) ^^^ BitVec.ofInt k.bits n).toNat))
 | .not, .bool b => some (.bool !b)
 | _, _ => none
theorem run_evUn {P : Program} {E : Env} {op : UnOp} {x : AV} {vx : Value} (hx : VR E x vx) {r : AV} (h : evUn op x = some r) :
 ∃ v, (Op.unary op vx).run P E.w = .ok v E.w ∧ VR E r v := by
 unfold evUn at h
 split at h
 · cases hx; cases h; exact ⟨_, rfl, .int _ _⟩
 · cases hx; cases h; exact ⟨_, rfl, .int _ _⟩
 · cases hx; cases h; exact ⟨_, rfl, .bool _⟩
 · cases h
end AM
end Go.Proofs.YtaddlmlpeghonaaDoor
