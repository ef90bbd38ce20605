import Derived.Test.YtaddlmlpeghonaaDoorUBh
import Derived.Laws.StructEq
import Derived.ChangeKeysEq
import Derived.MapKept
set_option linter.unusedSimpArgs false
set_option linter.unusedVariables false
set_option linter.constructorNameAsVariable false
namespace Go.Proofs.YtaddlmlpeghonaaDoor
namespace AM
open Go.RowKit
def ceq : TypeDesc → AV → AV → Option Bool
 | .int _, .int k a, .int k' b => if k = k' then some (decide (a = b)) else none
 | .string, .str a, .str b => some (decide (a = b))
 | .bool, .bool a, .bool b => some (a == b)
 | _, _, _ => none
def ceqL : List TypeDesc → List AV → List AV → Option Bool
 | [], [], [] => some true
 | d :: ds, a :: l, b :: m => match ceq d a b, ceqL ds l m with
  | some p, some q => some (p && q)
  | _, _ => none
 | _, _, _ => none
theorem ceqL_append : ∀ {d e : List TypeDesc} {a b c x : List AV}, a.length = d.length → c.length = d.length → ∀ {r : Bool}, ceqL (d ++ e) (a ++ b) (c ++ x) = some r → ∃ p q, ceqL d a c = some p ∧ ceqL e b x = some q ∧ r = (p && q) := by
 intro d
 induction d with
 | nil =>
  intro e a b c x hl hm r h
  obtain rfl : a = [] := List.length_eq_zero_iff.1 hl
  obtain rfl : c = [] := List.length_eq_zero_iff.1 hm
  exact ⟨true, r, rfl, h, by simp⟩
 | cons dd d ih =>
  intro e a b c x hl hm r h
  cases a with
  | nil => simp at hl
  | cons y a => cases c with
   | nil => simp at hm
   | cons z c =>
    simp only [List.cons_append, ceqL] at h
    cases h1 : ceq dd y z with
    | none => rw [h1] at h; cases h
    | some p0 =>
     rw [h1] at h
     cases h2 : ceqL (d ++ e) (a ++ b) (c ++ x) with
     | none => rw [h2] at h; cases h
     | some q0 =>
      rw [h2] at h
      simp only [Option.some.injEq] at h
      obtain ⟨p, q, h3, h4, rfl⟩ := ih (by simpa using hl) (by simpa using hm) h2
      exact ⟨p0 && p, q, by simp only [ceqL, h1, h3], h4, by rw [← h, Bool.and_assoc]⟩
theorem ceqL_length : ∀ {d : List TypeDesc} {a b : List AV} {r : Bool}, ceqL d a b = some r → a.length = d.length ∧ b.length = d.length := by
 intro d
 induction d with
 | nil =>
  intro a b r h
  cases a with
  | nil => cases b with
   | nil => exact ⟨rfl, rfl⟩
   | cons y b => cases h
  | cons y a => cases h
 | cons x d ih =>
  intro a b r h
  cases a with
  | nil => cases h
  | cons y a => cases b with
   | nil => cases h
   | cons z b =>
    simp only [ceqL] at h
    cases h2 : ceqL d a b with
    | none => rw [h2] at h; cases h1 : ceq x y z <;> rw [h1] at h <;> cases h
    | some q => have := ih h2; exact ⟨by simp [this.1], by simp [this.2]⟩
def Scal (v : Value) : Prop := (∃ k n, v = .int k n) ∨ (∃ s, v = .string s) ∨ ∃ b, v = .bool b
theorem str_eq {s s' : ByteArray} (h : s.data.toList = s'.data.toList) : s = s' := by
 obtain ⟨⟨l⟩⟩ := s
 obtain ⟨⟨l'⟩⟩ := s'
 simp only at h
 rw [h]
theorem ceq_true {E : Env} {d : TypeDesc} {x y : AV} {vx vy : Value} {r : Bool} (h : ceq d x y = some r) (hx : VR E x vx) (hy : VR E y vy) : Scal vx ∧ Scal vy ∧ (r = true → vx = vy) := by
 unfold ceq at h
 split at h
 · split at h
   · rename_i hk
     cases h
     subst hk
     cases hx; cases hy
     exact ⟨.inl ⟨_, _, rfl⟩, .inl ⟨_, _, rfl⟩, fun h => by rw [of_decide_eq_true h]⟩
   · cases h
 · cases h
   cases hx with | str _ s hs => cases hy with | str _ s' hs' =>
   exact ⟨.inr (.inl ⟨_, rfl⟩), .inr (.inl ⟨_, rfl⟩), fun h => by rw [str_eq (hs.trans ((of_decide_eq_true h).trans hs'.symm))]⟩
 · cases h
   cases hx; cases hy
   exact ⟨.inr (.inr ⟨_, rfl⟩), .inr (.inr ⟨_, rfl⟩), fun h => by rw [eq_of_beq h]⟩
 · cases h
theorem run_ceq {P : Program} {E : Env} {t : TypeId} {d : TypeDesc} (hd : P.underlying t = some d) {x y : AV} {vx vy : Value} {r : Bool} (h : ceq d x y = some r) (hx : VR E x vx) (hy : VR E y vy) (n : Nat) :
 (Op.equalIn (n + 1) t vx vy).run P E.w = .ok r E.w := by
 have hu : (underlying t).run P E.w = .ok d E.w := by simp [underlying, hd]
 unfold ceq at h
 split at h
 · split at h
   · rename_i hk; subst hk
     cases h; cases hx; cases hy
     simp only [Op.equalIn, Sem.run_bind, hu, Result.andThen_ok, if_true, Sem.run_pure, beq_dec]
   · cases h
 · cases h
   cases hx with | str _ s hs => cases hy with | str _ s' hs' =>
   subst hs; subst hs'
   simp only [Op.equalIn, Sem.run_bind, hu, Result.andThen_ok, Sem.run_pure]
   rw [beq_toListBytes, bytes_toList, bytes_toList]
   by_cases he : s.data.toList = s'.data.toList
   · rw [he]; simp
   · rw [decide_eq_false he, beq_eq_false_iff_ne.2 he]
 · cases h; cases hx; cases hy
   simp only [Op.equalIn, Sem.run_bind, hu, Result.andThen_ok, Sem.run_pure]
 · cases h
theorem ceqL_get : ∀ {d : List TypeDesc} {a b : List AV} {r : Bool}, ceqL d a b = some r → ∀ i, i < a.length → ∃ dd q, ceq dd (gc a i) (gc b i) = some q ∧ (r = true → q = true) := by
 intro d
 induction d with
 | nil =>
  intro a b r h i hi
  have := (ceqL_length h).1
  simp at this; subst this; simp at hi
 | cons x d ih =>
  intro a b r h i hi
  cases a with
  | nil => cases h
  | cons y a => cases b with
   | nil => cases h
   | cons z b =>
    simp only [ceqL] at h
    cases h1 : ceq x y z with
    | none => rw [h1] at h; cases h
    | some p =>
     cases h2 : ceqL d a b with
     | none => rw [h1, h2] at h; cases h
     | some q =>
      rw [h1, h2] at h
      simp only [Option.some.injEq] at h
      subst h
      cases i with
      | zero => exact ⟨x, p, by simpa [gc] using h1, by simp; intro a _; exact a⟩
      | succ i =>
       obtain ⟨dd, q', e1, e2⟩ := ih h2 i (by simpa using hi)
       exact ⟨dd, q', by simpa [gc] using e1, by simp; intro _ b; exact e2 b⟩
def cellsDs (p : TypeId → Option (List TypeDesc)) : List Go.Field → Nat → Option (List TypeDesc)
 | [], _ => some []
 | f :: fs, off => if f.name ≠ "_" ∧ f.offset = off then
  match p f.type with
  | some l => match cellsDs p fs (off + l.length) with
   | some m => some (l ++ m)
   | none => none
  | none => none
  else none
def cellsD (T : TT) : Nat → TypeId → Option (List TypeDesc)
 | 0, _ => none
 | f + 1, t => match T t with
  | some i => match i.desc with
   | .int k => if i.size = 1 then some [.int k] else none
   | .string => if i.size = 1 then some [.string] else none
   | .bool => if i.size = 1 then some [.bool] else none
   | .struct fs => match cellsDs (cellsD T f) fs.toList 0 with
    | some l => if i.cmp = true ∧ l.length = i.size then some l else none
    | none => none
   | .array n e => match cellsD T f e with
    | some l => if i.cmp = true ∧ n * l.length = i.size ∧ (T e).isSome then some (List.replicate n l).flatten else none
    | none => none
   | _ => none
  | none => none
def shaped (i : TI) (x : AV) (cs : List AV) : Prop := cs.length = i.size ∧ if i.agg then x = .agg cs else cs = [x]
theorem evRd_shaped {cs : List AV} {off : Nat} {j : TI} (h1 : j.agg = false → j.size = 1) (h : off + j.size ≤ cs.length) : ∃ x, evRd cs off j.size j.agg = some x ∧ shaped j x ((cs.drop off).take j.size) := by
 unfold evRd shaped
 cases hg : j.agg with
 | true => exact ⟨.agg ((cs.drop off).take j.size), by simp [h], by simp; omega, by simp⟩
 | false =>
  have := h1 hg
  refine ⟨gc cs off, by simp; omega, by simp; omega, ?_⟩
  simp only [Bool.false_eq_true, if_false, this]
  have hlt : off < cs.length := by omega
  rw [List.drop_eq_getElem_cons hlt]
  simp only [List.take_succ_cons, List.take_zero, gc, List.getD_eq_getElem?_getD, List.getElem?_eq_getElem hlt, Option.getD_some]
theorem shaped_cells {i : TI} {x : AV} {cs : List AV} (h : shaped i x cs) (hag : i.agg = true) : x = .agg cs ∧ cs.length = i.size := by
 unfold shaped at h; rw [hag] at h; exact ⟨h.2, h.1⟩
section
variable {P : Program} {T : TT} (hT : TOK P T)
include hT
omit hT in
theorem cellsD_size : ∀ (f : Nat) (t : TypeId) (i : TI) (l : List TypeDesc), cellsD T f t = some l → T t = some i → l.length = i.size ∧ (i.agg = false → i.size = 1) := by
 intro f
 cases f with
 | zero => intro t i l h; cases h
 | succ f =>
  intro t i l h hi
  simp only [cellsD, hi] at h
  split at h
  · rename_i hd; split at h
    · rename_i hs; cases h; exact ⟨hs.symm, fun _ => hs⟩
    · cases h
  · rename_i hd; split at h
    · rename_i hs; cases h; exact ⟨hs.symm, fun _ => hs⟩
    · cases h
  · rename_i hd; split at h
    · rename_i hs; cases h; exact ⟨hs.symm, fun _ => hs⟩
    · cases h
  · rename_i fs hd
    split at h
    · split at h
      · rename_i hc; cases h; exact ⟨hc.2, fun e => by simp [TI.agg, hd, TypeDesc.isAgg] at e⟩
      · cases h
    · cases h
  · rename_i n e hd
    split at h
    · split at h
      · rename_i hc; cases h
        refine ⟨?_, fun e => by simp [TI.agg, hd, TypeDesc.isAgg] at e⟩
        rw [← hc.2.1]; simp
      · cases h
    · cases h
  · cases h
theorem run_cellsEq {E : Env} : ∀ (f : Nat) (t : TypeId) (i : TI) (l : List TypeDesc), cellsD T f t = some l → T t = some i → ∀ (x y : AV) (vx vy : Value) (cs ds : List AV) (r : Bool), VR E x vx → VR E y vy → shaped i x cs → shaped i y ds → ceqL l cs ds = some r →
 ∀ d, (Op.equalIn (d + f) t vx vy).run P E.w = .ok r E.w := by
 intro f
 induction f with
 | zero => intro t i l h; cases h
 | succ f ih =>
  intro t i l h hi x y vx vy cs ds r hx hy sx sy hr d
  have ht := hT _ _ hi
  rw [show d + (f + 1) = (d + f) + 1 by omega]
  -- one cell
  have one : ∀ dd, i.desc = dd → i.agg = false → l = [dd] → (∃ q, ceq dd x y = some q ∧ r = q) := by
   intro dd hd hag hl
   subst hl
   simp only [shaped, hag, Bool.false_eq_true, if_false] at sx sy
   rw [sx.2, sy.2] at hr
   simp only [ceqL] at hr
   cases hc : ceq dd x y with
   | none => rw [hc] at hr; cases hr
   | some q =>
    rw [hc] at hr
    simp only [Bool.and_true, Option.some.injEq] at hr
    exact ⟨q, rfl, hr.symm⟩
  -- a part
  have step : ∀ (e : TypeId) (j : TI) (m : List TypeDesc) (off : Nat) (cs ds : List AV) (xs ys : Array Value) (q : Bool), cellsD T f e = some m → T e = some j → xs.size = cs.length → ys.size = ds.length →
   (∀ i, i < cs.length → VR E (gc cs i) (xs.getD i undef)) → (∀ i, i < ds.length → VR E (gc ds i) (ys.getD i undef)) → off + j.size ≤ cs.length → off + j.size ≤ ds.length → ceqL m ((cs.drop off).take j.size) ((ds.drop off).take j.size) = some q →
   ∃ a b, (part e xs off).run P E.w = .ok a E.w ∧ (part e ys off).run P E.w = .ok b E.w ∧ (Op.equalIn (d + f) e a b).run P E.w = .ok q E.w := by
   intro e j m off cs ds xs ys q hm hj hxs hys hvx hvy h1 h2 hq
   have hsz := cellsD_size f e j m hm hj
   obtain ⟨a, ha, sa⟩ := evRd_shaped hsz.2 h1
   obtain ⟨b, hb, sb⟩ := evRd_shaped hsz.2 h2
   obtain ⟨va, ra, rva⟩ := run_part (hT _ _ hj) hxs hvx ha
   obtain ⟨vb, rb, rvb⟩ := run_part (hT _ _ hj) hys hvy hb
   exact ⟨va, vb, ra, rb, ih e j m hm hj a b va vb _ _ q rva rvb sa sb hq d⟩
  simp only [cellsD, hi] at h
  split at h
  · rename_i k hd
    split at h
    · cases h
      obtain ⟨q, hc, rfl⟩ := one _ hd (by simp [TI.agg, hd, TypeDesc.isAgg]) rfl
      exact run_ceq (ht.desc.trans (by rw [hd])) hc hx hy _
    · cases h
  · rename_i hd
    split at h
    · cases h
      obtain ⟨q, hc, rfl⟩ := one _ hd (by simp [TI.agg, hd, TypeDesc.isAgg]) rfl
      exact run_ceq (ht.desc.trans (by rw [hd])) hc hx hy _
    · cases h
  · rename_i hd
    split at h
    · cases h
      obtain ⟨q, hc, rfl⟩ := one _ hd (by simp [TI.agg, hd, TypeDesc.isAgg]) rfl
      exact run_ceq (ht.desc.trans (by rw [hd])) hc hx hy _
    · cases h
  · rename_i fs hd
    split at h
    · rename_i m hm
      split at h
      · rename_i hc
        cases h
        obtain ⟨rfl, hlx⟩ := shaped_cells sx (by simp [TI.agg, hd, TypeDesc.isAgg])
        obtain ⟨rfl, hly⟩ := shaped_cells sy (by simp [TI.agg, hd, TypeDesc.isAgg])
        cases hx with | agg _ xs hxs hvx => cases hy with | agg _ ys hys hvy =>
        have hfo : P.fieldsOf t = fs := by simp [Program.fieldsOf, ht.desc, hd]
        rw [run_equalIn_struct E.w (d + f) t xs ys (by rw [hfo, ← hd]; exact ht.desc) (ht.cmp hc.1).1, hfo]
        have key : ∀ (fl : List Go.Field) (off : Nat) (m : List TypeDesc) (r : Bool), cellsDs (cellsD T f) fl off = some m → off + m.length = cs.length → ceqL m (cs.drop off) (ds.drop off) = some r → (Op.eqFields (d + f) xs ys fl).run P E.w = .ok r E.w := by
         intro fl
         induction fl with
         | nil =>
          intro off m r h hl hr
          simp only [cellsDs, Option.some.injEq] at h
          subst h
          have : cs.drop off = [] := List.drop_eq_nil_of_le (by simp at hl; omega)
          rw [this] at hr
          have hr' := (ceqL_length hr).2
          have : ds.drop off = [] := List.length_eq_zero_iff.1 hr'
          rw [this] at hr
          cases hr
          simp [Op.eqFields]
         | cons fd fl ihf =>
          intro off m r h hl hr
          simp only [cellsDs] at h
          split at h
          · rename_i hcf
            split at h
            · rename_i l1 hl1
              split at h
              · rename_i m1 hm1
                cases h
                have hTe : ∃ j, T fd.type = some j := by
                 cases f with
                 | zero => cases hl1
                 | succ f => simp only [cellsD] at hl1; cases hq : T fd.type with
                  | none => rw [hq] at hl1; cases hl1
                  | some j => exact ⟨j, rfl⟩
                obtain ⟨j, hj⟩ := hTe
                have hsz := (cellsD_size f fd.type j l1 hl1 hj).1
                rw [List.length_append] at hl
                have hsx : cs.drop off = (cs.drop off).take j.size ++ cs.drop (off + l1.length) := by rw [hsz, ← List.drop_drop, List.take_append_drop]
                have hsy : ds.drop off = (ds.drop off).take j.size ++ ds.drop (off + l1.length) := by rw [hsz, ← List.drop_drop, List.take_append_drop]
                have hdl : ds.length = cs.length := by rw [hly, hlx]
                rw [hsx, hsy] at hr
                obtain ⟨p, q, e1, e2, rfl⟩ := ceqL_append (by simp; omega) (by simp; omega) hr
                obtain ⟨a, b, r1, r2, r3⟩ := step fd.type j l1 off cs ds xs ys p hl1 hj hxs hys hvx hvy (by omega) (by omega) e1
                have h4 := ihf (off + l1.length) m1 q hm1 (by omega) e2
                simp only [Op.eqFields, if_pos hcf.1, hcf.2, Sem.run_bind, r1, r2, r3, Result.andThen_ok]
                cases p with
                | false => simp
                | true => simpa using h4
              · cases h
            · cases h
          · cases h
        exact key fs.toList 0 l r hm (by rw [hlx, ← hc.2]; simp) (by simpa using hr)
      · cases h
    · cases h
  · rename_i n e hd
    split at h
    · rename_i m hm
      split at h
      · rename_i hc
        cases h
        obtain ⟨c1, c2, c3⟩ := hc
        obtain ⟨j, hj⟩ := Option.isSome_iff_exists.1 c3
        obtain ⟨rfl, hlx⟩ := shaped_cells sx (by simp [TI.agg, hd, TypeDesc.isAgg])
        obtain ⟨rfl, hly⟩ := shaped_cells sy (by simp [TI.agg, hd, TypeDesc.isAgg])
        cases hx with | agg _ xs hxs hvx => cases hy with | agg _ ys hys hvy =>
        have hsz := (cellsD_size f e j m hm hj).1
        obtain ⟨fi, hfi, hfs, _⟩ := (hT _ _ hj).info
        have hco : P.cellsOf e = j.size := by simp [Program.cellsOf, hfi, hfs]
        rw [run_equalIn_array E.w (d + f) xs ys (by rw [ht.desc, hd]) hfi, hco]
        have key : ∀ (k s : Nat) (r : Bool), s + k = n → ceqL (List.replicate k m).flatten (cs.drop (s * j.size)) (ds.drop (s * j.size)) = some r → (Op.eqItems (d + f) e j.size xs ys (List.range' s k)).run P E.w = .ok r E.w := by
         intro k
         induction k with
         | zero =>
          intro s r hs hr
          simp only [List.replicate_zero, List.flatten_nil] at hr
          have h1 := (ceqL_length hr).1
          have h2 := (ceqL_length hr).2
          rw [List.length_eq_zero_iff.1 h1, List.length_eq_zero_iff.1 h2] at hr
          cases hr
          simp [Op.eqItems]
         | succ k ihk =>
          intro s r hs hr
          rw [List.replicate_succ, List.flatten_cons] at hr
          have hsx : cs.drop (s * j.size) = (cs.drop (s * j.size)).take j.size ++ cs.drop ((s + 1) * j.size) := by rw [Nat.succ_mul, ← List.drop_drop, List.take_append_drop]
          have hsy : ds.drop (s * j.size) = (ds.drop (s * j.size)).take j.size ++ ds.drop ((s + 1) * j.size) := by rw [Nat.succ_mul, ← List.drop_drop, List.take_append_drop]
          have hle : s * j.size + j.size ≤ n * j.size := by rw [← Nat.succ_mul]; exact Nat.mul_le_mul_right _ (by omega)
          rw [hsz] at c2
          rw [hsx, hsy] at hr
          obtain ⟨p, q, e1, e2, rfl⟩ := ceqL_append (by simp; omega) (by simp; omega) hr
          obtain ⟨a, b, r1, r2, r3⟩ := step e j m (s * j.size) cs ds xs ys p hm hj hxs hys hvx hvy (by omega) (by omega) e1
          have h4 := ihk (s + 1) q (by omega) e2
          simp only [List.range'_succ, Op.eqItems, Sem.run_bind, r1, r2, r3, Result.andThen_ok]
          cases p with
          | false => simp
          | true => simpa using h4
        have := key n 0 r (by omega) (by simpa using hr)
        rw [List.range_eq_range']; exact this
      · cases h
    · cases h
  · cases h
end
def evEqA (T : TT) (t : TypeId) (x y : AV) : Option Bool :=
 match x, y with
 | .agg cs, .agg ds => match T t, cellsD T 20 t with
  | some i, some l => if i.agg = true ∧ i.cmp = true then ceqL l cs ds else none
  | _, _ => none
 | _, _ => none
theorem run_evEqA {P : Program} {T : TT} (hT : TOK P T) {E : Env} {t : TypeId} {x y : AV} {vx vy : Value} (hx : VR E x vx) (hy : VR E y vy) {r : Bool} (h : evEqA T t x y = some r) :
 (Op.equal t vx vy).run P E.w = .ok r E.w ∧ (∀ op ox oy, (eqGuard op t ox oy vx vy).run P E.w = .ok () E.w) ∧
  Go.binOp .eql t vx vy = (do pure (.bool (← Op.equal t vx vy))) ∧ Go.binOp .neq t vx vy = (do pure (.bool (!(← Op.equal t vx vy)))) := by
 unfold evEqA at h
 split at h
 · rename_i cs ds
   split at h
   · rename_i i l hi hl
     split at h
     · rename_i hc
       have hsz := (cellsD_size 20 t i l hl hi).1
       have hln := ceqL_length h
       have h1 := run_cellsEq hT 20 t i l hl hi (.agg cs) (.agg ds) vx vy cs ds r hx hy ⟨by omega, by simp [hc.1]⟩ ⟨by omega, by simp [hc.1]⟩ h 9980
       cases hx with | agg _ xs _ _ => cases hy with | agg _ ys _ _ =>
       refine ⟨h1, fun op ox oy => ?_, rfl, rfl⟩
       exact run_eqGuard_agg E.w op t ox oy xs ys ((hT _ _ hi).cmp hc.2).2
     · cases h
   · cases h
 · cases h
def kCells (i : TI) (x : AV) : Option (List AV) :=
 match x with
 | .agg cs => if i.agg then some cs else none
 | x => if i.agg then none else some [x]
theorem kCells_shaped {i : TI} {x : AV} {cs : List AV} (h : kCells i x = some cs) (hl : cs.length = i.size) : shaped i x cs := by
 unfold kCells at h
 split at h
 · split at h
   · rename_i ha; cases h; exact ⟨hl, by simp [ha]⟩
   · cases h
 · split at h
   · cases h
   · rename_i ha; cases h; exact ⟨hl, by simp [ha]⟩
def evFind (l : List TypeDesc) (i : TI) (kc : List AV) : List (AV × AV) → Nat → Option (Option (Nat × AV))
 | [], _ => some none
 | e :: es, n => match kCells i e.1 with
  | some ec => match ceqL l kc ec with
   | some b => bif b then some (some (n, e.2)) else evFind l i kc es (n + 1)
   | none => none
  | none => none
def FindR (E : Env) : Option (Nat × AV) → Option (Nat × Value) → Prop
 | none, none => True
 | some (n, a), some (m, v) => n = m ∧ VR E a v
 | _, _ => False
def EntsR (E : Env) (es : List (AV × AV)) (ents : List MapEntry) : Prop :=
 ents.length = es.length ∧ ∀ i (h : i < es.length) (h' : i < ents.length), VR E es[i].1 ents[i].key ∧ VR E es[i].2 ents[i].val
theorem EntsR.tail {E : Env} {e : AV × AV} {es : List (AV × AV)} {x : MapEntry} {ents : List MapEntry} (h : EntsR E (e :: es) (x :: ents)) : VR E e.1 x.key ∧ VR E e.2 x.val ∧ EntsR E es ents := by
 refine ⟨(h.2 0 (by simp) (by simp)).1, (h.2 0 (by simp) (by simp)).2, by simpa using h.1, fun i h1 h2 => ?_⟩
 have := h.2 (i + 1) (by simpa using h1) (by simpa using h2)
 simpa using this
section
variable {P : Program} {T : TT} (hT : TOK P T)
include hT
theorem run_findAsking {E : Env} {kt : TypeId} {i : TI} {l : List TypeDesc} (hi : T kt = some i) (hl : cellsD T 20 kt = some l) {k : AV} {vk : Value} (hk : VR E k vk) {kc : List AV} (hkc : kCells i k = some kc) :
 ∀ (es : List (AV × AV)) (ents : List MapEntry) (n : Nat) (r : Option (Nat × AV)), EntsR E es ents → evFind l i kc es n = some r → ∃ q, (Instr.findAsking kt vk ents n).run P E.w = .ok q E.w ∧ FindR E r q := by
 intro es
 induction es with
 | nil =>
  intro ents n r h hf
  have : ents = [] := List.length_eq_zero_iff.1 h.1
  subst this
  cases hf
  exact ⟨none, by simp [Instr.findAsking], trivial⟩
 | cons e es ih =>
  intro ents n r h hf
  cases ents with
  | nil => have := h.1; simp at this
  | cons x ents =>
   obtain ⟨h1, h2, h3⟩ := h.tail
   simp only [evFind] at hf
   split at hf
   · rename_i ec hec
     split at hf
     · rename_i b hb
       have hsz := (cellsD_size 20 kt i l hl hi).1
       have hln := ceqL_length hb
       have heq := run_cellsEq hT 20 kt i l hl hi k e.1 vk x.key kc ec b hk h1 (kCells_shaped hkc (by omega)) (kCells_shaped hec (by omega)) hb 9980
       simp only [Instr.findAsking, Sem.run_bind]
       rw [show (Op.equal kt vk x.key).run P E.w = .ok b E.w from heq]
       cases b with
       | true => cases hf; exact ⟨some (n, x.val), by simp, rfl, h2⟩
       | false =>
        obtain ⟨q, e1, e2⟩ := ih ents (n + 1) r h3 hf
        exact ⟨q, by simpa using e1, e2⟩
     · cases hf
   · cases hf
omit hT in
theorem run_findNow {E : Env} {kt : TypeId} {i : TI} {l : List TypeDesc} (hi : T kt = some i) (hl : cellsD T 20 kt = some l) (hag : i.agg = false) {k : AV} {vk : Value} (hk : VR E k vk) {kc : List AV} (hkc : kCells i k = some kc) :
 ∀ (es : List (AV × AV)) (ents : List MapEntry) (n : Nat) (r : Option (Nat × AV)), EntsR E es ents → evFind l i kc es n = some r → ∃ q, Instr.findNow i.desc vk ents n = some q ∧ FindR E r q := by
 have hd : ∃ d, l = [d] ∧ i.desc = d := by
  have h20 : cellsD T (19 + 1) kt = some l := hl
  simp only [cellsD, hi] at h20
  split at h20
  · rename_i hd; split at h20 <;> cases h20; exact ⟨_, rfl, hd⟩
  · rename_i hd; split at h20 <;> cases h20; exact ⟨_, rfl, hd⟩
  · rename_i hd; split at h20 <;> cases h20; exact ⟨_, rfl, hd⟩
  · rename_i hd; simp [TI.agg, hd, TypeDesc.isAgg] at hag
  · rename_i hd; simp [TI.agg, hd, TypeDesc.isAgg] at hag
  · cases h20
 obtain ⟨d, rfl, hdd⟩ := hd
 intro es
 induction es with
 | nil =>
  intro ents n r h hf
  have : ents = [] := List.length_eq_zero_iff.1 h.1
  subst this
  cases hf
  exact ⟨none, rfl, trivial⟩
 | cons e es ih =>
  intro ents n r h hf
  cases ents with
  | nil => have := h.1; simp at this
  | cons x ents =>
   obtain ⟨h1, h2, h3⟩ := h.tail
   simp only [evFind] at hf
   split at hf
   · rename_i ec hec
     split at hf
     · rename_i b hb
       have hln := ceqL_length hb
       have s1 := kCells_shaped hkc (show kc.length = i.size by
        have := (cellsD_size 20 kt i [d] hl hi).1; omega)
       have s2 := kCells_shaped hec (show ec.length = i.size by
        have := (cellsD_size 20 kt i [d] hl hi).1; omega)
       simp only [shaped, hag, Bool.false_eq_true, if_false] at s1 s2
       rw [s1.2, s2.2] at hb
       simp only [ceqL] at hb
       cases hc : ceq d k e.1 with
       | none => rw [hc] at hb; cases hb
       | some q =>
        rw [hc] at hb
        simp only [Bool.and_true, Option.some.injEq] at hb
        subst hb
        have hnow : Instr.sameNow i.desc vk x.key = some q := by
         rw [hdd]
         unfold ceq at hc
         generalize e.1 = ek at hc h1
         generalize x.key = xk at h1 ⊢
         split at hc
         · split at hc
           · rename_i hkk; subst hkk
             cases hc; cases hk; cases h1
             simp [Instr.sameNow, beq_dec]
           · cases hc
         · cases hc
           cases hk with | str _ s hs => cases h1 with | str _ s' hs' =>
           subst hs; subst hs'
           simp only [Instr.sameNow]
           rw [beq_toListBytes, bytes_toList, bytes_toList]
           by_cases he : s.data.toList = s'.data.toList
           · rw [he]; simp
           · rw [decide_eq_false he, beq_eq_false_iff_ne.2 he]
         · cases hc; cases hk; cases h1
           simp [Instr.sameNow]
         · cases hc
        simp only [Instr.findNow, hnow]
        cases q with
        | true => cases hf; exact ⟨some (n, x.val), rfl, rfl, h2⟩
        | false => exact ih ents (n + 1) r h3 hf
     · cases hf
   · cases hf
theorem run_findKey {E : Env} {kt : TypeId} {i : TI} {l : List TypeDesc} (hi : T kt = some i) (hl : cellsD T 20 kt = some l) {k : AV} {vk : Value} (hk : VR E k vk) {kc : List AV} (hkc : kCells i k = some kc)
 (es : List (AV × AV)) (ents : List MapEntry) (r : Option (Nat × AV)) (he : EntsR E es ents) (hf : evFind l i kc es 0 = some r) : ∃ q, (Instr.findKey kt vk ents).run P E.w = .ok q E.w ∧ FindR E r q := by
 have hT' := hT
 simp only [Instr.findKey, Sem.run_bind, zq _ (hT _ _ hi), Result.andThen_ok]
 cases hag : i.agg with
 | false =>
  obtain ⟨q, h1, h2⟩ := run_findNow hi hl hag hk hkc es ents 0 r he hf
  exact ⟨q, by simp [h1], h2⟩
 | true =>
  obtain ⟨q, h1, h2⟩ := run_findAsking hT' hi hl hk hkc es ents 0 r he hf
  cases ents with
  | nil =>
   have : es = [] := List.length_eq_zero_iff.1 he.1.symm
   subst this
   cases hf
   exact ⟨none, by simp [Instr.findNow], trivial⟩
  | cons x ents =>
   have hn : Instr.findNow i.desc vk (x :: ents) 0 = none := by
    have : Instr.sameNow i.desc vk x.key = none := by
     unfold TI.agg TypeDesc.isAgg at hag
     split at hag
     · rename_i hd; rw [hd]; rfl
     · rename_i hd; rw [hd]; rfl
     · cases hag
    simp [Instr.findNow, this]
   exact ⟨q, by rw [hn]; exact h1, h2⟩
end
end AM
end Go.Proofs.YtaddlmlpeghonaaDoor
