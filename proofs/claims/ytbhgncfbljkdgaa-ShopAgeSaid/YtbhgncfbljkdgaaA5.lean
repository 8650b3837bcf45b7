/-
  Each operation that is no call does on a world what the abstract one does on the abstract heap: numbers, comparisons, slices.
-/
import Derived.Test.YtbhgncfbljkdgaaA4
import Derived.Laws.StructEq
import Derived.ChangeKeysEq
import Derived.Laws.MakeOwn
import Derived.Laws.Append
namespace Go.Proofs.Ytbhgncfbljkdgaa.AI
open Go

variable {P : Program} {C : Stands} {ρ : Ren} {g : Nat → Option AObj} {n : Nat} {w : World}

theorem aint_sound {op : BinOp} {k : IntKind} {a b : Int} {v : Value} (h : aint op k a b = some v) (hs : op ≠ .shl ∧ op ≠ .shr) (t : TypeId) : (binOp op t (.int k a) (.int k b)).run P w = .ok v w ∧ plainB v = true := by
  cases op <;> simp only [aint] at h <;> (try (split at h)) <;> (try (cases h; done)) <;> (try (cases h)) <;>
    first
      | (simp [binOp, Op.intArith, Op.intCmp, Op.intBits, plainB, pureB]; done)
      | (rename_i hb; simp [binOp, Op.intDiv, hb, plainB, pureB]; done)
      | (exact absurd rfl hs.1) | (exact absurd rfl hs.2)

def notBare : Value → Bool
  | .nilIface | .agg _ => false
  | _ => true

theorem run_eqGuard_plain (op : BinOp) (t : TypeId) (x y : Operand) (a b : Value) (ha : notBare a = true) : (eqGuard op t x y a b).run P w = .ok () w := by
  cases a <;> first | (simp [notBare] at ha; done) | (cases op <;> simp [eqGuard])

theorem abin_sound {op : BinOp} {x y v : Value} (h : abin op x y = some v) (t : TypeId) (X Y : Operand) {x' y' : Value} (hx : VR ρ x x') (hy : VR ρ y y') :
    (do eqGuard op t X Y x' y'; binOp op t x' y').run P w = .ok v w ∧ plainB v = true := by
  unfold abin at h
  split at h
  · rename_i k a k' b
    have e1 := hx.int_inv; have e2 := hy.int_inv
    subst e1; subst e2
    simp only [Sem.run_bind, run_eqGuard_plain (P := P) (w := w) op t X Y (.int k a) (.int k' b) rfl, Result.andThen_ok]
    split at h
    · split at h
      · cases h
      · rename_i hb; cases h; simp [binOp, Op.shift, hb, plainB, pureB]
    · split at h
      · cases h
      · rename_i hb; cases h; simp [binOp, Op.shift, hb, plainB, pureB]
    · rename_i h1 h2
      split at h
      · rename_i hk; subst hk; exact aint_sound h ⟨h1, h2⟩ t
      · cases h
  · rename_i a b
    have e1 := hx.string_inv; have e2 := hy.string_inv
    subst e1; subst e2
    simp only [Sem.run_bind, run_eqGuard_plain (P := P) (w := w) op t X Y (.string a) (.string b) rfl, Result.andThen_ok]
    split at h
    · cases h; simp [binOp, Op.stringOp, plainB, pureB]
    · cases h; simp [binOp, Op.stringOp, plainB, pureB]
    · split at h
      · rename_i hle
        cases h
        rw [Nat.ble_eq] at hle
        have h2 : (((a.size + b.size : Nat)) : Int) ≤ 9223372036854775807 := by omega
        simp [binOp, Op.stringOp, plainB, pureB, -Int.natCast_add, h2]
      · cases h
    · cases h; simp [binOp, Op.stringOp, plainB, pureB]
    · cases h; simp [binOp, Op.stringOp, plainB, pureB]
    · cases h
  · cases h

/-! ### aggregates compared -/

theorem leafEq_sound {d : Leaf} {t : TypeId} {u : TypeDesc} (hu : P.underlying t = some u) (hd : leafOf u = some d) {a b : Value} {r : Bool} (h : leafEq d a b = some r) (k : Nat) :
    (Op.equalIn (k + 1) t a b).run P w = .ok r w ∧ pureB a = true ∧ pureB b = true := by
  unfold leafEq at h
  split at h
  · rename_i k1 x k2 y
    split at h
    · rename_i hk; subst hk; cases h
      unfold leafOf at hd
      split at hd <;> first | (cases hd; done) | skip
      exact ⟨run_equalIn_int w k t _ _ x y hu, rfl, rfl⟩
    · cases h
  · cases h
    unfold leafOf at hd
    split at hd <;> first | (cases hd; done) | skip
    exact ⟨run_equalIn_bool' w k t _ _ hu, rfl, rfl⟩
  · rename_i x y
    cases h
    unfold leafOf at hd
    split at hd <;> first | (cases hd; done) | skip
    exact ⟨by rw [run_equalIn_string w k t _ _ hu, beq_toListBytes], rfl, rfl⟩
  · cases h

theorem leafBeq_eq {a b : Leaf} (h : leafBeq a b = true) : a = b := by cases a <;> cases b <;> first | rfl | cases h

theorem isAgg_leaf {t : TypeId} {u : TypeDesc} {d : Leaf} (hu : P.underlying t = some u) (hd : leafOf u = some d) : (isAgg t).run P w = .ok false w := by
  simp only [isAgg, Sem.run_bind, run_underlying hu, Result.andThen_ok]
  cases u <;> first | rfl | cases hd

theorem run_part_leaf {t : TypeId} {u : TypeDesc} {d : Leaf} (hu : P.underlying t = some u) (hd : leafOf u = some d) {xs : Array Value} {i : Nat} {v : Value} (h : xs[i]? = some v) : (part t xs i).run P w = .ok v w := by
  simp [part, isAgg_leaf hu hd, h]

/-- is a list of cells of the kinds of leaves -/
def leavesOK : List Value → Bool := fun l => l.all pureB

theorem fields_sound (k : Nat) : ∀ (fs : List Field) (ds : List Leaf) (i : Nat) (xs ys : Array Value) (r : Bool), chkLeaves P i fs ds = true → i + ds.length ≤ xs.size → i + ds.length ≤ ys.size →
    flatEq ds (xs.toList.drop i) (ys.toList.drop i) = some r → (Op.eqFields (k + 1) xs ys fs).run P w = .ok r w
  | [], [], i, xs, ys, r, _, _, _, h => by simp [flatEq] at h; subst h; rfl
  | [], _ :: _, _, _, _, _, hc, _, _, _ => by simp [chkLeaves] at hc
  | _ :: _, [], _, _, _, _, hc, _, _, _ => by simp [chkLeaves] at hc
  | f :: fs, d :: ds, i, xs, ys, r, hc, h1, h2, h => by
    simp only [chkLeaves, Bool.and_eq_true] at hc
    obtain ⟨⟨⟨⟨c1, c2⟩, c3⟩, _⟩, c5⟩ := hc
    have c1 := eq_of_beq_nat c1
    have c2 : f.name ≠ "_" := by simpa using c2
    simp only [List.length_cons] at h1 h2
    split at c3
    · rename_i u hu
      split at c3
      · rename_i d' hd
        have := leafBeq_eq c3; subst this
        have e1 : xs.toList.drop i = xs[i] :: xs.toList.drop (i + 1) := by rw [List.drop_eq_getElem_cons (by simp; omega)]; simp
        have e2 : ys.toList.drop i = ys[i] :: ys.toList.drop (i + 1) := by rw [List.drop_eq_getElem_cons (by simp; omega)]; simp
        rw [e1, e2] at h
        simp only [flatEq] at h
        have p1 : (part f.type xs f.offset).run P w = .ok xs[i] w := run_part_leaf hu hd (by rw [c1]; simp [show i < xs.size by omega])
        have p2 : (part f.type ys f.offset).run P w = .ok ys[i] w := run_part_leaf hu hd (by rw [c1]; simp [show i < ys.size by omega])
        simp only [Op.eqFields, if_pos c2, Sem.run_bind, p1, p2, Result.andThen_ok]
        split at h
        · rename_i e
          obtain ⟨q, _⟩ := leafEq_sound (P := P) (w := w) hu hd e k
          simp only [q, Result.andThen_ok, Bool.not_true, Bool.false_eq_true, if_false]
          exact fields_sound k fs ds (i + 1) xs ys r c5 (by omega) (by omega) h
        · rename_i e
          cases h
          obtain ⟨q, _⟩ := leafEq_sound (P := P) (w := w) hu hd e k
          simp only [q, Result.andThen_ok, Bool.not_false, if_true]
          rfl
        · cases h
      · cases c3
    · cases c3

theorem items_sound (k : Nat) {e : TypeId} {u : TypeDesc} {d : Leaf} (hu : P.underlying e = some u) (hd : leafOf u = some d) (hc : P.cellsOf e = 1) : ∀ (m i : Nat) (ds : List Leaf) (xs ys : Array Value) (r : Bool), chkAll d m ds = true →
    i + m ≤ xs.size → i + m ≤ ys.size → flatEq ds (xs.toList.drop i) (ys.toList.drop i) = some r → (Op.eqItems (k + 1) e (P.cellsOf e) xs ys (List.range' i m)).run P w = .ok r w
  | 0, i, [], xs, ys, r, _, _, _, h => by simp [flatEq] at h; subst h; rfl
  | 0, _, _ :: _, _, _, _, hc, _, _, _ => by simp [chkAll] at hc
  | _ + 1, _, [], _, _, _, hc, _, _, _ => by simp [chkAll] at hc
  | m + 1, i, d' :: ds, xs, ys, r, h0, h1, h2, h => by
    simp only [chkAll, Bool.and_eq_true] at h0
    have := leafBeq_eq h0.1; subst this
    have e1 : xs.toList.drop i = xs[i] :: xs.toList.drop (i + 1) := by rw [List.drop_eq_getElem_cons (by simp; omega)]; simp
    have e2 : ys.toList.drop i = ys[i] :: ys.toList.drop (i + 1) := by rw [List.drop_eq_getElem_cons (by simp; omega)]; simp
    rw [e1, e2] at h
    simp only [flatEq] at h
    have p1 : (part e xs (i * P.cellsOf e)).run P w = .ok xs[i] w := run_part_leaf hu hd (by rw [hc, Nat.mul_one]; simp [show i < xs.size by omega])
    have p2 : (part e ys (i * P.cellsOf e)).run P w = .ok ys[i] w := run_part_leaf hu hd (by rw [hc, Nat.mul_one]; simp [show i < ys.size by omega])
    simp only [List.range'_succ, Op.eqItems, Sem.run_bind, p1, p2, Result.andThen_ok]
    split at h
    · rename_i eq
      obtain ⟨q, _⟩ := leafEq_sound (P := P) (w := w) hu hd eq k
      simp only [q, Result.andThen_ok, Bool.not_true, Bool.false_eq_true, if_false]
      exact items_sound k hu hd hc m (i + 1) ds xs ys r h0.2 (by omega) (by omega) h
    · rename_i eq
      cases h
      obtain ⟨q, _⟩ := leafEq_sound (P := P) (w := w) hu hd eq k
      simp only [q, Result.andThen_ok, Bool.not_false, if_true]
      rfl
    · cases h

theorem chkAll_length {d : Leaf} : ∀ {m : Nat} {ds : List Leaf}, chkAll d m ds = true → ds.length = m
  | 0, [], _ => rfl
  | 0, _ :: _, h => by simp [chkAll] at h
  | _ + 1, [], h => by simp [chkAll] at h
  | m + 1, _ :: ds, h => by simp only [chkAll, Bool.and_eq_true] at h; simp [chkAll_length h.2]

/-- two plain aggregates compared -/
theorem eqFlat_plain {t : TypeId} {ds : List Leaf} (hc : chkFlat P t ds = true) {xs ys : Array Value} (hx : xs.size = ds.length) (hy : ys.size = ds.length) {r : Bool} (h : flatEq ds xs.toList ys.toList = some r) (k : Nat) :
    (Op.equalIn (k + 2) t (.agg xs) (.agg ys)).run P w = .ok r w := by
  unfold chkFlat at hc
  split at hc
  · rename_i fs hu
    simp only [Bool.and_eq_true, Bool.not_eq_true'] at hc
    have hf : P.fieldsOf t = fs := by simp [Program.fieldsOf, hu]
    rw [run_equalIn_struct w (k + 1) t xs ys (by rw [hf]; exact hu) hc.1, hf]
    exact fields_sound k fs.toList ds 0 xs ys r hc.2 (by omega) (by omega) (by simpa using h)
  · rename_i m e hu
    simp only [Bool.and_eq_true] at hc
    obtain ⟨c1, c2⟩ := hc
    split at c2
    · rename_i u hue
      split at c2
      · rename_i d hd
        unfold sizeIs at c1
        split at c1
        · rename_i i hi
          have c1 := eq_of_beq_nat c1
          have hl := chkAll_length c2
          rw [run_equalIn_array w (k + 1) xs ys hu hi, List.range_eq_range']
          exact items_sound k hue hd (by simp [Program.cellsOf, hi, c1]) m 0 ds xs ys r c2 (by omega) (by omega) (by simpa using h)
        · cases c1
      · cases c2
    · cases c2
  · cases hc

theorem leafEq_pure {d : Leaf} {a b : Value} {r : Bool} (h : leafEq d a b = some r) {a' b' : Value} (ha : VR ρ a a') (hb : VR ρ b b') : leafEq d a' b' = some r := by
  unfold leafEq at h
  split at h
  · have e1 := ha.int_inv; have e2 := hb.int_inv; subst e1; subst e2; exact h
  · have e1 := ha.bool_inv; have e2 := hb.bool_inv; subst e1; subst e2; exact h
  · have e1 := ha.string_inv; have e2 := hb.string_inv; subst e1; subst e2; exact h
  · cases h

theorem flatEq_VR : ∀ {ds : List Leaf} {xs ys xs' ys' : List Value} {r : Bool}, flatEq ds xs ys = some r → LR ρ xs xs' → LR ρ ys ys' → flatEq ds xs' ys' = some r
  | [], _, _, _, _, r, h, _, _ => by simp [flatEq] at h ⊢; exact h
  | d :: ds, [], _, _, _, r, h, _, _ => by simp [flatEq] at h
  | d :: ds, _ :: _, [], _, _, r, h, _, _ => by simp [flatEq] at h
  | d :: ds, x :: xs, y :: ys, _, _, r, h, .cons a s, .cons b t => by
    simp only [flatEq] at h ⊢
    split at h
    · rename_i e; rw [leafEq_pure e a b]; exact flatEq_VR h s t
    · rename_i e; cases h; rw [leafEq_pure e a b]
    · cases h

theorem aeqFlat_sound {t : TypeId} {ds : List Leaf} (hc : chkFlat P t ds = true) {x y x' y' : Value} {r : Bool} (h : aeqFlat ds x y = some r) (hx : VR ρ x x') (hy : VR ρ y y') (k : Nat) :
    (∃ xs ys, x' = .agg xs ∧ y' = .agg ys) ∧ (Op.equalIn (k + 2) t x' y').run P w = .ok r w := by
  unfold aeqFlat at h
  split at h
  · rename_i xs ys
    split at h
    · rename_i hl
      simp only [Bool.and_eq_true] at hl
      obtain ⟨xs', rfl, hxs⟩ := hx.agg_inv
      obtain ⟨ys', rfl, hys⟩ := hy.agg_inv
      exact ⟨⟨_, _, rfl, rfl⟩, eqFlat_plain hc (by rw [← hxs.1]; exact eq_of_beq_nat hl.1) (by rw [← hys.1]; exact eq_of_beq_nat hl.2) (flatEq_VR h hxs.toList hys.toList) k⟩
    · cases h
  · cases h

theorem eqFlat_sound {t : TypeId} {ds : List Leaf} (hc : chkFlat P t ds = true) (hg : P.eqGuardType P.depth t = false) {x y x' y' : Value} {r : Bool} (h : aeqFlat ds x y = some r) (hx : VR ρ x x') (hy : VR ρ y y') {op : BinOp} {neg : Bool}
    (ho : (match op, neg with | .eql, false | .neq, true => true | _, _ => false) = true) (X Y : Operand) :
    (do eqGuard op t X Y x' y'; binOp op t x' y').run P w = .ok (.bool (if neg then !r else r)) w := by
  obtain ⟨⟨xs, ys, rfl, rfl⟩, he⟩ := aeqFlat_sound (P := P) (w := w) hc h hx hy 9998
  simp only [Sem.run_bind, run_eqGuard_agg w op t X Y xs ys hg, Result.andThen_ok]
  split at ho
  · rw [run_eql_struct, he]; simp
  · rw [run_neq_struct, he]; simp
  · cases ho

theorem equal_nil {t : TypeId} {k : NKind} (ht : nilEqType P t k = true) {x y x' y' : Value} {r : Bool} (h : anilEq k x y = some r) (hx : VR ρ x x') (hy : VR ρ y y') (d : Nat) :
    (Op.equalIn (d + 1) t x' y').run P w = .ok r w ∧ notBare x' = true := by
  have hnb : notBare x' = true := by
    unfold anilEq at h
    split at h <;> first | (cases h; done) | (cases hx <;> rfl)
  refine ⟨?_, hnb⟩
  unfold nilEqType at ht
  split at ht
  case h_6 => cases ht
  case h_5 hu =>
    unfold anilEq at h
    split at h <;> first | (cases h; done) | contradiction | skip
    cases h
    have e1 := hx.bool_inv; have e2 := hy.bool_inv
    subst e1; subst e2
    exact run_equalIn_bool' w d t _ _ hu
  all_goals (rename_i hu; simp only [Op.equalIn, Sem.run_bind, run_underlying hu, Result.andThen_ok])
  all_goals (unfold anilEq at h; split at h)
  all_goals first | contradiction | skip
  all_goals (cases h)
  all_goals (cases hx <;> cases hy <;> rfl)

theorem nilEq_sound {t : TypeId} {k : NKind} (ht : nilEqType P t k = true) {x y x' y' : Value} {r : Bool} (h : anilEq k x y = some r) (hx : VR ρ x x') (hy : VR ρ y y') {op : BinOp} {neg : Bool}
    (ho : (match op, neg with | .eql, false | .neq, true => true | _, _ => false) = true) (X Y : Operand) :
    (do eqGuard op t X Y x' y'; binOp op t x' y').run P w = .ok (.bool (if neg then !r else r)) w := by
  obtain ⟨hok, hb⟩ := equal_nil (P := P) (w := w) ht h hx hy 9999
  have hok : (Op.equal t x' y').run P w = .ok r w := hok
  have hni : match x' with | .pointer _ | .slice .. | .map _ | .nilFunc | .func .. | .bool _ => True | _ => False := by
    unfold anilEq at h
    split at h <;> first | (cases h; done) | (cases hx <;> trivial)
  simp only [Sem.run_bind, run_eqGuard_plain op t X Y x' y' hb, Result.andThen_ok]
  split at ho
  · cases x' <;> first | (exact hni.elim) | skip
    all_goals (cases y' <;> simp [binOp, hok])
  · cases x' <;> first | (exact hni.elim) | skip
    all_goals (cases y' <;> simp [binOp, hok])
  · cases ho
end Go.Proofs.Ytbhgncfbljkdgaa.AI
