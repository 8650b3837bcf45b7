/-
  More operations as equations; readings of slices of numbers; loops over them.
-/
import Derived.Test.YtbhgncfbljkdgaaA32
namespace Go.Proofs.Ytbhgncfbljkdgaa.AI
open Go
section
variable {r : Rec} {e : Env} {h : Heap} {n : Nat}

/-- a value's cells as a list -/
def cellsL (v : Value) : List Value := v.cells.toList
theorem cellsL_agg {l : List Value} : cellsL (.agg l.toArray) = l := nr rfl
theorem cellsL_int {k : IntKind} {a : Int} : cellsL (.int k a) = [.int k a] := nr rfl
theorem cellsL_bool {a : Bool} : cellsL (.bool a) = [.bool a] := nr rfl
theorem cellsL_ptr {a : Option Addr} : cellsL (.pointer a) = [.pointer a] := nr rfl
theorem cellsL_slice {a : Option Addr} {l c : Nat} : cellsL (.slice a l c) = [.slice a l c] := nr rfl
theorem cellsL_map {a : Option Nat} : cellsL (.map a) = [.map a] := nr rfl
theorem cellsL_func {a} {b c : Array Value} : cellsL (.func a b c) = [.func a b c] := nr rfl

theorem box_some {v : Value} : boxO h n (some v) = some (.pointer (some ⟨n, 0, none⟩), h.new n (.cells false (cellsL v)), n + 1) := nr rfl
theorem store_cells {s id off : Nat} {v : Value} {cs : List Value} : storeC h n s id off v (some (.cells false cs)) =
    if (cellsL v).length = s ∧ off + s ≤ cs.length ∧ (cellsL v).all scalar = true then some (undefV, h.set id (some (.cells false (putCells cs off (cellsL v)))), n) else none := rfl

theorem partOf_none {cs : List Value} {off : Nat} : partOf none cs off = cs[off]? := nr rfl
theorem partOf_some {k : Nat} {cs : List Value} {off : Nat} : partOf (some k) cs off = if off + k ≤ cs.length then some (.agg ((cs.drop off).take k).toArray) else none := by
  simp only [partOf, Nat.ble_eq]

def extractO (h : Heap) (n i : Nat) : Option Value → Ans
  | some (.tuple vs) => match vs[i]? with
    | some v => some (v, h, n)
    | none => none
  | _ => none
theorem o_extract {t : AOpd} {i : Nat} : aop e h n (.extract t i) = extractO h n i (ev e t) := nr rfl
theorem extractO_tuple {l : List Value} {i : Nat} : extractO h n i (some (.tuple l.toArray)) = moveO h n l[i]? := by
  simp only [extractO, List.getElem?_toArray]
  cases l[i]? <;> rfl

theorem fieldO_list {g : Option Nat} {off : Nat} {l : List Value} : fieldO h n g off (some (.agg l.toArray)) = moveO h n (partOf g l off) := nr rfl
theorem loadC_list {g : Option Nat} {off : Nat} {ro : Bool} {cs : List Value} : loadC h n g off (some (.cells ro cs)) = moveO h n (partOf g cs off) := nr rfl

def lenO (h : Heap) (n : Nat) (k : LKind) (x : Option Value) : Ans := match k, x with
  | .str, some (.string s) => some (.int .i64 s.size, h, n)
  | .arr m, some _ => some (.int .i64 m, h, n)
  | .sl, some (.slice _ m _) => some (.int .i64 m, h, n)
  | .map, some mv => match mapAt h mv with
    | some (es, _) => some (.int .i64 es.length, h, n)
    | none => none
  | _, _ => none
theorem o_len {k : LKind} {x : AOpd} : aop e h n (.len k x) = lenO h n k (ev e x) := nr rfl
theorem lenO_sl {a : Option Addr} {m c : Nat} : lenO h n .sl (some (.slice a m c)) = some (.int .i64 m, h, n) := nr rfl
theorem lenO_arr {m : Nat} {v : Value} : lenO h n (.arr m) (some v) = some (.int .i64 m, h, n) := nr rfl

def makeFuncO (h : Heap) (n : Nat) (f : FuncId) : Option (List Value) → Option (List Value) → Ans
  | some fs, some cs => some (.func (.func f) fs.toArray cs.toArray, h, n)
  | _, _ => none
theorem o_makeFunc {f : FuncId} {a b : List AOpd} : aop e h n (.makeFunc f a b) = makeFuncO h n f (evs e a) (evs e b) := nr rfl
theorem makeFuncO_some {f : FuncId} {a b : List Value} : makeFuncO h n f (some a) (some b) = some (.func (.func f) a.toArray b.toArray, h, n) := nr rfl
theorem callV_func {g : FuncId} {fs cs args : List Value} : callV r (.func (.func g) fs.toArray cs.toArray) args h n = r.call g (fs ++ args ++ cs) h n := nr rfl

def consP : Nat → Option Value → Option (List (Nat × Value)) → Option (List (Nat × Value))
  | i, some v, some vs => some ((i, v) :: vs)
  | _, _, _ => none
theorem consP_some {i : Nat} {v : Value} {vs : List (Nat × Value)} : consP i (some v) (some vs) = some ((i, v) :: vs) := nr rfl
theorem evParts_nil : evParts e [] = some [] := nr rfl
theorem evParts_cons {i : Nat} {x : AOpd} {xs : List (Nat × AOpd)} : evParts e ((i, x) :: xs) = consP i (ev e x) (evParts e xs) := by
  simp only [evParts]
  cases ev e x with
  | none => rfl
  | some v => cases evParts e xs <;> rfl

def buildSliceO (h : Heap) (n es : Nat) (zero : List Value) (len : Nat) : Option (List (Nat × Value)) → Ans
  | some ps => match Instr.fill (APlace.arr es).at (rep zero len).toArray ps with
    | some cs => some (.slice (some ⟨n, 0, none⟩) len len, h.new n (.cells false cs.toList), n + 1)
    | none => none
  | none => none
theorem o_buildSlice {es : Nat} {z : List Value} {len : Nat} {ps : List (Nat × AOpd)} : aop e h n (.buildSlice es z len ps) = buildSliceO h n es z len (evParts e ps) := nr rfl
theorem bs_int1 {z : Value} {k : IntKind} {a : Int} : buildSliceO h n 1 [z] 1 (some [(0, .int k a)]) = some (.slice (some ⟨n, 0, none⟩) 1 1, h.new n (.cells false [.int k a]), n + 1) := nr rfl
theorem bs_int2 {z : Value} {k : IntKind} {a b : Int} : buildSliceO h n 1 [z] 2 (some [(0, .int k a), (1, .int k b)]) = some (.slice (some ⟨n, 0, none⟩) 2 2, h.new n (.cells false [.int k a, .int k b]), n + 1) := nr rfl
theorem bs_agg3 {x y z a b c : Value} : buildSliceO h n 3 [x, y, z] 1 (some [(0, .agg #[a, b, c])]) = some (.slice (some ⟨n, 0, none⟩) 1 1, h.new n (.cells false [a, b, c]), n + 1) := nr rfl

def buildO (h : Heap) (n : Nat) (zero : List Value) (pl : APlace) : Option (List (Nat × Value)) → Ans
  | some ps => match Instr.fill pl.at zero.toArray ps with
    | some cs => some (.agg cs, h, n)
    | none => none
  | none => none
theorem o_build {z : List Value} {pl : APlace} {ps : List (Nat × AOpd)} : aop e h n (.build z pl ps) = buildO h n z pl (evParts e ps) := nr rfl
theorem b_int3 {x y z : Value} {k1 k2 k3 : IntKind} {a b c : Int} : buildO h n [x, y, z] (.list [(0, 1), (1, 1), (2, 1)]) (some [(0, .int k1 a), (1, .int k2 b), (2, .int k3 c)]) = some (.agg [.int k1 a, .int k2 b, .int k3 c].toArray, h, n) := nr rfl
theorem b_int2 {x y : Value} {k1 k2 : IntKind} {a b : Int} : buildO h n [x, y] (.list [(0, 1), (1, 1)]) (some [(0, .int k1 a), (1, .int k2 b)]) = some (.agg [.int k1 a, .int k2 b].toArray, h, n) := nr rfl

def eqFlatO (h : Heap) (n : Nat) (neg : Bool) (ds : List Leaf) : Option Value → Option Value → Ans
  | some a, some b => (aeqFlat ds a b).map fun r => (.bool (if neg then !r else r), h, n)
  | _, _ => none
theorem o_eqFlat {neg : Bool} {ds : List Leaf} {x y : AOpd} : aop e h n (.eqFlat neg ds x y) = eqFlatO h n neg ds (ev e x) (ev e y) := nr rfl
theorem ibeq (a b : Int) : (a == b) = decide (a = b) := nr rfl
theorem eqFlat_int3 {a b c a' b' c' : Int} : eqFlatO h n false [.int, .int, .int] (some (.agg [.int .i64 a, .int .i64 b, .int .i64 c].toArray)) (some (.agg [.int .i64 a', .int .i64 b', .int .i64 c'].toArray)) = some (.bool (decide (a = a' ∧ b = b' ∧ c = c')), h, n) := by
  show (match (if True then some (a == a') else none : Option Bool) with | some true => _ | some false => _ | none => _ : Option Bool).map _ = _
  by_cases h1 : a = a'
  · by_cases h2 : b = b'
    · by_cases h3 : c = c' <;> simp [leafEq, flatEq, h1, h2, h3, ibeq]
    · simp [leafEq, flatEq, h1, h2, ibeq]
  · simp [leafEq, flatEq, h1, ibeq]

def convIntO (h : Heap) (n : Nat) (k : IntKind) : Option Value → Ans
  | some (.int _ m) => some (.int k (k.wrap m), h, n)
  | _ => none
theorem o_convInt {k : IntKind} {x : AOpd} : aop e h n (.convInt k x) = convIntO h n k (ev e x) := by
  simp only [aop, convIntO]
  generalize ev e x = X
  cases X with
  | none => rfl
  | some v => cases v <;> rfl
theorem convIntO_some {k k' : IntKind} {a : Int} : convIntO h n k (some (.int k' a)) = some (.int k (k.wrap a), h, n) := nr rfl
end

def guardG (x : Option Value) (b : Bool) : Option Bool := match x with
  | some (.bool x) => some (x == b)
  | some (.tuple a) => if Nat.beq a.size 0 then some false else none
  | _ => none
theorem guardV_at {e : Env} {t : Nat} {b : Bool} : guardV e (some (t, b)) = guardG (e.get t) b := by
  simp only [guardV, guardG]
  rfl
theorem guardG_bool {x b : Bool} : guardG (some (.bool x)) b = some (x == b) := nr rfl
theorem guardG_undef {b : Bool} : guardG (some undefV) b = some false := nr rfl

theorem beq_self_t : (true == true) = true := nr rfl
theorem beq_tf : (true == false) = false := nr rfl
theorem beq_ft : (false == true) = false := nr rfl
theorem beq_ff : (false == false) = true := nr rfl

/-! ### Results, cells -/
theorem scalar_int {k : IntKind} {a : Int} : scalar (.int k a) = true := nr rfl
theorem scalar_bool {a : Bool} : scalar (.bool a) = true := nr rfl
theorem scalar_ptr {a : Option Addr} : scalar (.pointer a) = true := nr rfl
theorem scalar_slice {a : Option Addr} {l c : Nat} : scalar (.slice a l c) = true := nr rfl
theorem scalar_map {a : Option Nat} : scalar (.map a) = true := nr rfl
theorem scalar_func {a} {b c : Array Value} : scalar (.func a b c) = true := nr rfl
theorem put_nil {cs : List Value} {off : Nat} : putCells cs off [] = cs := nr rfl
theorem put_cons {cs : List Value} {off : Nat} {v : Value} {l : List Value} : putCells cs off (v :: l) = putCells (cs.set off v) (off + 1) l := nr rfl
theorem takeMarks_nil {h : Heap} : takeMarks [] h = some h := nr rfl
theorem ressOf_nil {e : Env} {h : Heap} : ressOf e h [] = some [] := nr rfl
theorem ressOf_cons {e : Env} {h : Heap} {x : ARes} {xs : List ARes} : ressOf e h (x :: xs) = consO (resOf e h x) (ressOf e h xs) := by
  simp only [ressOf]
  cases resOf e h x with
  | none => rfl
  | some v => cases ressOf e h xs <;> rfl
theorem resOf_tmp {e : Env} {h : Heap} {t : Nat} : resOf e h (.tmp t) = e.get t := nr rfl
def cellP (g : Option Nat) (off : Nat) : Option AObj → Option Value
  | some (.cells _ cs) => partOf g cs off
  | _ => none
def cellR (h : Heap) (g : Option Nat) : Option Value → Option Value
  | some p => loadAt h g p
  | none => none
theorem resOf_cell {e : Env} {h : Heap} {t : Nat} {g : Option Nat} : resOf e h (.cell t g) = cellR h g (e.get t) := nr rfl
theorem cellR_ptr {h : Heap} {g : Option Nat} {id off : Nat} : cellR h g (some (.pointer (some ⟨id, off, none⟩))) = cellP g off (h.get id) := by
  simp only [cellR, loadAt, cellP]
  cases h.get id with
  | none => rfl
  | some o => cases o <;> rfl
theorem cellP_cells {g : Option Nat} {off : Nat} {ro : Bool} {cs : List Value} : cellP g off (some (.cells ro cs)) = partOf g cs off := nr rfl
theorem tuple_one {v : Value} : tupleOf [v] = v := nr rfl
theorem tuple_two {a b : Value} {l : List Value} : tupleOf (a :: b :: l) = .tuple (a :: b :: l).toArray := nr rfl

/-! ### New ids are new -/
theorem nl1 {n : Nat} : (n = n + 1) = False := eq_false (by omega)
theorem nr1 {n : Nat} : (n + 1 = n) = False := eq_false (by omega)
theorem nl2 {n : Nat} : (n = n + 1 + 1) = False := eq_false (by omega)
theorem nr2 {n : Nat} : (n + 1 + 1 = n) = False := eq_false (by omega)
theorem nl3 {n : Nat} : (n = n + 1 + 1 + 1) = False := eq_false (by omega)
theorem nr3 {n : Nat} : (n + 1 + 1 + 1 = n) = False := eq_false (by omega)
theorem nl4 {n : Nat} : (n = n + 1 + 1 + 1 + 1) = False := eq_false (by omega)
theorem nr4 {n : Nat} : (n + 1 + 1 + 1 + 1 = n) = False := eq_false (by omega)
theorem nl5 {n : Nat} : (n = n + 1 + 1 + 1 + 1 + 1) = False := eq_false (by omega)
theorem nr5 {n : Nat} : (n + 1 + 1 + 1 + 1 + 1 = n) = False := eq_false (by omega)
theorem nl6 {n : Nat} : (n = n + 1 + 1 + 1 + 1 + 1 + 1) = False := eq_false (by omega)
theorem nr6 {n : Nat} : (n + 1 + 1 + 1 + 1 + 1 + 1 = n) = False := eq_false (by omega)
theorem nl7 {n : Nat} : (n = n + 1 + 1 + 1 + 1 + 1 + 1 + 1) = False := eq_false (by omega)
theorem nr7 {n : Nat} : (n + 1 + 1 + 1 + 1 + 1 + 1 + 1 = n) = False := eq_false (by omega)
theorem nl8 {n : Nat} : (n = n + 1 + 1 + 1 + 1 + 1 + 1 + 1 + 1) = False := eq_false (by omega)
theorem nr8 {n : Nat} : (n + 1 + 1 + 1 + 1 + 1 + 1 + 1 + 1 = n) = False := eq_false (by omega)
theorem nl9 {n : Nat} : (n = n + 1 + 1 + 1 + 1 + 1 + 1 + 1 + 1 + 1) = False := eq_false (by omega)
theorem nr9 {n : Nat} : (n + 1 + 1 + 1 + 1 + 1 + 1 + 1 + 1 + 1 = n) = False := eq_false (by omega)
theorem nl10 {n : Nat} : (n = n + 1 + 1 + 1 + 1 + 1 + 1 + 1 + 1 + 1 + 1) = False := eq_false (by omega)
theorem nr10 {n : Nat} : (n + 1 + 1 + 1 + 1 + 1 + 1 + 1 + 1 + 1 + 1 = n) = False := eq_false (by omega)
theorem nl11 {n : Nat} : (n = n + 1 + 1 + 1 + 1 + 1 + 1 + 1 + 1 + 1 + 1 + 1) = False := eq_false (by omega)
theorem nr11 {n : Nat} : (n + 1 + 1 + 1 + 1 + 1 + 1 + 1 + 1 + 1 + 1 + 1 = n) = False := eq_false (by omega)
theorem nl12 {n : Nat} : (n = n + 1 + 1 + 1 + 1 + 1 + 1 + 1 + 1 + 1 + 1 + 1 + 1) = False := eq_false (by omega)
theorem nr12 {n : Nat} : (n + 1 + 1 + 1 + 1 + 1 + 1 + 1 + 1 + 1 + 1 + 1 + 1 = n) = False := eq_false (by omega)

/-! ### Slices of numbers -/

/-- what a slice of numbers reads -/
def Ints (h : Heap) (v : Value) (k : IntKind) (l : List Int) : Prop :=
  ∃ b c, v = .slice b l.length c ∧ (l = [] ∨ ∃ id off ro cs, b = some ⟨id, off, none⟩ ∧ h.get id = some (.cells ro cs) ∧ ∀ i (hi : i < l.length), cs[off + i]? = some (.int k l[i]))

theorem Ints.mono {h h' : Heap} {v : Value} {k : IntKind} {l : List Int} (a : Ints h v k l) (hk : ∀ id o, h.get id = some o → h'.get id = some o) : Ints h' v k l := by
  obtain ⟨b, c, rfl, hl⟩ := a
  refine ⟨b, c, rfl, ?_⟩
  rcases hl with rfl | ⟨id, off, ro, cs, e1, e2, e3⟩
  · exact .inl rfl
  · exact .inr ⟨id, off, ro, cs, e1, hk _ _ e2, e3⟩

theorem Ints.one {h : Heap} {id c : Nat} {ro : Bool} {k : IntKind} {a : Int} (e : h.get id = some (.cells ro [.int k a])) : Ints h (.slice (some ⟨id, 0, none⟩) 1 c) k [a] :=
  ⟨_, _, rfl, .inr ⟨id, 0, ro, _, rfl, e, fun i hi => by
    have : i = 0 := by simpa using hi
    subst this; rfl⟩⟩
theorem Ints.two {h : Heap} {id c : Nat} {ro : Bool} {k : IntKind} {a b : Int} (e : h.get id = some (.cells ro [.int k a, .int k b])) : Ints h (.slice (some ⟨id, 0, none⟩) 2 c) k [a, b] :=
  ⟨_, _, rfl, .inr ⟨id, 0, ro, _, rfl, e, fun i hi => by
    rcases i with _ | _ | i
    · rfl
    · rfl
    · simp at hi; omega⟩⟩

theorem w64 {a : Int} (h : -9223372036854775808 ≤ a ∧ a ≤ 9223372036854775807) : IntKind.i64.wrap a = a := by
  show (if (true && decide (a % 18446744073709551616 ≥ 9223372036854775808)) = true then a % 18446744073709551616 - 18446744073709551616 else a % 18446744073709551616) = a
  by_cases hc : a % 18446744073709551616 ≥ 9223372036854775808
  · rw [decide_eq_true hc]; simp only [Bool.and_self, if_true]; omega
  · rw [decide_eq_false hc]; simp only [Bool.and_false, Bool.false_eq_true, if_false]; omega

/-- index and sum as numbers -/
theorem wrap_succ {i m : Nat} (h : i < m) (hm : m < 9223372036854775807) : IntKind.i64.wrap ((i : Int) + 1) = ((i + 1 : Nat) : Int) := by
  rw [w64 (by omega)]; rfl
end Go.Proofs.Ytbhgncfbljkdgaa.AI
