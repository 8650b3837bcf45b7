/-
  Contracts: what is told of a function by a relation; operations as equations for 'simp'.
-/
import Derived.Test.YtbhgncfbljkdgaaA31
namespace Go.Proofs.Ytbhgncfbljkdgaa.AI
open Go

/-- every heap is finite -/
theorem Tr.bound {α : Type} : ∀ t : Tr α, ∃ N, ∀ id o, t.get id = some o → id < N
  | .leaf => ⟨0, fun id o e => by simp [Tr.get] at e⟩
  | .node l o r => by
    obtain ⟨a, ha⟩ := Tr.bound l
    obtain ⟨b, hb⟩ := Tr.bound r
    refine ⟨2 * a + 2 * b + 3, fun id x e => ?_⟩
    simp only [Tr.get] at e
    split at e
    · rename_i h; have := Nat.eq_of_beq_eq_true h; omega
    · split at e
      · have := ha _ _ e; omega
      · have := hb _ _ e; omega

theorem Heap.bound (h : Heap) : ∃ N, Dom h N := Tr.bound h.t

abbrev PSpec := List Value → Heap → Value → Prop

open Classical in
noncomputable def relOra (Sp : PSpec) : List Value → Heap → Nat → Option (Value × Heap × Nat) := fun args h n =>
  if H : ∃ v, Sp args h v then some (H.choose, h, n) else none

/-- A PURE FUNCTION, TOLD BY A RELATION -/
theorem OraOK.pureRel {P : Program} {AP : FuncId → Option AFunc} {O : Ora} (ho : OraOK P O) (htab : TabOK P AP) (hmix : P.follows .mixedOrders = true) {f : FuncId} (hgf : goFunc P f = true) {Sp : PSpec}
    (H : ∀ {args h v}, Sp args h v → plainB v = true ∧ ∀ n, Dom h n → WPv ((RO AP O).call f args h n) fun v' h' _ => v' = v ∧ Keeps n h h') :
    OraOK P (Ora.nil.add f (relOra Sp)) ∧ ∀ {args h v}, Sp args h v → ∀ n, relOra Sp args h n = some (v, h, n) := by
  have uniq : ∀ {args h v}, Sp args h v → ∀ n, relOra Sp args h n = some (v, h, n) := by
    intro args h v hs n
    unfold relOra
    have hex : ∃ v, Sp args h v := ⟨v, hs⟩
    rw [dif_pos hex]
    obtain ⟨N, hN⟩ := h.bound
    obtain ⟨_, _, _, e1, rfl, _⟩ := (H hex.choose_spec).2 N hN
    obtain ⟨_, _, _, e2, e3, _⟩ := (H hs).2 N hN
    rw [e1] at e2
    cases e2
    rw [e3]
  refine ⟨?_, uniq⟩
  have e : relOra Sp = pureOra (fun args h => (relOra Sp args h 0).map (·.1)) := by
    funext args h n
    by_cases hx : ∃ v, Sp args h v
    · simp [relOra, pureOra, hx]
    · simp [relOra, pureOra, hx]
  rw [e]
  refine OraOK.pure ho htab hmix hgf ?_
  intro args h v hv
  unfold relOra at hv
  split at hv
  · rename_i hex
    cases hv
    obtain ⟨p, q⟩ := H hex.choose_spec
    refine ⟨p, fun n hd => ?_⟩
    obtain ⟨v', h', n', e1, rfl, hk⟩ := q n hd
    exact ⟨h', n', e1, hk⟩
  · cases hv

theorem RO_told {AP : FuncId → Option AFunc} {O : Ora} {f : FuncId} {g : List Value → Heap → Nat → Option (Value × Heap × Nat)} {a : List Value} {h : Heap} {n : Nat} {x : Value × Heap × Nat} (hf : O f = some g) (e : g a h n = some x) : (RO AP O).call f a h n = some x := RO_ora hf e

/-! ### Operations as equations -/
section
variable {r : Rec} {e : Env} {h : Heap} {n : Nat}
theorem x_move {x : AOpd} : opx r e h n (.move x) = aop e h n (.move x) := nr rfl
theorem x_pick {x y z : AOpd} : opx r e h n (.pick x y z) = aop e h n (.pick x y z) := nr rfl
theorem x_alloc {x : List Value} : opx r e h n (.alloc x) = aop e h n (.alloc x) := nr rfl
theorem x_box {x : AOpd} : opx r e h n (.box x) = aop e h n (.box x) := nr rfl
theorem x_build {x y z} : opx r e h n (.build x y z) = aop e h n (.build x y z) := nr rfl
theorem x_buildSlice {a b c d} : opx r e h n (.buildSlice a b c d) = aop e h n (.buildSlice a b c d) := nr rfl
theorem x_load {a b} : opx r e h n (.load a b) = aop e h n (.load a b) := nr rfl
theorem x_store {a b c} : opx r e h n (.store a b c) = aop e h n (.store a b c) := nr rfl
theorem x_nilCheck {a} : opx r e h n (.nilCheck a) = aop e h n (.nilCheck a) := nr rfl
theorem x_bin {a b c} : opx r e h n (.bin a b c) = aop e h n (.bin a b c) := nr rfl
theorem x_eqFlat {a b c d} : opx r e h n (.eqFlat a b c d) = aop e h n (.eqFlat a b c d) := nr rfl
theorem x_nilEq {a b c d} : opx r e h n (.nilEq a b c d) = aop e h n (.nilEq a b c d) := nr rfl
theorem x_un {a b} : opx r e h n (.un a b) = aop e h n (.un a b) := nr rfl
theorem x_convInt {a b} : opx r e h n (.convInt a b) = aop e h n (.convInt a b) := nr rfl
theorem x_convId {a} : opx r e h n (.convId a) = aop e h n (.convId a) := nr rfl
theorem x_makeFunc {a b c} : opx r e h n (.makeFunc a b c) = aop e h n (.makeFunc a b c) := nr rfl
theorem x_makeMap : opx r e h n .makeMap = aop e h n .makeMap := nr rfl
theorem x_makeSlice {a b c d f} : opx r e h n (.makeSlice a b c d f) = aop e h n (.makeSlice a b c d f) := nr rfl
theorem x_slice {a b c d f} : opx r e h n (.slice a b c d f) = aop e h n (.slice a b c d f) := nr rfl
theorem x_fieldAddr {a b} : opx r e h n (.fieldAddr a b) = aop e h n (.fieldAddr a b) := nr rfl
theorem x_field {a b c} : opx r e h n (.field a b c) = aop e h n (.field a b c) := nr rfl
theorem x_indexAddr {a b c d} : opx r e h n (.indexAddr a b c d) = aop e h n (.indexAddr a b c d) := nr rfl
theorem x_indexArr {a b c d f} : opx r e h n (.indexArr a b c d f) = aop e h n (.indexArr a b c d f) := nr rfl
theorem x_lookup {a b c d f} : opx r e h n (.lookup a b c d f) = aop e h n (.lookup a b c d f) := nr rfl
theorem x_mapUpdate {a b c d} : opx r e h n (.mapUpdate a b c d) = aop e h n (.mapUpdate a b c d) := nr rfl
theorem x_mapEntry {a b c d} : opx r e h n (.mapEntry a b c d) = aop e h n (.mapEntry a b c d) := nr rfl
theorem x_entryStore {a b c} : opx r e h n (.entryStore a b c) = aop e h n (.entryStore a b c) := nr rfl
theorem x_extract {a b} : opx r e h n (.extract a b) = aop e h n (.extract a b) := nr rfl
theorem x_len {a b} : opx r e h n (.len a b) = aop e h n (.len a b) := nr rfl
theorem x_append {a b c d} : opx r e h n (.append a b c d) = aop e h n (.append a b c d) := nr rfl
theorem x_copy {a b c} : opx r e h n (.copy a b c) = aop e h n (.copy a b c) := nr rfl
theorem x_clearMap {a} : opx r e h n (.clearMap a) = aop e h n (.clearMap a) := nr rfl
theorem x_clearSlice {a b} : opx r e h n (.clearSlice a b) = aop e h n (.clearSlice a b) := nr rfl
theorem x_delete {a b c} : opx r e h n (.delete a b c) = aop e h n (.delete a b c) := nr rfl
theorem x_minmax {a b} : opx r e h n (.minmax a b) = aop e h n (.minmax a b) := nr rfl
theorem x_call {f args} : opx r e h n (.call f args) = match evs e args with | some vs => r.call f vs h n | none => none := nr rfl
theorem x_callv {f args} : opx r e h n (.callv f args) = match ev e f, evs e args with | some fv, some vs => callV r fv vs h n | _, _ => none := nr rfl

theorem get_self {t : Nat} {v : Value} : Env.get ((t, v) :: e) t = some v := by simp [Env.get]
theorem get_ne {t u : Nat} {v : Value} (h : Nat.beq t u = false) : Env.get ((t, v) :: e) u = Env.get e u := by simp only [Env.get, h]; simp
theorem get_cons {t u : Nat} {v : Value} : Env.get ((t, v) :: e) u = if t = u then some v else Env.get e u := by
  simp only [Env.get]
  by_cases h : t = u
  · subst h; simp
  · have : Nat.beq t u = false := by
      cases hb : Nat.beq t u with
      | false => rfl
      | true => exact absurd (Nat.eq_of_beq_eq_true hb) h
    simp [this, h]
theorem ev_tmp {t : Nat} : ev e (.tmp t) = e.get t := nr rfl
theorem ev_const {v : Value} : ev e (.const v) = some v := nr rfl
theorem ev_fn {f : Nat} : ev e (.fn f) = some (.func (.func f) #[] #[]) := nr rfl
theorem put_some {d : Nat} {v : Value} : putDst e (some d) v = (d, v) :: e := nr rfl
theorem put_none {v : Value} : putDst e none v = e := nr rfl
theorem evs_nil : evs e [] = some [] := nr rfl
/-- one more to a list -/
def consO : Option Value → Option (List Value) → Option (List Value)
  | some v, some vs => some (v :: vs)
  | _, _ => none
theorem consO_some {v : Value} {vs : List Value} : consO (some v) (some vs) = some (v :: vs) := nr rfl
theorem evs_cons {x : AOpd} {xs : List AOpd} : evs e (x :: xs) = consO (ev e x) (evs e xs) := by
  simp only [evs]
  cases ev e x with
  | none => rfl
  | some v => cases evs e xs <;> rfl

abbrev Ans := Option (Value × Heap × Nat)

def callO (r : Rec) (f : FuncId) (h : Heap) (n : Nat) : Option (List Value) → Ans
  | some vs => r.call f vs h n
  | none => none
theorem o_call {f : FuncId} {args : List AOpd} : opx r e h n (.call f args) = callO r f h n (evs e args) := nr rfl
theorem callO_some {f : FuncId} {vs : List Value} : callO r f h n (some vs) = r.call f vs h n := nr rfl
def callvO (r : Rec) (h : Heap) (n : Nat) : Option Value → Option (List Value) → Ans
  | some fv, some vs => callV r fv vs h n
  | _, _ => none
theorem o_callv {f : AOpd} {args : List AOpd} : opx r e h n (.callv f args) = callvO r h n (ev e f) (evs e args) := nr rfl
theorem callvO_some {fv : Value} {vs : List Value} : callvO r h n (some fv) (some vs) = callV r fv vs h n := nr rfl

def moveO (h : Heap) (n : Nat) (x : Option Value) : Ans := x.map (·, h, n)
theorem o_move {x : AOpd} : aop e h n (.move x) = moveO h n (ev e x) := nr rfl
theorem moveO_some {v : Value} : moveO h n (some v) = some (v, h, n) := nr rfl

def pickO (h : Heap) (n : Nat) (c a b : Option Value) : Ans := match c with
  | some (.bool true) => moveO h n a
  | some (.bool false) => moveO h n b
  | _ => none
theorem o_pick {x y z : AOpd} : aop e h n (.pick x y z) = pickO h n (ev e x) (ev e y) (ev e z) := nr rfl
theorem pickO_true {a b : Option Value} : pickO h n (some (.bool true)) a b = moveO h n a := nr rfl
theorem pickO_false {a b : Option Value} : pickO h n (some (.bool false)) a b = moveO h n b := nr rfl
theorem pickO_bool {c x y : Bool} : pickO h n (some (.bool c)) (some (.bool x)) (some (.bool y)) = some (.bool (bif c then x else y), h, n) := by cases c <;> rfl

def boxO (h : Heap) (n : Nat) : Option Value → Ans
  | some v => some (.pointer (some ⟨n, 0, none⟩), h.new n (.cells false v.cells.toList), n + 1)
  | none => none
theorem o_box {x : AOpd} : aop e h n (.box x) = boxO h n (ev e x) := nr rfl
theorem boxO_some {v : Value} : boxO h n (some v) = some (.pointer (some ⟨n, 0, none⟩), h.new n (.cells false v.cells.toList), n + 1) := nr rfl
theorem o_alloc {z : List Value} : aop e h n (.alloc z) = some (.pointer (some ⟨n, 0, none⟩), h.new n (.cells false z), n + 1) := nr rfl

def loadC (h : Heap) (n : Nat) (g : Option Nat) (off : Nat) : Option AObj → Ans
  | some (.cells _ cs) => (partOf g cs off).map (·, h, n)
  | _ => none
def loadO (h : Heap) (n : Nat) (g : Option Nat) : Option Value → Ans
  | some p => (loadAt h g p).map (·, h, n)
  | none => none
theorem o_load {g : Option Nat} {x : AOpd} : aop e h n (.load g x) = loadO h n g (ev e x) := nr rfl
theorem loadO_ptr {g : Option Nat} {id off : Nat} : loadO h n g (some (.pointer (some ⟨id, off, none⟩))) = loadC h n g off (h.get id) := by
  simp only [loadO, loadAt, loadC]
  cases h.get id with
  | none => rfl
  | some o => cases o <;> rfl
theorem loadC_cells {g : Option Nat} {off : Nat} {ro : Bool} {cs : List Value} : loadC h n g off (some (.cells ro cs)) = (partOf g cs off).map (·, h, n) := nr rfl

def storeC (h : Heap) (n size id off : Nat) (v : Value) : Option AObj → Ans
  | some (.cells false cs) => if v.cells.toList.length = size ∧ off + size ≤ cs.length ∧ v.cells.toList.all scalar = true then some (undefV, h.set id (some (.cells false (putCells cs off v.cells.toList))), n) else none
  | _ => none
def storeO (h : Heap) (n size : Nat) : Option Value → Option Value → Ans
  | some p, some x => (storeAt h size p x).map (undefV, ·, n)
  | _, _ => none
theorem o_store {s : Nat} {x y : AOpd} : aop e h n (.store s x y) = storeO h n s (ev e x) (ev e y) := nr rfl
theorem storeO_ptr {s id off : Nat} {v : Value} : storeO h n s (some (.pointer (some ⟨id, off, none⟩))) (some v) = storeC h n s id off v (h.get id) := by
  simp only [storeO, storeAt, storeC]
  cases h.get id with
  | none => rfl
  | some o =>
    cases o with
    | cells ro cs =>
      cases ro with
      | true => rfl
      | false =>
        by_cases hc : v.cells.toList.length = s ∧ off + s ≤ cs.length ∧ v.cells.toList.all scalar = true
        · simp only [if_pos hc]
          rw [if_pos (by simpa [and_assoc, Nat.ble_eq] using hc)]
          rfl
        · simp only [if_neg hc]
          rw [if_neg (by simpa [and_assoc, Nat.ble_eq] using hc)]
          rfl
    | map _ _ => rfl
    | loop _ _ _ _ _ _ => rfl
    | mark _ => rfl
theorem storeC_cells {s id off : Nat} {v : Value} {cs : List Value} (h1 : v.cells.toList.length = s ∧ off + s ≤ cs.length ∧ v.cells.toList.all scalar = true) :
    storeC h n s id off v (some (.cells false cs)) = some (undefV, h.set id (some (.cells false (putCells cs off v.cells.toList))), n) := by simp only [storeC, if_pos h1]

def binO (h : Heap) (n : Nat) (op : BinOp) : Option Value → Option Value → Ans
  | some a, some b => (abin op a b).map (·, h, n)
  | _, _ => none
theorem o_bin {op : BinOp} {x y : AOpd} : aop e h n (.bin op x y) = binO h n op (ev e x) (ev e y) := nr rfl
section
variable {k : IntKind} {a b : Int}
theorem bin_add : binO h n .add (some (.int k a)) (some (.int k b)) = some (.int k (k.wrap (a + b)), h, n) := by simp [binO, abin, aint]
theorem bin_sub : binO h n .sub (some (.int k a)) (some (.int k b)) = some (.int k (k.wrap (a - b)), h, n) := by simp [binO, abin, aint]
theorem bin_mul : binO h n .mul (some (.int k a)) (some (.int k b)) = some (.int k (k.wrap (a * b)), h, n) := by simp [binO, abin, aint]
theorem bin_quo (hb : b ≠ 0) : binO h n .quo (some (.int k a)) (some (.int k b)) = some (.int k (k.wrap (a.tdiv b)), h, n) := by simp [binO, abin, aint, hb]
theorem bin_rem (hb : b ≠ 0) : binO h n .rem (some (.int k a)) (some (.int k b)) = some (.int k (a.tmod b), h, n) := by simp [binO, abin, aint, hb]
theorem bin_eql : binO h n .eql (some (.int k a)) (some (.int k b)) = some (.bool (decide (a = b)), h, n) := by
  simp [binO, abin, aint]; rfl
theorem bin_neq : binO h n .neq (some (.int k a)) (some (.int k b)) = some (.bool (!decide (a = b)), h, n) := by
  simp [binO, abin, aint]; rfl
theorem bin_lss : binO h n .lss (some (.int k a)) (some (.int k b)) = some (.bool (decide (a < b)), h, n) := by simp [binO, abin, aint]
theorem bin_leq : binO h n .leq (some (.int k a)) (some (.int k b)) = some (.bool (decide (a ≤ b)), h, n) := by simp [binO, abin, aint]
theorem bin_gtr : binO h n .gtr (some (.int k a)) (some (.int k b)) = some (.bool (decide (b < a)), h, n) := by simp [binO, abin, aint]
theorem bin_geq : binO h n .geq (some (.int k a)) (some (.int k b)) = some (.bool (decide (b ≤ a)), h, n) := by simp [binO, abin, aint]
end

def unO (h : Heap) (n : Nat) (op : UnOp) : Option Value → Ans
  | some a => (aun op a).map (·, h, n)
  | none => none
theorem o_un {op : UnOp} {x : AOpd} : aop e h n (.un op x) = unO h n op (ev e x) := nr rfl
theorem un_not {b : Bool} : unO h n .not (some (.bool b)) = some (.bool (!b), h, n) := nr rfl
theorem un_neg {k : IntKind} {a : Int} : unO h n .neg (some (.int k a)) = some (.int k (k.wrap (0 - a)), h, n) := nr rfl

def fieldAddrO (h : Heap) (n off : Nat) : Option Value → Ans
  | some (.pointer (some ⟨id, o, none⟩)) => some (.pointer (some ⟨id, o + off, none⟩), h, n)
  | _ => none
theorem o_fieldAddr {off : Nat} {x : AOpd} : aop e h n (.fieldAddr off x) = fieldAddrO h n off (ev e x) := nr rfl
theorem fieldAddrO_ptr {id o off : Nat} : fieldAddrO h n off (some (.pointer (some ⟨id, o, none⟩))) = some (.pointer (some ⟨id, o + off, none⟩), h, n) := nr rfl

def fieldO (h : Heap) (n : Nat) (g : Option Nat) (off : Nat) : Option Value → Ans
  | some (.agg cs) => (partOf g cs.toList off).map (·, h, n)
  | _ => none
theorem o_field {g : Option Nat} {off : Nat} {x : AOpd} : aop e h n (.field g off x) = fieldO h n g off (ev e x) := nr rfl
theorem fieldO_agg {g : Option Nat} {off : Nat} {cs : Array Value} : fieldO h n g off (some (.agg cs)) = (partOf g cs.toList off).map (·, h, n) := nr rfl

def indexAddrO (h : Heap) (n es : Nat) : Option Value → Option Value → Ans
  | some (.slice (some ⟨id, o, none⟩) len _), some iv => match asIx iv with
    | some j => if Nat.blt j len then some (.pointer (some ⟨id, o + j * es, none⟩), h, n) else none
    | none => none
  | _, _ => none
theorem o_indexAddr {es : Nat} {x i : AOpd} : aop e h n (.indexAddr none es x i) = indexAddrO h n es (ev e x) (ev e i) := by
  simp only [aop]
  generalize ev e x = X
  generalize ev e i = I
  cases X with
  | none => rfl
  | some v =>
    cases v with
    | slice b len cap =>
      cases b with
      | none => rfl
      | some a =>
        obtain ⟨id, o, sp⟩ := a
        cases sp with
        | some _ => rfl
        | none => cases I <;> rfl
    | _ => rfl
theorem indexAddrO_at {es id o len cap j : Nat} {k : IntKind} (hj : j < len) : indexAddrO h n es (some (.slice (some ⟨id, o, none⟩) len cap)) (some (.int k j)) = some (.pointer (some ⟨id, o + j * es, none⟩), h, n) := by
  have hb : Nat.blt j len = true := by simpa [Nat.blt_eq] using hj
  show (match asIx (.int k (Int.ofNat j)) with | some j => if Nat.blt j len then some (Value.pointer (some ⟨id, o + j * es, none⟩), h, n) else none | none => none) = _
  simp only [asIx, hb, if_true]
end
end Go.Proofs.Ytbhgncfbljkdgaa.AI
