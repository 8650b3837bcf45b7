/-
  The relation between an abstract heap and a world; how it goes on when memory is made or changed. The check that abstract code is that of the program.
-/
import Derived.Test.YtbhgncfbljkdgaaA1
namespace Go.Proofs.Ytbhgncfbljkdgaa.AI
open Go

/-! ### The check of code -/

def chkOpd : Operand → AOpd → Bool
  | .tmp t, .tmp u => Nat.beq t u
  | .func f, .fn g => Nat.beq f g
  | .const (.bool a), .const (.bool b) => a == b
  | .const (.int k a), .const (.int k' b) => decide (k = k') && decide (a = b)
  | .const (.string a), .const (.string b) => decide (a = b)
  | .const (.pointer none), .const (.pointer none) => true
  | .const (.slice none 0 0), .const (.slice none 0 0) => true
  | .const (.map none), .const (.map none) => true
  | .const .nilFunc, .const .nilFunc => true
  | .const .nilIface, .const .nilIface => true
  | _, _ => false

def chkOpds : List Operand → List AOpd → Bool
  | [], [] => true
  | x :: xs, y :: ys => chkOpd x y && chkOpds xs ys
  | _, _ => false

def chkParts : List (Nat × Operand) → List (Nat × AOpd) → Bool
  | [], [] => true
  | (i, x) :: xs, (j, y) :: ys => Nat.beq i j && chkOpd x y && chkParts xs ys
  | _, _ => false

def chkOpt : Option Operand → Option AOpd → Bool
  | none, none => true
  | some x, some y => chkOpd x y
  | _, _ => false

/-- is a type's value an aggregate, and of how many cells -/
def tAgg (P : Program) (t : TypeId) : Option (Option Nat) :=
  match P.underlying t, P.info? t with
  | some (.struct _), some i | some (.array _ _), some i => some (some i.size)
  | some _, some _ => some none
  | _, _ => none

def optNatBeq : Option Nat → Option Nat → Bool
  | none, none => true
  | some a, some b => Nat.beq a b
  | _, _ => false

def chkAgg (P : Program) (t : TypeId) (agg : Option Nat) : Bool := match tAgg P t with | some a => optNatBeq a agg | none => false

/-- two lists of plain cells are the same -/
def cellBeq : Value → Value → Bool
  | .bool a, .bool b => a == b
  | .int k a, .int k' b => decide (k = k') && decide (a = b)
  | .string a, .string b => decide (a = b)
  | .pointer none, .pointer none => true
  | .slice none 0 0, .slice none 0 0 => true
  | .map none, .map none => true
  | .nilFunc, .nilFunc => true
  | .nilIface, .nilIface => true
  | _, _ => false

def cellsBeq : List Value → List Value → Bool
  | [], [] => true
  | x :: xs, y :: ys => cellBeq x y && cellsBeq xs ys
  | _, _ => false

/-- is this the zero value's row of cells -/
def chkZero (P : Program) (t : TypeId) (zero : List Value) : Bool :=
  match (P.info? t).bind (·.zero) with
  | some z => cellsBeq z.cells.toList zero
  | none => false

/-- is this the zero value -/
def chkZeroV (P : Program) (t : TypeId) (zero : Value) : Bool :=
  match (P.info? t).bind (·.zero), zero with
  | some (.agg cs), .agg ds => cellsBeq cs.toList ds.toList
  | some z, v => cellBeq z v
  | _, _ => false

def sizeIs (P : Program) (t : TypeId) (n : Nat) : Bool := match P.info? t with | some i => Nat.beq i.size n | none => false
def bytesIs (P : Program) (t : TypeId) (n : Nat) : Bool := match P.info? t with | some i => Nat.beq i.bytes n | none => false
def elemOfSlice (P : Program) (t : TypeId) : Option TypeId := match P.underlying t with | some (.slice e) => some e | _ => none

def chkFields (P : Program) : List Field → List (Nat × Nat) → Bool
  | [], [] => true
  | f :: fs, (o, s) :: l => Nat.beq f.offset o && sizeIs P f.type s && chkFields P fs l
  | _, _ => false

def chkPlace (P : Program) (t : TypeId) : APlace → Bool
  | .list l => match P.underlying t with | some (.struct fs) => chkFields P fs.toList l | _ => false
  | .arr s => match P.underlying t with | some (.array _ e) => sizeIs P e s | _ => false

def leafOf : TypeDesc → Option Leaf
  | .int _ => some .int
  | .bool => some .bool
  | .string => some .str
  | _ => none

def leafBeq : Leaf → Leaf → Bool
  | .int, .int | .bool, .bool | .str, .str => true
  | _, _ => false

/-- a struct whose fields are single cells that can be compared, one behind another -/
def chkLeaves (P : Program) : Nat → List Field → List Leaf → Bool
  | _, [], [] => true
  | i, f :: fs, d :: ds => Nat.beq f.offset i && f.name != "_" && (match P.underlying f.type with | some u => (match leafOf u with | some d' => leafBeq d' d | none => false) | none => false) && (match P.info? f.type with | some _ => true | none => false) && chkLeaves P (i + 1) fs ds
  | _, _, _ => false

def chkAll (d : Leaf) : Nat → List Leaf → Bool
  | 0, [] => true
  | n + 1, x :: xs => leafBeq d x && chkAll d n xs
  | _, _ => false

def chkFlat (P : Program) (t : TypeId) (ds : List Leaf) : Bool :=
  match P.underlying t with
  | some (.struct fs) => !P.stoodInHeld t && chkLeaves P 0 fs.toList ds
  | some (.array n e) => sizeIs P e 1 && (match P.underlying e with | some u => (match leafOf u with | some d => chkAll d n ds | none => false) | none => false)
  | _ => false

def chkKey (P : Program) (t : TypeId) : AKey → Bool
  | .now d => match P.underlying t, d with
    | some (.int k), .int k' => decide (k = k')
    | some .string, .string => true
    | some .bool, .bool => true
    | _, _ => false
  | .flat ds => chkFlat P t ds && (match P.underlying t with | some (.struct _) => true | _ => false)

def mapOf (P : Program) (t : TypeId) : Option (TypeId × TypeId) := match P.underlying t with | some (.map k e) => some (k, e) | _ => none

def nilEqType (P : Program) (t : TypeId) (k : NKind) : Bool :=
  match P.underlying t, k with
  | some (.pointer _), .ptr | some (.slice _), .sl | some (.map _ _), .map | some (.func _ _ _), .fn | some .bool, .bool => true
  | _, _ => false

def chkBin (P : Program) (op : BinOp) (t : TypeId) (op' : BinOp) : Bool := decide (op = op') && (match P.underlying t with | some (.int _) | some .string => true | _ => false)

def boolType (P : Program) (t : TypeId) : Bool := match P.underlying t with | some .bool => true | _ => false

def chkBuiltin (P : Program) (b : Builtin) (ts : List TypeId) (args : List Operand) (a : AOp) : Bool :=
  match b, ts, args, a with
  | .len, t :: _, [x], .len k y => chkOpd x y && (match P.underlying t, k with
    | some .string, .str | some (.slice _), .sl | some (.map _ _), .map => true
    | some (.array n _), .arr m => Nat.beq n m
    | some (.pointer e), .arr m => (match P.underlying e with | some (.array n _) => Nat.beq n m | _ => false)
    | _, _ => false)
  | .append, t :: t2 :: _, [x, y], .append e bytes x' y' => chkOpd x x' && chkOpd y y' && (match elemOfSlice P t with
    | some el => sizeIs P el e && bytesIs P el bytes && (match (P.info? el).bind (·.zero) with | some z => Nat.beq z.cells.size e | none => false)
    | none => false) && (match P.underlying t2 with | some (.slice _) | some .string => true | _ => false)
  | .copy, t :: _, [x, y], .copy e x' y' => chkOpd x x' && chkOpd y y' && (match elemOfSlice P t with | some el => sizeIs P el e | none => false)
  | .clear, t :: _, [x], .clearMap y => chkOpd x y && (match P.underlying t with | some _ => true | none => false)
  | .clear, t :: _, [x], .clearSlice zero y => chkOpd x y && (match elemOfSlice P t with | some el => chkZero P el zero | none => false)
  | .delete, t :: _, [x, y], .delete key x' y' => chkOpd x x' && chkOpd y y' && (match mapOf P t with | some (k, _) => chkKey P k key | none => false)
  | .max, _, xs, .minmax true ys => chkOpds xs ys
  | .min, _, xs, .minmax false ys => chkOpds xs ys
  | _, _, _, _ => false

/-- a function with a Go body -/
def goFunc (P : Program) (f : FuncId) : Bool := match P.funcs[f]? with | some fn => fn.name != "runtime.NumGoroutine" && fn.body.isSome | none => false

def chkOp (P : Program) (op : Op) (a : AOp) : Bool :=
  match op, a with
  | _, .bad => true
  | .move x, .move y | .assign x, .move y => chkOpd x y
  | .pick c x y, .pick c' x' y' => chkOpd c c' && chkOpd x x' && chkOpd y y'
  | .alloc t, .alloc zero => chkZero P t zero
  | .box _ x, .box y => chkOpd x y
  | .build t ps, .build zero pl ps' => chkZero P t zero && chkPlace P t pl && chkParts ps.toList ps'
  | .buildSlice t l ps, .buildSlice e zero l' ps' => Nat.beq l l' && (Nat.ble (l * e) 16777216 && Nat.ble l 16777216) && chkParts ps.toList ps' && (match elemOfSlice P t with | some el => sizeIs P el e && Nat.beq zero.length e && chkZero P el zero | none => false)
  | .load t x, .load agg y => chkAgg P t agg && chkOpd x y
  | .store t x y, .store size x' y' => sizeIs P t size && chkOpd x x' && chkOpd y y'
  | .nilCheck x, .nilCheck y => chkOpd x y
  | .binOp op t x y _, .bin op' x' y' => (chkBin P op t op' || (decide (op = op'))) && chkOpd x x' && chkOpd y y'
  | .binOp op t x y _, .eqFlat neg ds x' y' => (match op, neg with | .eql, false | .neq, true => true | _, _ => false) && ((chkFlat P t ds && !P.eqGuardType P.depth t)) && chkOpd x x' && chkOpd y y'
  | .binOp op t x y _, .nilEq neg k x' y' => (match op, neg with | .eql, false | .neq, true => true | _, _ => false) && nilEqType P t k && chkOpd x x' && chkOpd y y'
  | .unOp op _ x, .un op' y => decide (op = op') && chkOpd x y
  | .convert s d x, .convInt k y => chkOpd x y && (match P.underlying s, P.underlying d with | some _, some (.int k') => decide (k = k') | _, _ => false)
  | .convert s d x, .convId y => chkOpd x y && (match P.underlying s, P.underlying d with | some .string, some .string => true | _, _ => false)
  | .convert s d x, .convBytes y => chkOpd x y && (match P.underlying s, P.underlying d with | some .string, some (.slice e) => (match P.underlying e with | some (.int .u8) => true | _ => false) | _, _ => false)
  | .makeFunc (.func f) first cap, .makeFunc g first' cap' => Nat.beq f g && chkOpds first.toList first' && chkOpds cap.toList cap'
  | .makeMap _ none, .makeMap => true
  | .makeSlice t l c, .makeSlice e bytes zero l' c' => chkOpd l l' && chkOpd c c' && (match elemOfSlice P t with | some el => sizeIs P el e && bytesIs P el bytes && Nat.beq zero.length e && chkZero P el zero | none => false)
  | .slice t x lo hi mx, .slice k y lo' hi' mx' => chkOpd x y && chkOpt lo lo' && chkOpt hi hi' && chkOpt mx mx' && (match P.underlying t, k with
    | some .string, .str => true
    | some (.slice el), .sl e => sizeIs P el e
    | some (.array n el), .arr m e => Nat.beq n m && sizeIs P el e
    | some (.pointer ar), .arr m e => (match P.underlying ar with | some (.array n el) => Nat.beq n m && sizeIs P el e | _ => false)
    | _, _ => false)
  | .fieldAddr t x f, .fieldAddr off y => chkOpd x y && (match P.underlying t with | some (.struct fs) => (match fs[f]? with | some fd => Nat.beq fd.offset off && (match P.info? fd.type with | some i => !Nat.beq i.size 0 | none => false) | none => false) | _ => false)
  | .field t x f, .field agg off y => chkOpd x y && (match P.underlying t with | some (.struct fs) => (match fs[f]? with | some fd => Nat.beq fd.offset off && chkAgg P fd.type agg | none => false) | _ => false)
  | .indexAddr t x i, .indexAddr arr e y j => chkOpd x y && chkOpd i j && (match P.underlying t, arr with
    | some (.slice el), none => sizeIs P el e
    | some (.array n el), some m => Nat.beq n m && sizeIs P el e
    | _, _ => false)
  | .index t x i, .indexStr y j => chkOpd x y && chkOpd i j && (match P.underlying t with | some .string => true | _ => false)
  | .index t x i, .indexArr n agg e y j => chkOpd x y && chkOpd i j && (match P.underlying t with | some (.array m el) => Nat.beq n m && sizeIs P el e && chkAgg P el agg | _ => false)
  | .lookup t x i ok, .lookup key zero ok' y j => chkOpd x y && chkOpd i j && (ok == ok') && (match mapOf P t with | some (k, e) => chkKey P k key && chkZeroV P e zero | none => false)
  | .mapUpdate t x i v, .mapUpdate key y j u | .insert t x i v, .mapUpdate key y j u => chkOpd x y && chkOpd i j && chkOpd v u && (match mapOf P t with | some (k, _) => chkKey P k key | none => false)
  | .mapEntry t x i, .mapEntry key zero y j => chkOpd x y && chkOpd i j && (match mapOf P t with | some (k, e) => chkKey P k key && chkZeroV P e zero | none => false)
  | .entryStore _ x s v, .entryStore y s' u => chkOpd x y && chkOpd s s' && chkOpd v u
  | .extract x i, .extract y j => chkOpd x y && Nat.beq i j
  | .call { callee := .builtin b, args, argTypes }, a => chkBuiltin P b argTypes.toList args.toList a
  | .call { callee := .value (.func f), args, .. }, .call g args' => Nat.beq f g && chkOpds args.toList args' && goFunc P f
  | .call { callee := .value f, args, .. }, .callv g args' => chkOpd f g && chkOpds args.toList args'
  | _, _ => false

/-! ### The relation -/

def rwB : AObj → Bool
  | .cells ro _ => !ro
  | _ => true

/-- what a frame's temporaries hold -/
def EnvR (ρ : Ren) (env : Env) (tmps : Array Value) : Prop := ∀ t v, env.get t = some v → ∃ v', tmps[t]? = some v' ∧ VR ρ v v'

def stateOf : ALoopState → LoopState
  | .ready => .ready | .busy => .busy | .done => .done | .exhausted => .exhausted

def jumpOf : AJump → Code
  | .exit id => .exit id
  | .ret => .ret

def EntR (ρ : Ren) (e e' : MapEntry) : Prop := VR ρ e.key e'.key ∧ VR ρ e.val e'.val ∧ e.born = e'.born

/-- which code an abstract code stands for: left open here (A3 gives it) -/
abbrev Stands := Nat → ACode → Code → Prop

/-- an object and the block that it stands for -/
def ObjR (C : Stands) (ρ : Ren) (s : Slot) (w : World) : AObj → Prop
  | .cells ro cs => ∃ c el fr, w.heap[s.b]? = some (.cells c el fr) ∧ s.o + s.ext ≤ c.size ∧ cs.length ≤ s.ext ∧
      (ro = false → ∀ i, i < s.ext → w.frozen? ⟨s.b, s.o + i, none⟩ = false) ∧ ∀ (i : Nat) (v : Value), cs[i]? = some v → ∃ v', c[s.o + i]? = some v' ∧ VR ρ v v'
  | .map es clock => ∃ es', w.heap[s.b]? = some (.map es' clock) ∧ es.length = es'.size ∧ ∀ (i : Nat) (e : MapEntry), es[i]? = some e → ∃ e', es'[i]? = some e' ∧ EntR ρ e e'
  | .loop st pend env params assign body => ∃ l : Loop, w.heap[s.b]? = some (.loop l) ∧ l.state = stateOf st ∧ l.pending = pend.map jumpOf ∧ l.params.toList = params ∧
      (∃ N, N ≤ l.tmps.size ∧ C N assign l.assign ∧ C N body l.body ∧ ∀ t ∈ params, t < N) ∧ EnvR ρ env l.tmps
  | .mark taken => w.heap[s.b]? = some (.deferred (if taken then none else some []))

theorem EnvR.mono {ρ ρ' : Ren} (h : Ren.le ρ ρ') {env : Env} {tmps : Array Value} (e : EnvR ρ env tmps) : EnvR ρ' env tmps :=
  fun t v hv => let ⟨v', a, b⟩ := e t v hv; ⟨v', a, b.mono h⟩

theorem frozen_of_heap {w w' : World} {a : Addr} (h : w'.heap[a.block]? = w.heap[a.block]?) : w'.frozen? a = w.frozen? a := by
  simp [World.frozen?, h]

/-- what stands in its block stays as it was -/
theorem ObjR.keep {C : Stands} {ρ ρ' : Ren} {s : Slot} {w w' : World} (hr : Ren.le ρ ρ') (hw : w'.heap[s.b]? = w.heap[s.b]?) {o : AObj} (h : ObjR C ρ s w o) : ObjR C ρ' s w' o := by
  cases o with
  | cells ro cs =>
    obtain ⟨c, el, fr, h1, h2, h3, h4, h5⟩ := h
    exact ⟨c, el, fr, hw.trans h1, h2, h3, fun hro i hi => (frozen_of_heap (a := ⟨s.b, s.o + i, none⟩) hw).trans (h4 hro i hi),
      fun i v e => let ⟨v', a, b⟩ := h5 i v e; ⟨v', a, b.mono hr⟩⟩
  | map es clock =>
    obtain ⟨es', h1, h2, h3⟩ := h
    exact ⟨es', hw.trans h1, h2, fun i e he => let ⟨e', a, b, c, d⟩ := h3 i e he; ⟨e', a, b.mono hr, c.mono hr, d⟩⟩
  | loop st pend env params assign body =>
    obtain ⟨l, h1, h2, h3, h4, h5, h6⟩ := h
    exact ⟨l, hw.trans h1, h2, h3, h4, h5, h6.mono hr⟩
  | mark taken => exact hw.trans h

structure Rel (C : Stands) (ρ : Ren) (g : Nat → Option AObj) (w : World) : Prop where
  obj : ∀ id o, g id = some o → ∃ s, ρ id = some s ∧ ObjR C ρ s w o
  sep : ∀ i j o o' s s', g i = some o → g j = some o' → i ≠ j → ρ i = some s → ρ j = some s' → rwB o = true → s.b ≠ s'.b

def Own (ρ : Ren) (g : Nat → Option AObj) (b : Nat) : Prop := ∃ id o s, g id = some o ∧ rwB o = true ∧ ρ id = some s ∧ s.b = b

/-- nothing is known of great ids -/
def Bnd (ρ : Ren) : Prop := ∃ N, ∀ id, N ≤ id → ρ id = none

/-- nothing is known yet of the ids from n to n' -/
def Fresh (ρ : Ren) (n n' : Nat) : Prop := (∀ id, n ≤ id → id < n' → ρ id = none) ∧ Bnd ρ

theorem Bnd.step {ρ ρ' : Ren} {n n' : Nat} (h : Bnd ρ) (hr : ∀ id, ¬ (n ≤ id ∧ id < n') → ρ' id = ρ id) : Bnd ρ' :=
  let ⟨N, hN⟩ := h
  ⟨max N n', fun id hid => by rw [hr id (by omega)]; exact hN id (by omega)⟩

structure Ext (C : Stands) (ρ : Ren) (g : Nat → Option AObj) (n : Nat) (w : World) (ρ' : Ren) (g' : Nat → Option AObj) (n' : Nat) (w' : World) : Prop where
  rel : Rel C ρ' g' w'
  ren : ∀ id, ¬ (n ≤ id ∧ id < n') → ρ' id = ρ id
  nle : n ≤ n'
  size : w.heap.size ≤ w'.heap.size
  frame : ∀ b, b < w.heap.size → ¬ Own ρ g b → w'.heap[b]? = w.heap[b]?
  own : ∀ b, Own ρ' g' b → Own ρ g b ∨ w.heap.size ≤ b
  dom : ∀ id o, g' id = some o → (∃ o', g id = some o') ∨ (n ≤ id ∧ id < n')
  os : w'.os = w.os
  output : w'.output = w.output
  tape : w'.tape = w.tape

theorem Ext.le {C : Stands} {ρ ρ' : Ren} {g g' : Nat → Option AObj} {n n' : Nat} {w w' : World} (h : Ext C ρ g n w ρ' g' n' w') (hf : Fresh ρ n n') : Ren.le ρ ρ' := by
  intro id s e
  rw [h.ren id fun ⟨a, b⟩ => by rw [hf.1 id a b] at e; cases e]
  exact e

theorem Ext.refl {C : Stands} {ρ : Ren} {g : Nat → Option AObj} {n : Nat} {w : World} (h : Rel C ρ g w) : Ext C ρ g n w ρ g n w :=
  ⟨h, fun _ _ => rfl, Nat.le_refl _, Nat.le_refl _, fun _ _ _ => rfl, fun _ h => .inl h, fun _ o h => .inl ⟨o, h⟩, rfl, rfl, rfl⟩

theorem Ext.trans {C : Stands} {ρ ρ1 ρ2 : Ren} {g g1 g2 : Nat → Option AObj} {n n1 n2 : Nat} {w w1 w2 : World}
    (h : Ext C ρ g n w ρ1 g1 n1 w1) (k : Ext C ρ1 g1 n1 w1 ρ2 g2 n2 w2) : Ext C ρ g n w ρ2 g2 n2 w2 where
  rel := k.rel
  ren := fun id hid => by
    have h1 := h.nle; have h2 := k.nle
    rw [k.ren id (by omega), h.ren id (by omega)]
  nle := Nat.le_trans h.nle k.nle
  size := Nat.le_trans h.size k.size
  frame := fun b hb ho => by
    rw [k.frame b (Nat.lt_of_lt_of_le hb h.size) fun o => (h.own b o).elim ho fun hle => by omega]
    exact h.frame b hb ho
  own := fun b o => (k.own b o).elim (fun o => h.own b o) fun hle => .inr (Nat.le_trans h.size hle)
  dom := fun id o e => by
    have h1 := h.nle; have h2 := k.nle
    rcases k.dom id o e with ⟨o', e'⟩ | hr
    · rcases h.dom id o' e' with he | hr
      · exact .inl he
      · exact .inr (by omega)
    · exact .inr (by omega)
  os := k.os.trans h.os
  output := k.output.trans h.output
  tape := k.tape.trans h.tape

theorem Fresh.mono {ρ : Ren} {n n' m m' : Nat} (h : Fresh ρ n n') (h1 : n ≤ m) (h2 : m' ≤ n') : Fresh ρ m m' := ⟨fun id a b => h.1 id (by omega) (by omega), h.2⟩

theorem Fresh.later {C : Stands} {ρ ρ1 : Ren} {g g1 : Nat → Option AObj} {n n1 n2 : Nat} {w w1 : World} (h : Ext C ρ g n w ρ1 g1 n1 w1) (hf : Fresh ρ n n2) : Fresh ρ1 n1 n2 :=
  ⟨fun id a b => by rw [h.ren id (by omega)]; exact hf.1 id (by have := h.nle; omega) b, hf.2.step h.ren⟩

theorem Rel.lt {C : Stands} {ρ : Ren} {g : Nat → Option AObj} {w : World} (h : Rel C ρ g w) {id : Nat} {o : AObj} {s : Slot} (hg : g id = some o) (hs : ρ id = some s) : s.b < w.heap.size := by
  obtain ⟨s', e, ho⟩ := h.obj id o hg
  rw [hs] at e; cases e
  have key : ∀ x, w.heap[s.b]? = some x → s.b < w.heap.size := fun x hx => by
    rw [Array.getElem?_eq_some_iff] at hx; exact hx.1
  cases o with
  | cells ro cs => obtain ⟨c, el, fr, h1, _⟩ := ho; exact key _ h1
  | map es clock => obtain ⟨es', h1, _⟩ := ho; exact key _ h1
  | loop st pend env params assign body => obtain ⟨l, h1, _⟩ := ho; exact key _ h1
  | mark taken => exact key _ ho

theorem Rel.slot {C : Stands} {ρ : Ren} {g : Nat → Option AObj} {w : World} (h : Rel C ρ g w) {id : Nat} {o : AObj} {s : Slot} (hg : g id = some o) (hs : ρ id = some s) : ObjR C ρ s w o := by
  obtain ⟨s', e, ho⟩ := h.obj id o hg
  rw [hs] at e; cases e
  exact ho

/-- the same renaming and heap in a world whose blocks that matter are the same -/
theorem Rel.world {C : Stands} {ρ : Ren} {g : Nat → Option AObj} {w w' : World} (h : Rel C ρ g w) (hw : w'.heap = w.heap) : Rel C ρ g w' :=
  ⟨fun id o e => let ⟨s, a, b⟩ := h.obj id o e; ⟨s, a, b.keep (Ren.le_refl ρ) (by rw [hw])⟩, h.sep⟩

theorem Rel.congr {C : Stands} {ρ : Ren} {g g' : Nat → Option AObj} {w : World} (h : Rel C ρ g w) (hg : ∀ id, g' id = g id) : Rel C ρ g' w := by
  have : g' = g := funext hg
  rw [this]; exact h

theorem Ext.congr {C : Stands} {ρ ρ' : Ren} {g g' g2 : Nat → Option AObj} {n n' : Nat} {w w' : World} (h : Ext C ρ g n w ρ' g' n' w') (hg : ∀ id, g2 id = g' id) : Ext C ρ g n w ρ' g2 n' w' := by
  have : g2 = g' := funext hg
  rw [this]; exact h

/-- a draw -/
theorem Ext.drew {C : Stands} {ρ : Ren} {g : Nat → Option AObj} {n : Nat} {w w' : World} (h : Rel C ρ g w) (hh : w'.heap = w.heap) (ho : w'.os = w.os) (hu : w'.output = w.output) (ht : w'.tape = w.tape) : Ext C ρ g n w ρ g n w' :=
  ⟨h.world hh, fun _ _ => rfl, Nat.le_refl _, by rw [hh]; exact Nat.le_refl _, fun _ _ _ => by rw [hh], fun _ h => .inl h, fun _ o h => .inl ⟨o, h⟩, ho, hu, ht⟩

def setRen (ρ : Ren) (n : Nat) (s : Slot) : Ren := fun id => if id = n then some s else ρ id

theorem setRen_le {ρ : Ren} {n : Nat} (h : ρ n = none) (s : Slot) : Ren.le ρ (setRen ρ n s) := fun id s' e => by
  unfold setRen
  split
  · rename_i hid; subst hid; rw [h] at e; cases e
  · exact e

theorem setRen_eq (ρ : Ren) (n : Nat) (s : Slot) : setRen ρ n s n = some s := by simp [setRen]

/-- memory is made: one more block, one more object -/
theorem Ext.new {C : Stands} {ρ : Ren} {g g' : Nat → Option AObj} {n : Nat} {w w' : World} {s : Slot} {o : AObj} {x : Obj}
    (h : Rel C ρ g w) (hf : ρ n = none) (hg : ∀ id, g' id = if id = n then some o else g id)
    (hs : s.b = w.heap.size) (hh : w'.heap = w.heap.push x) (hos : w'.os = w.os) (hu : w'.output = w.output) (ht : w'.tape = w.tape)
    (ho : ObjR C (setRen ρ n s) s w' o) : Ext C ρ g n w (setRen ρ n s) g' (n + 1) w' where
  rel := {
    obj := fun id o' e => by
      rw [hg] at e
      by_cases hid : id = n
      · subst hid
        simp at e; subst e
        exact ⟨s, setRen_eq _ _ _, ho⟩
      · simp [hid] at e
        obtain ⟨s', a, b⟩ := h.obj id o' e
        have hlt := h.lt e a
        exact ⟨s', by simp [setRen, hid, a], b.keep (setRen_le hf s) (by
          have : ¬ s'.b = w.heap.size := by omega
          rw [hh, Array.getElem?_push]; simp [this])⟩
    sep := fun i j oi oj si sj gi gj hij hi hj hrw => by
      rw [hg] at gi gj
      by_cases hin : i = n
      · subst hin
        have hj' : ¬ j = i := fun e => hij e.symm
        rw [setRen_eq] at hi; cases hi
        simp [hj'] at gj
        simp [setRen, hj'] at hj
        have := h.lt gj hj
        omega
      · simp [hin] at gi
        simp [setRen, hin] at hi
        by_cases hjn : j = n
        · subst hjn
          rw [setRen_eq] at hj; cases hj
          have := h.lt gi hi
          omega
        · simp [hjn] at gj
          simp [setRen, hjn] at hj
          exact h.sep i j oi oj si sj gi gj hij hi hj hrw }
  ren := fun id hid => by
    have : ¬ id = n := by omega
    simp [setRen, this]
  nle := by omega
  size := by rw [hh]; simp
  frame := fun b hb _ => by
    have : ¬ b = w.heap.size := by omega
    rw [hh, Array.getElem?_push]; simp [this]
  own := fun b ⟨id, o', s', e, hrw, hr, hb⟩ => by
    rw [hg] at e
    by_cases hid : id = n
    · subst hid
      rw [setRen_eq] at hr; cases hr
      exact .inr (by omega)
    · simp [hid] at e
      simp [setRen, hid] at hr
      exact .inl ⟨id, o', s', e, hrw, hr, hb⟩
  dom := fun id o' e => by
    rw [hg] at e
    by_cases hid : id = n
    · exact .inr (by omega)
    · simp [hid] at e; exact .inl ⟨o', e⟩
  os := hos
  output := hu
  tape := ht

/-- an object is changed in its block -/
theorem Ext.set {C : Stands} {ρ : Ren} {g g' : Nat → Option AObj} {n id : Nat} {w w' : World} {s : Slot} {o o' : AObj}
    (h : Rel C ρ g w) (he : g id = some o) (hs : ρ id = some s) (hrw : rwB o = true) (hrw' : rwB o' = true) (hg : ∀ j, g' j = if j = id then some o' else g j)
    (hsz : w'.heap.size = w.heap.size) (hh : ∀ b, b ≠ s.b → w'.heap[b]? = w.heap[b]?) (hos : w'.os = w.os) (hu : w'.output = w.output) (ht : w'.tape = w.tape)
    (ho : ObjR C ρ s w' o') : Ext C ρ g n w ρ g' n w' where
  rel := {
    obj := fun j x e => by
      rw [hg] at e
      by_cases hj : j = id
      · subst hj
        simp at e; subst e
        exact ⟨s, hs, ho⟩
      · simp [hj] at e
        obtain ⟨s', a, b⟩ := h.obj j x e
        exact ⟨s', a, b.keep (Ren.le_refl ρ) (hh _ fun hb => h.sep id j o x s s' he e (fun h => hj h.symm) hs a hrw hb.symm)⟩
    sep := fun i j oi oj si sj gi gj hij hi hj hrwi => by
      rw [hg] at gi gj
      by_cases hin : i = id
      · subst hin
        have hj' : ¬ j = i := fun e => hij e.symm
        simp [hj'] at gj
        exact h.sep i j o oj si sj he gj hij hi hj hrw
      · simp [hin] at gi
        by_cases hjn : j = id
        · subst hjn
          exact fun hb => h.sep j i o oi sj si he gi (fun e => hij e.symm) hj hi hrw hb.symm
        · simp [hjn] at gj
          exact h.sep i j oi oj si sj gi gj hij hi hj hrwi }
  ren := fun _ _ => rfl
  nle := Nat.le_refl _
  size := by rw [hsz]; exact Nat.le_refl _
  frame := fun b _ hno => hh b fun hb => hno ⟨id, o, s, he, hrw, hs, hb.symm⟩
  own := fun b ⟨j, x, s', e, hx, hr, hb⟩ => by
    rw [hg] at e
    by_cases hj : j = id
    · subst hj
      rw [hs] at hr; cases hr
      exact .inl ⟨j, o, s, he, hrw, hs, hb⟩
    · simp [hj] at e
      exact .inl ⟨j, x, s', e, hx, hr, hb⟩
  dom := fun j x e => by
    rw [hg] at e
    by_cases hj : j = id
    · subst hj; exact .inl ⟨o, he⟩
    · simp [hj] at e; exact .inl ⟨x, e⟩
  os := hos
  output := hu
  tape := ht

/-- an object is forgotten -/
theorem Ext.kill {C : Stands} {ρ : Ren} {g g' : Nat → Option AObj} {n id : Nat} {w : World} (h : Rel C ρ g w) (hg : ∀ j, g' j = if j = id then none else g j) : Ext C ρ g n w ρ g' n w where
  rel := {
    obj := fun j x e => by
      rw [hg] at e
      by_cases hj : j = id
      · simp [hj] at e
      · simp [hj] at e; exact h.obj j x e
    sep := fun i j oi oj si sj gi gj hij hi hj hrwi => by
      rw [hg] at gi gj
      by_cases hin : i = id
      · simp [hin] at gi
      · by_cases hjn : j = id
        · simp [hjn] at gj
        · simp [hin] at gi; simp [hjn] at gj
          exact h.sep i j oi oj si sj gi gj hij hi hj hrwi }
  ren := fun _ _ => rfl
  nle := Nat.le_refl _
  size := Nat.le_refl _
  frame := fun _ _ _ => rfl
  own := fun b ⟨j, x, s', e, hx, hr, hb⟩ => by
    rw [hg] at e
    by_cases hj : j = id
    · simp [hj] at e
    · simp [hj] at e
      exact .inl ⟨j, x, s', e, hx, hr, hb⟩
  dom := fun j x e => by
    rw [hg] at e
    by_cases hj : j = id
    · simp [hj] at e
    · simp [hj] at e; exact .inl ⟨x, e⟩
  os := rfl
  output := rfl
  tape := rfl

/-- an object that is alone in its block goes on under a new id, in the same block -/
theorem Ext.move {C : Stands} {ρ : Ren} {g g' : Nat → Option AObj} {n id : Nat} {w w' : World} {s s' : Slot} {o o' : AObj}
    (h : Rel C ρ g w) (hf : ρ n = none) (he : g id = some o) (hs : ρ id = some s) (hrw : rwB o = true) (hrw' : rwB o' = true) (hb : s'.b = s.b) (hg : ∀ j, g' j = if j = n then some o' else if j = id then none else g j)
    (hsz : w'.heap.size = w.heap.size) (hh : ∀ b, b ≠ s.b → w'.heap[b]? = w.heap[b]?) (hos : w'.os = w.os) (hu : w'.output = w.output) (ht : w'.tape = w.tape)
    (ho : ObjR C (setRen ρ n s') s' w' o') : Ext C ρ g n w (setRen ρ n s') g' (n + 1) w' where
  rel := {
    obj := fun j x e => by
      rw [hg] at e
      by_cases hj : j = n
      · subst hj
        simp at e; subst e
        exact ⟨s', setRen_eq _ _ _, ho⟩
      · by_cases hjid : j = id
        · subst hjid; simp [hj] at e
        · simp [hj, hjid] at e
          obtain ⟨s2, a, b⟩ := h.obj j x e
          exact ⟨s2, by simp [setRen, hj, a], b.keep (setRen_le hf s') (hh _ fun hb => h.sep id j o x s s2 he e (fun h => hjid h.symm) hs a hrw hb.symm)⟩
    sep := fun i j oi oj si sj gi gj hij hi hj hrwi => by
      rw [hg] at gi gj
      by_cases hin : i = n
      · subst hin
        rw [setRen_eq] at hi; cases hi
        have hj' : ¬ j = i := fun e => hij e.symm
        by_cases hjid : j = id
        · subst hjid; simp [hj'] at gj
        · simp [hj', hjid] at gj
          simp [setRen, hj'] at hj
          rw [hb]
          exact h.sep id j o oj s sj he gj (fun e => hjid e.symm) hs hj hrw
      · by_cases hiid : i = id
        · subst hiid; simp [hin] at gi
        · simp [hin, hiid] at gi
          simp [setRen, hin] at hi
          by_cases hjn : j = n
          · subst hjn
            rw [setRen_eq] at hj; cases hj
            rw [hb]
            exact fun hb => h.sep id i o oi s si he gi (fun e => hiid e.symm) hs hi hrw hb.symm
          · by_cases hjid : j = id
            · subst hjid; simp [hjn] at gj
            · simp [hjn, hjid] at gj
              simp [setRen, hjn] at hj
              exact h.sep i j oi oj si sj gi gj hij hi hj hrwi }
  ren := fun id' hid => by
    have : ¬ id' = n := by omega
    simp [setRen, this]
  nle := by omega
  size := by rw [hsz]; exact Nat.le_refl _
  frame := fun b _ hno => hh b fun hb => hno ⟨id, o, s, he, hrw, hs, hb.symm⟩
  own := fun b ⟨j, x, s2, e, hx, hr, hb'⟩ => by
    rw [hg] at e
    by_cases hj : j = n
    · subst hj
      rw [setRen_eq] at hr; cases hr
      exact .inl ⟨id, o, s, he, hrw, hs, by omega⟩
    · by_cases hjid : j = id
      · subst hjid; simp [hj] at e
      · simp [hj, hjid] at e
        simp [setRen, hj] at hr
        exact .inl ⟨j, x, s2, e, hx, hr, hb'⟩
  dom := fun j x e => by
    rw [hg] at e
    by_cases hj : j = n
    · exact .inr (by omega)
    · by_cases hjid : j = id
      · subst hjid; simp [hj] at e
      · simp [hj, hjid] at e; exact .inl ⟨x, e⟩
  os := hos
  output := hu
  tape := ht
end Go.Proofs.Ytbhgncfbljkdgaa.AI
