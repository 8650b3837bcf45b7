/-
  A quick twin of the interpreter: the same runs, in a shape that the kernel unfolds cheaply (each alternative is a constant of its own).
-/
import Derived.Test.YtbhgncfbljkdgaaA28
namespace Go.Proofs.Ytbhgncfbljkdgaa.AI
open Go
noncomputable section

def Env.getQ (e : Env) (n : Nat) : Option Value := @List.rec (Nat × Value) (fun _ => Option Value) none (fun p _ ih => @Bool.rec (fun _ => Option Value) ih (some p.2) (Nat.beq p.1 n)) e

theorem Env.getQ_eq (e : Env) (n : Nat) : e.getQ n = e.get n := by
  induction e with
  | nil => rfl
  | cons p r ih =>
    obtain ⟨t, v⟩ := p
    show @Bool.rec (fun _ => Option Value) (Env.getQ r n) (some v) (Nat.beq t n) = _
    rw [ih]
    simp only [Env.get]
    cases Nat.beq t n <;> rfl

def evQ (env : Env) : AOpd → Option Value
  | .tmp t => env.getQ t
  | .const v => some v
  | .fn f => some (.func (.func f) #[] #[])

theorem evQ_eq (env : Env) (x : AOpd) : evQ env x = ev env x := by
  cases x <;> simp only [evQ, ev, Env.getQ_eq]

def evsQ (env : Env) : List AOpd → Option (List Value)
  | [] => some []
  | x :: xs => match evQ env x with
    | some v => match evsQ env xs with
      | some vs => some (v :: vs)
      | none => none
    | none => none

theorem evsQ_eq (env : Env) : ∀ l, evsQ env l = evs env l
  | [] => rfl
  | x :: xs => by
    simp only [evsQ, evs, evQ_eq, evsQ_eq env xs]
    rfl

def evPartsQ (env : Env) : List (Nat × AOpd) → Option (List (Nat × Value))
  | [] => some []
  | (i, x) :: xs => match evQ env x with
    | some v => match evPartsQ env xs with
      | some vs => some ((i, v) :: vs)
      | none => none
    | none => none

theorem evPartsQ_eq (env : Env) : ∀ l, evPartsQ env l = evParts env l
  | [] => rfl
  | (i, x) :: xs => by
    simp only [evPartsQ, evParts, evQ_eq, evPartsQ_eq env xs]
    rfl

def evOQ (env : Env) (x : Option AOpd) : Option (Option Value) := x.map (evQ env)

theorem evOQ_eq (env : Env) (x : Option AOpd) : evOQ env x = evO env x := by
  cases x
  · rfl
  · simp only [evOQ, evO, Option.map_some, evQ_eq]

def q_move (x : AOpd) (env : Env) (h : Heap) (n : Nat) : Option (Value × Heap × Nat) :=
  (evQ env x).map (·, h, n)

def q_pick (c : AOpd) (a : AOpd) (b : AOpd) (env : Env) (h : Heap) (n : Nat) : Option (Value × Heap × Nat) :=
  match evQ env c with
    | some (.bool true) => (evQ env a).map (·, h, n)
    | some (.bool false) => (evQ env b).map (·, h, n)
    | _ => none

def q_alloc (zero : List Value) (env : Env) (h : Heap) (n : Nat) : Option (Value × Heap × Nat) :=
  some (.pointer (some ⟨n, 0, none⟩), h.new n (.cells false zero), n + 1)

def q_box (x : AOpd) (env : Env) (h : Heap) (n : Nat) : Option (Value × Heap × Nat) :=
  match evQ env x with
    | some v => some (.pointer (some ⟨n, 0, none⟩), h.new n (.cells false v.cells.toList), n + 1)
    | none => none

def q_build (zero : List Value) (pl : APlace) (parts : List (Nat × AOpd)) (env : Env) (h : Heap) (n : Nat) : Option (Value × Heap × Nat) :=
  match evPartsQ env parts with
    | some ps => match Instr.fill pl.at zero.toArray ps with
      | some cs => some (.agg cs, h, n)
      | none => none
    | none => none

def q_buildSlice (e : Nat) (zero : List Value) (len : Nat) (parts : List (Nat × AOpd)) (env : Env) (h : Heap) (n : Nat) : Option (Value × Heap × Nat) :=
  match evPartsQ env parts with
    | some ps => match Instr.fill (APlace.arr e).at (rep zero len).toArray ps with
      | some cs => some (.slice (some ⟨n, 0, none⟩) len len, h.new n (.cells false cs.toList), n + 1)
      | none => none
    | none => none

def q_load (agg : Option Nat) (a : AOpd) (env : Env) (h : Heap) (n : Nat) : Option (Value × Heap × Nat) :=
  match evQ env a with
    | some p => (loadAt h agg p).map (·, h, n)
    | none => none

def q_store (size : Nat) (a : AOpd) (v : AOpd) (env : Env) (h : Heap) (n : Nat) : Option (Value × Heap × Nat) :=
  match evQ env a, evQ env v with
    | some p, some x => (storeAt h size p x).map (undefV, ·, n)
    | _, _ => none

def q_nilCheck (x : AOpd) (env : Env) (h : Heap) (n : Nat) : Option (Value × Heap × Nat) :=
  match evQ env x with
    | some (.pointer (some a)) => some (.pointer (some a), h, n)
    | some (.func (.func f) a b) => some (.func (.func f) a b, h, n)
    | some (.func (.yield f) a b) => some (.func (.yield f) a b, h, n)
    | _ => none

def q_bin (op : BinOp) (x : AOpd) (y : AOpd) (env : Env) (h : Heap) (n : Nat) : Option (Value × Heap × Nat) :=
  match evQ env x, evQ env y with
    | some a, some b => (abin op a b).map (·, h, n)
    | _, _ => none

def q_eqFlat (neg : Bool) (ds : List Leaf) (x : AOpd) (y : AOpd) (env : Env) (h : Heap) (n : Nat) : Option (Value × Heap × Nat) :=
  match evQ env x, evQ env y with
    | some a, some b => (aeqFlat ds a b).map fun r => (.bool (if neg then !r else r), h, n)
    | _, _ => none

def q_nilEq (neg : Bool) (k : NKind) (x : AOpd) (y : AOpd) (env : Env) (h : Heap) (n : Nat) : Option (Value × Heap × Nat) :=
  match evQ env x, evQ env y with
    | some a, some b => (anilEq k a b).map fun r => (.bool (if neg then !r else r), h, n)
    | _, _ => none

def q_un (op : UnOp) (x : AOpd) (env : Env) (h : Heap) (n : Nat) : Option (Value × Heap × Nat) :=
  match evQ env x with
    | some a => (aun op a).map (·, h, n)
    | none => none

def q_convInt (k : IntKind) (x : AOpd) (env : Env) (h : Heap) (n : Nat) : Option (Value × Heap × Nat) :=
  match evQ env x with
    | some (.int _ m) => some (.int k (k.wrap m), h, n)
    | _ => none

def q_convId (x : AOpd) (env : Env) (h : Heap) (n : Nat) : Option (Value × Heap × Nat) :=
  match evQ env x with
    | some (.string s) => some (.string s, h, n)
    | _ => none

def q_convBytes (x : AOpd) (env : Env) (h : Heap) (n : Nat) : Option (Value × Heap × Nat) :=
  match evQ env x with
    | some (.string s) => if Nat.ble s.size bigLen then some (.slice (some ⟨n, 0, none⟩) s.size (openCap 1 s.size), h.new n (.cells false (s.data.toList.map fun b => .int .u8 b.toNat)), n + 1) else none
    | _ => none

def q_convStr (x : AOpd) (env : Env) (h : Heap) (n : Nat) : Option (Value × Heap × Nat) :=
  match evQ env x with
    | some (.slice none _ _) => some (.string .empty, h, n)
    | some (.slice (some ⟨id, off, none⟩) len _) => match cellsAt h id off len with
      | some cs => match bytesOf cs with
        | some bs => some (.string ⟨bs.toArray⟩, h, n)
        | none => none
      | none => none
    | _ => none

def q_makeFunc (f : FuncId) (first : List AOpd) (cap : List AOpd) (env : Env) (h : Heap) (n : Nat) : Option (Value × Heap × Nat) :=
  match evsQ env first, evsQ env cap with
    | some fs, some cs => some (.func (.func f) fs.toArray cs.toArray, h, n)
    | _, _ => none

def q_makeMap(env : Env) (h : Heap) (n : Nat) : Option (Value × Heap × Nat) :=
  some (.map (some n), h.new n (.map [] 0), n + 1)

def q_makeSlice (e : Nat) (bytes : Nat) (zero : List Value) (l : AOpd) (c : AOpd) (env : Env) (h : Heap) (n : Nat) : Option (Value × Heap × Nat) :=
  match evQ env l, evQ env c with
    | some a, some b => match asIx a, asIx b with
      | some l, some c => if Nat.ble l c && Nat.ble c bigLen && Nat.ble bytes bigLen then some (.slice (some ⟨n, 0, none⟩) l c, h.new n (.cells false (rep zero c)), n + 1) else none
      | _, _ => none
    | _, _ => none

def q_slice (k : SKind) (x : AOpd) (lo : Option AOpd) (hi : Option AOpd) (mx : Option AOpd) (env : Env) (h : Heap) (n : Nat) : Option (Value × Heap × Nat) :=
  match k, evQ env x with
    | .str, some (.string s) => match mx, boundLow (evOQ env hi) s.size s.size with
      | none, some b => match boundLow (evOQ env lo) b 0 with
        | some a => some (.string (s.extract a b), h, n)
        | none => none
      | _, _ => none
    | .sl e, some (.slice base len cap) => match sliceSl n e base len cap (evOQ env lo) (evOQ env hi) (evOQ env mx) with
      | some (v, n') => some (v, h, n')
      | none => none
    | .arr m e, some (.pointer (some a)) => if isOpen m then none else match sliceSl n e (some a) m m (evOQ env lo) (evOQ env hi) (evOQ env mx) with
      | some (v, n') => some (v, h, n')
      | none => none
    | _, _ => none

def q_fieldAddr (off : Nat) (x : AOpd) (env : Env) (h : Heap) (n : Nat) : Option (Value × Heap × Nat) :=
  match evQ env x with
    | some (.pointer (some ⟨id, o, none⟩)) => some (.pointer (some ⟨id, o + off, none⟩), h, n)
    | _ => none

def q_field (agg : Option Nat) (off : Nat) (x : AOpd) (env : Env) (h : Heap) (n : Nat) : Option (Value × Heap × Nat) :=
  match evQ env x with
    | some (.agg cs) => (partOf agg cs.toList off).map (·, h, n)
    | _ => none

def q_indexAddr (arr : Option Nat) (e : Nat) (x : AOpd) (i : AOpd) (env : Env) (h : Heap) (n : Nat) : Option (Value × Heap × Nat) :=
  match arr, evQ env x, evQ env i with
    | none, some (.slice (some ⟨id, o, none⟩) len _), some iv => match asIx iv with
      | some j => if Nat.blt j len then some (.pointer (some ⟨id, o + j * e, none⟩), h, n) else none
      | none => none
    | some len, some (.pointer (some ⟨id, o, none⟩)), some iv => match asIx iv with
      | some j => if Nat.blt j len then some (.pointer (some ⟨id, o + j * e, none⟩), h, n) else none
      | none => none
    | _, _, _ => none

def q_indexStr (x : AOpd) (i : AOpd) (env : Env) (h : Heap) (n : Nat) : Option (Value × Heap × Nat) :=
  match evQ env x, evQ env i with
    | some (.string s), some iv => match asIx iv with
      | some j => match s[j]? with
        | some b => some (.int .u8 b.toNat, h, n)
        | none => none
      | none => none
    | _, _ => none

def q_indexArr (len : Nat) (agg : Option Nat) (e : Nat) (x : AOpd) (i : AOpd) (env : Env) (h : Heap) (n : Nat) : Option (Value × Heap × Nat) :=
  match evQ env x, evQ env i with
    | some (.agg cs), some iv => match asIx iv with
      | some j => if Nat.blt j len then (partOf agg cs.toList (j * e)).map (·, h, n) else none
      | none => none
    | _, _ => none

def q_lookup (key : AKey) (zero : Value) (ok : Bool) (m : AOpd) (k : AOpd) (env : Env) (h : Heap) (n : Nat) : Option (Value × Heap × Nat) :=
  match evQ env m, evQ env k with
    | some mv, some kv => match mapAt h mv with
      | some (es, _) =>
        if !keyOK key kv then none else
        match afind key kv es 0 with
        | some (some i) => match es[i]? with
          | some e => some (if ok then .tuple #[e.val, .bool true] else e.val, h, n)
          | none => none
        | some none => some (if ok then .tuple #[zero, .bool false] else zero, h, n)
        | none => none
      | none => none
    | _, _ => none

def q_mapUpdate (key : AKey) (m : AOpd) (k : AOpd) (v : AOpd) (env : Env) (h : Heap) (n : Nat) : Option (Value × Heap × Nat) :=
  match evQ env m, evQ env k, evQ env v with
    | some (.map (some r)), some kv, some x => match h.get r with
      | some (.map es c) =>
        if !keyOK key kv then none else
        match afind key kv es 0 with
        | some (some i) => some (undefV, h.set r (some (.map (es.modify i fun e => { e with key := kv, val := x }) c)), n)
        | some none => some (undefV, h.set r (some (.map (es ++ [{ key := kv, val := x, born := c }]) (c + 1))), n)
        | none => none
      | _ => none
    | _, _, _ => none

def q_mapEntry (key : AKey) (zero : Value) (m : AOpd) (k : AOpd) (env : Env) (h : Heap) (n : Nat) : Option (Value × Heap × Nat) :=
  match evQ env m, evQ env k with
    | some (.map (some r)), some kv => match h.get r with
      | some (.map es c) =>
        if !keyOK key kv then none else
        match afind key kv es 0 with
        | some (some i) => match es[i]? with
          | some e => some (.tuple #[e.val, .int .i64 e.born], h.set r (some (.map (es.modify i fun e => { e with key := kv }) c)), n)
          | none => none
        | some none => some (.tuple #[zero, .int .i64 c], h.set r (some (.map (es ++ [{ key := kv, val := zero, born := c }]) (c + 1))), n)
        | none => none
      | _ => none
    | _, _ => none

def q_entryStore (m : AOpd) (s : AOpd) (v : AOpd) (env : Env) (h : Heap) (n : Nat) : Option (Value × Heap × Nat) :=
  match evQ env m, evQ env s, evQ env v with
    | some (.map (some r)), some (.int _ b), some x => match h.get r with
      | some (.map es c) => match es.findIdx? (fun e => (e.born : Int) == b) with
        | some i => some (undefV, h.set r (some (.map (es.modify i fun e => { e with val := x }) c)), n)
        | none => none
      | _ => none
    | _, _, _ => none

def q_extract (t : AOpd) (i : Nat) (env : Env) (h : Heap) (n : Nat) : Option (Value × Heap × Nat) :=
  match evQ env t with
    | some (.tuple vs) => match vs[i]? with
      | some v => some (v, h, n)
      | none => none
    | _ => none

def q_len (k : LKind) (x : AOpd) (env : Env) (h : Heap) (n : Nat) : Option (Value × Heap × Nat) :=
  match k, evQ env x with
    | .str, some (.string s) => some (.int .i64 s.size, h, n)
    | .arr m, some _ => some (.int .i64 m, h, n)
    | .sl, some (.slice _ m _) => some (.int .i64 m, h, n)
    | .map, some mv => match mapAt h mv with
      | some (es, _) => some (.int .i64 es.length, h, n)
      | none => none
    | _, _ => none

def q_append (e : Nat) (bytes : Nat) (s : AOpd) (x : AOpd) (env : Env) (h : Heap) (n : Nat) : Option (Value × Heap × Nat) :=
  match evQ env s, evQ env x with
    | some a, some b => aappend h n e bytes a b
    | _, _ => none

def q_copy (e : Nat) (d : AOpd) (s : AOpd) (env : Env) (h : Heap) (n : Nat) : Option (Value × Heap × Nat) :=
  match evQ env d, evQ env s with
    | some a, some b => match acopy h e a b with
      | some (v, h') => some (v, h', n)
      | none => none
    | _, _ => none

def q_clearMap (m : AOpd) (env : Env) (h : Heap) (n : Nat) : Option (Value × Heap × Nat) :=
  match evQ env m with
    | some (.map (some r)) => match h.get r with
      | some (.map _ c) => some (undefV, h.set r (some (.map [] c)), n)
      | _ => none
    | _ => none

def q_clearSlice (zero : List Value) (x : AOpd) (env : Env) (h : Heap) (n : Nat) : Option (Value × Heap × Nat) :=
  match evQ env x with
    | some (.slice none _ _) => some (undefV, h, n)
    | some (.slice (some ⟨id, off, none⟩) len _) =>
      if Nat.beq len 0 then some (undefV, h, n) else
      match h.get id with
      | some (.cells false cs) => let z := rep zero len
        if Nat.ble (off + z.length) cs.length && z.all scalar then some (undefV, h.set id (some (.cells false (putCells cs off z))), n) else none
      | _ => none
    | _ => none

def q_delete (key : AKey) (m : AOpd) (k : AOpd) (env : Env) (h : Heap) (n : Nat) : Option (Value × Heap × Nat) :=
  match evQ env m, evQ env k with
    | some (.map (some r)), some kv => match h.get r with
      | some (.map es c) =>
        if !keyOK key kv then none else
        match afind key kv es 0 with
        | some (some i) => some (undefV, h.set r (some (.map (es.eraseIdx i) c)), n)
        | some none => some (undefV, h.set r (some (.map es c)), n)
        | none => none
      | _ => none
    | _, _ => none

def q_minmax (isMax : Bool) (xs : List AOpd) (env : Env) (h : Heap) (n : Nat) : Option (Value × Heap × Nat) :=
  match evsQ env xs with
    | some (.int k a :: r) => match r.foldlM (fun (acc : Int) v => match v with | .int _ b => some (if isMax then (if b > acc then b else acc) else (if b < acc then b else acc)) | _ => none) a with
      | some m => some (.int k m, h, n)
      | none => none
    | _ => none

def aopQ : AOp → Env → Heap → Nat → Option (Value × Heap × Nat)
  | .move x => q_move x
  | .pick c a b => q_pick c a b
  | .alloc zero => q_alloc zero
  | .box x => q_box x
  | .build zero pl parts => q_build zero pl parts
  | .buildSlice e zero len parts => q_buildSlice e zero len parts
  | .load agg a => q_load agg a
  | .store size a v => q_store size a v
  | .nilCheck x => q_nilCheck x
  | .bin op x y => q_bin op x y
  | .eqFlat neg ds x y => q_eqFlat neg ds x y
  | .nilEq neg k x y => q_nilEq neg k x y
  | .un op x => q_un op x
  | .convInt k x => q_convInt k x
  | .convId x => q_convId x
  | .convBytes x => q_convBytes x
  | .convStr x => q_convStr x
  | .makeFunc f first cap => q_makeFunc f first cap
  | .makeMap => q_makeMap 
  | .makeSlice e bytes zero l c => q_makeSlice e bytes zero l c
  | .slice k x lo hi mx => q_slice k x lo hi mx
  | .fieldAddr off x => q_fieldAddr off x
  | .field agg off x => q_field agg off x
  | .indexAddr arr e x i => q_indexAddr arr e x i
  | .indexStr x i => q_indexStr x i
  | .indexArr len agg e x i => q_indexArr len agg e x i
  | .lookup key zero ok m k => q_lookup key zero ok m k
  | .mapUpdate key m k v => q_mapUpdate key m k v
  | .mapEntry key zero m k => q_mapEntry key zero m k
  | .entryStore m s v => q_entryStore m s v
  | .extract t i => q_extract t i
  | .len k x => q_len k x
  | .append e bytes s x => q_append e bytes s x
  | .copy e d s => q_copy e d s
  | .clearMap m => q_clearMap m
  | .clearSlice zero x => q_clearSlice zero x
  | .delete key m k => q_delete key m k
  | .minmax isMax xs => q_minmax isMax xs
  | .bad => fun _ _ _ => none
  | .call _ _ => fun _ _ _ => none
  | .callv _ _ => fun _ _ _ => none

theorem aopQ_eq (op : AOp) (env : Env) (h : Heap) (n : Nat) : aopQ op env h n = aop env h n op := by
  cases op <;> first | (simp only [aopQ, aop, q_move, q_pick, q_alloc, q_box, q_build, q_buildSlice, q_load, q_store, q_nilCheck, q_bin, q_eqFlat, q_nilEq, q_un, q_convInt, q_convId, q_convBytes, q_convStr, q_makeFunc, q_makeMap, q_makeSlice, q_slice, q_fieldAddr, q_field, q_indexAddr, q_indexStr, q_indexArr, q_lookup, q_mapUpdate, q_mapEntry, q_entryStore, q_extract, q_len, q_append, q_copy, q_clearMap, q_clearSlice, q_delete, q_minmax, evQ_eq, evsQ_eq, evPartsQ_eq, evOQ_eq]; done) | (simp only [aopQ, aop, q_move, q_pick, q_alloc, q_box, q_build, q_buildSlice, q_load, q_store, q_nilCheck, q_bin, q_eqFlat, q_nilEq, q_un, q_convInt, q_convId, q_convBytes, q_convStr, q_makeFunc, q_makeMap, q_makeSlice, q_slice, q_fieldAddr, q_field, q_indexAddr, q_indexStr, q_indexArr, q_lookup, q_mapUpdate, q_mapEntry, q_entryStore, q_extract, q_len, q_append, q_copy, q_clearMap, q_clearSlice, q_delete, q_minmax, evQ_eq, evsQ_eq, evPartsQ_eq, evOQ_eq]; rfl)

def q_call (f : FuncId) (args : List AOpd) (r : Rec) (env : Env) (h : Heap) (n : Nat) : Option (Value × Heap × Nat) :=
  match evsQ env args with
  | some vs => r.call f vs h n
  | none => none

def q_callv (f : AOpd) (args : List AOpd) (r : Rec) (env : Env) (h : Heap) (n : Nat) : Option (Value × Heap × Nat) :=
  match evQ env f, evsQ env args with
  | some fv, some vs => callV r fv vs h n
  | _, _ => none

def opxQ : AOp → Rec → Env → Heap → Nat → Option (Value × Heap × Nat)
  | .call f args => q_call f args
  | .callv f args => q_callv f args
  | op => fun _ env h n => aopQ op env h n

theorem opxQ_eq (op : AOp) (r : Rec) (env : Env) (h : Heap) (n : Nat) : opxQ op r env h n = opx r env h n op := by
  cases op
  case call f args =>
    simp only [opxQ, opx, q_call, evsQ_eq]
    rfl
  case callv f args =>
    simp only [opxQ, opx, q_callv, evsQ_eq, evQ_eq]
    rfl
  all_goals simp only [opxQ, opx, aopQ_eq]

def guardQ (env : Env) : Option (Nat × Bool) → Option Bool
  | none => some true
  | some (t, b) => match env.getQ t with
    | some (.bool x) => some (x == b)
    | some (.tuple a) => if Nat.beq a.size 0 then some false else none
    | _ => none

theorem guardQ_eq (env : Env) (g : Option (Nat × Bool)) : guardQ env g = guardV env g := by
  cases g with
  | none => rfl
  | some p =>
    obtain ⟨t, b⟩ := p
    simp only [guardQ, guardV, Env.getQ_eq]
    rfl

abbrev Kont := List Foot → St → Option St

def c_seq (r : Rec) (o : AOper) (k : Kont) (fs : List Foot) (s : St) : Option St :=
  match opxQ o.op r s.env s.h s.n with
  | some (v, h, n) => k (⟨false, true, [], [], s.n, n, none⟩ :: fs) ⟨putDst s.env o.dst v, h, n, s.marks⟩
  | none => none

def c_still (_ : Rec) (o : AOper) (k : Kont) (fs : List Foot) (s : St) : Option St :=
  match aopQ o.op s.env s.h s.n with
  | some (v, h, n) => k (Foot.nil :: fs) ⟨putDst s.env o.dst v, h, n, s.marks⟩
  | none => none

def c_rd (_ : Rec) (o : AOper) (k : Kont) (fs : List Foot) (s : St) : Option St :=
  if !chkPar fs o.par ⟨true, false, topIds s.env s.n o.op, [], 0, 0, none⟩ then none else
  match aopQ o.op s.env s.h s.n with
  | some (v, h, n) => k (⟨true, false, topIds s.env s.n o.op, [], 0, 0, some (constOp s.env o.op, v)⟩ :: fs) ⟨putDst s.env o.dst v, h, n, s.marks⟩
  | none => none

def c_mk (_ : Rec) (o : AOper) (k : Kont) (fs : List Foot) (s : St) : Option St :=
  match aopQ o.op s.env s.h s.n with
  | some (v, h, n) => k (⟨true, false, [], [], s.n, n, none⟩ :: fs) ⟨putDst s.env o.dst v, h, n, s.marks⟩
  | none => none

def c_on (r : Rec) (o : AOper) (k : Kont) (fs : List Foot) (s : St) : Option St :=
  match opxQ o.op r s.env (restr s.h (topIds s.env s.n o.op)) s.n with
  | some (v, h, n) =>
    if !chkPar fs o.par ⟨false, false, topIds s.env s.n o.op, [], s.n, n, none⟩ || !chkRe fs o.chk (addIds (ovl s.h h (topIds s.env s.n o.op)) h s.n (n - s.n)) n then none else
    k (⟨false, false, topIds s.env s.n o.op, [], s.n, n, none⟩ :: fs) ⟨putDst s.env o.dst v, addIds (ovl s.h h (topIds s.env s.n o.op)) h s.n (n - s.n), n, s.marks⟩
  | none => none

def c_ro (r : Rec) (o : AOper) (k : Kont) (fs : List Foot) (s : St) : Option St :=
  match opxQ o.op r s.env ⟨(cutAll s.h (cutsOf fs o.par)).t, s.n⟩ s.n with
  | some (v, h, n) =>
    if !chkPar fs o.par ⟨true, true, [], cutsOf fs o.par, s.n, n, none⟩ then none else
    if Nat.ble s.n h.lo then k (⟨true, true, [], cutsOf fs o.par, s.n, n, none⟩ :: fs) ⟨putDst s.env o.dst v, ⟨(relay h s.h (cutsOf fs o.par)).t, s.h.lo⟩, n, s.marks⟩ else none
  | none => none

def c_rw (r : Rec) (o : AOper) (k : Kont) (fs : List Foot) (s : St) : Option St :=
  match opxQ o.op r s.env (cutAll s.h (cutsOf fs o.par)) s.n with
  | some (v, h, n) =>
    if !chkPar fs o.par ⟨false, true, [], cutsOf fs o.par, s.n, n, none⟩ || !chkRe fs o.chk (relay h s.h (cutsOf fs o.par)) n then none else
    k (⟨false, true, [], cutsOf fs o.par, s.n, n, none⟩ :: fs) ⟨putDst s.env o.dst v, relay h s.h (cutsOf fs o.par), n, s.marks⟩
  | none => none

def doCls : Cls → Rec → AOper → Kont → Kont
  | .seq => c_seq
  | .still => c_still
  | .rd => c_rd
  | .mk => c_mk
  | .on => c_on
  | .ro => c_ro
  | .rw => c_rw

def stepOps (r : Rec) (o : AOper) (k : Kont) (fs : List Foot) (s : St) : Option St :=
  match guardQ s.env o.guard with
  | none => none
  | some false => k (Foot.nil :: fs) ⟨putDst s.env o.dst undefV, s.h, s.n, s.marks⟩
  | some true => doCls o.cls r o k fs s

def execOpsQ (r : Rec) (l : List AOper) : Kont := @List.rec AOper (fun _ => Kont) (fun _ s => some s) (fun o _ ih => stepOps r o ih) l

theorem execOpsQ_eq (r : Rec) : ∀ (l : List AOper) (fs : List Foot) (s : St), execOpsQ r l fs s = execOps r l fs s
  | [], fs, s => rfl
  | o :: l, fs, s => by
    show stepOps r o (execOpsQ r l) fs s = _
    have ih := execOpsQ_eq r l
    simp only [stepOps, execOps, guardQ_eq]
    cases guardV s.env o.guard with
    | none => rfl
    | some b =>
      cases b with
      | false => exact ih _ _
      | true =>
        cases hc : o.cls
        all_goals simp only [doCls, c_seq, c_still, c_rd, c_mk, c_on, c_ro, c_rw, opxQ_eq, aopQ_eq, ih]
        all_goals rfl

abbrev Kode := St → Option (AExit × St)

def e_seq (a b : Kode) (s : St) : Option (AExit × St) :=
  match a s with
  | some (.normal, s1) => b s1
  | x => x
def e_cond (c : AOpd) (a b : Kode) (s : St) : Option (AExit × St) :=
  match evQ s.env c with
  | some (.bool true) => a s
  | some (.bool false) => b s
  | _ => none
def e_block (id : Nat) (b : Kode) (s : St) : Option (AExit × St) :=
  match b s with
  | some (.exit i, s1) => if Nat.beq i id then some (.normal, s1) else some (.exit i, s1)
  | x => x
def e_loop (r : Rec) (rd : Option Nat) (c : ACode) (b : Kode) (s : St) : Option (AExit × St) :=
  match b s with
  | some (.normal, s1) => r.code rd (.loop c) s1
  | x => x
def e_region (r : Rec) (ops : List AOper) (s : St) : Option (AExit × St) := (execOpsQ r ops [] s).map (.normal, ·)
def e_range (r : Rec) (rd : Option Nat) (f : AOpd) (params : List Nat) (assign body : ACode) (s : St) : Option (AExit × St) :=
  match evQ s.env f with
  | none => none
  | some fv =>
    if !loopThere rd s.h then none else
    match callG r fv [.func (.yield (enterSt rd s).n) #[] #[]] ((enterSt rd s).h.new (enterSt rd s).n (.loop .ready none s.env params assign body)) ((enterSt rd s).n + 1) with
    | some (_, h, n) => match h.get (enterSt rd s).n with
      | some (.loop .busy _ _ _ _ _) => none
      | some (.loop _ p e ps as bd) => some (exitOf p, ⟨s.env, h.set (enterSt rd s).n (some (.loop .exhausted p e ps as bd)), n, (enterSt rd s).marks⟩)
      | _ => none
    | none => none
def e_keep (ts : List Nat) (c : Kode) (s : St) : Option (AExit × St) := c ⟨s.env.keep ts, s.h, s.n, s.marks⟩
def e_gc (ids : List Nat) (c : Kode) (s : St) : Option (AExit × St) := c ⟨s.env, ⟨(restr s.h ids).t, 0⟩, s.n, s.marks⟩

def execQ (r : Rec) (rd : Option Nat) (c : ACode) : Kode :=
  @ACode.rec (fun _ => Kode) (fun s => some (.normal, s)) (fun ops => e_region r ops) (fun _ _ a b => e_seq a b) (fun c _ _ a b => e_cond c a b) (fun id _ b => e_block id b) (fun c b => e_loop r rd c b)
    (fun f ps a b _ _ => e_range r rd f ps a b) (fun id s => some (.exit id, s)) (fun s => some (.ret, s)) (fun ts _ c => e_keep ts c) (fun _ c => c) (fun ids _ c => e_gc ids c) c

theorem execQ_eq (r : Rec) (rd : Option Nat) : ∀ (c : ACode) (s : St), execQ r rd c s = exec r rd c s
  | .skip, s => by rw [exec]; rfl
  | .region ops, s => by
    show e_region r ops s = _
    rw [e_region, exec, execOpsQ_eq]
  | .seq a b, s => by
    show e_seq (execQ r rd a) (execQ r rd b) s = _
    rw [e_seq, exec, execQ_eq r rd a s]
    split
    · rename_i s1 e; simp only [e, execQ_eq r rd b]
    · rename_i hn
      split
      · rename_i s1 e; exact absurd e (hn _)
      · rfl
  | .cond c a b, s => by
    show e_cond c (execQ r rd a) (execQ r rd b) s = _
    rw [e_cond, exec, evQ_eq, execQ_eq r rd a, execQ_eq r rd b]
    rfl
  | .block id b, s => by
    show e_block id (execQ r rd b) s = _
    rw [e_block, exec, execQ_eq r rd b]
    rfl
  | .loop b, s => by
    show e_loop r rd b (execQ r rd b) s = _
    rw [e_loop, exec, execQ_eq r rd b]
    rfl
  | .rangeFunc f ps a b, s => by
    show e_range r rd f ps a b s = _
    rw [e_range, exec, evQ_eq]
    rfl
  | .exit id, s => by rw [exec]; rfl
  | .ret, s => by rw [exec]; rfl
  | .keep ts c, s => by
    show e_keep ts (execQ r rd c) s = _
    rw [e_keep, exec, execQ_eq r rd c]
  | .scope c, s => by
    show execQ r rd c s = _
    rw [exec, execQ_eq r rd c]
  | .gc ids c, s => by
    show e_gc ids (execQ r rd c) s = _
    rw [e_gc, exec, execQ_eq r rd c]

def execCallQ (AP : FuncId → Option AFunc) (r : Rec) (f : FuncId) (args : List Value) (h : Heap) (n : Nat) : Option (Value × Heap × Nat) :=
  match AP f with
  | none => none
  | some fn =>
    if !Nat.beq args.length fn.nparams then none else
    match execQ r none fn.body ⟨numbered 0 args, h, n, []⟩ with
    | some (.normal, s) | some (.ret, s) => match takeMarks s.marks s.h with
      | some h => match ressOf s.env h fn.results with
        | some vs => some (tupleOf vs, h, s.n)
        | none => none
      | none => none
    | _ => none

theorem execCallQ_eq (AP : FuncId → Option AFunc) (r : Rec) (f : FuncId) (args : List Value) (h : Heap) (n : Nat) : execCallQ AP r f args h n = execCall AP r f args h n := by
  unfold execCallQ execCall
  cases AP f with
  | none => rfl
  | some fn => simp only [execQ_eq]; rfl

def stepQ (AP : FuncId → Option AFunc) (O : Ora) (r : Rec) : Rec :=
  ⟨fun f args h n => match O f with | some g => g args h n | none => execCallQ AP r f args h n, execQ r⟩

def runQ (AP : FuncId → Option AFunc) (O : Ora) : Nat → Rec
  | 0 => oraRec O
  | k + 1 => stepQ AP O (runQ AP O k)

theorem runQ_eq (AP : FuncId → Option AFunc) (O : Ora) : ∀ k, runQ AP O k = runO AP O k
  | 0 => rfl
  | k + 1 => by
    simp only [runQ, runO, runQ_eq AP O k, stepQ, stepO, execCallQ_eq]
    congr 1
    funext rd c s
    exact execQ_eq _ _ _ _

def execLQ (r : Rec) (rd : Option Nat) : List ACode → St → Option St
  | [], s => some s
  | a :: l, s => match execQ r rd a s with
    | some (.normal, s1) => execLQ r rd l s1
    | _ => none

theorem execLQ_eq (r : Rec) (rd : Option Nat) : ∀ (l : List ACode) (s : St), execLQ r rd l s = execL r rd l s
  | [], s => rfl
  | a :: l, s => by
    simp only [execLQ, execL, execQ_eq, execLQ_eq r rd l]
    rfl

theorem piece_of {AP : FuncId → Option AFunc} {O : Ora} {k : Nat} {l : List ACode} {s s1 : St} {ids lv : List Nat} (h : stEq ((execLQ (runQ AP O k) none l s).map (cutSt ids lv)) s1 = true) : (execL (runO AP O k) none l s).map (cutSt ids lv) = some s1 := by
  rw [runQ_eq, execLQ_eq] at h
  exact stEq_eq h

theorem last_of {AP : FuncId → Option AFunc} {O : Ora} {k t : Nat} {c : ACode} {s : St} (h : endsTrue t (execQ (runQ AP O k) none c s) = true) : endsTrue t (exec (runO AP O k) none c s) = true := by
  rw [runQ_eq, execQ_eq] at h
  exact h

def isTrueR : Option (Value × Heap × Nat) → Bool
  | some (.bool true, _, _) => true
  | _ => false

theorem run_true {AP : FuncId → Option AFunc} {O : Ora} {k : Nat} {f : FuncId} {a : List Value} {h : Heap} {n : Nat} (e : isTrueR ((runQ AP O k).call f a h n) = true) : ∃ h' n', (runO AP O k).call f a h n = some (.bool true, h', n') := by
  rw [runQ_eq] at e
  unfold isTrueR at e
  split at e
  · rename_i h' n' e'; exact ⟨h', n', e'⟩
  · cases e
end
end Go.Proofs.Ytbhgncfbljkdgaa.AI
