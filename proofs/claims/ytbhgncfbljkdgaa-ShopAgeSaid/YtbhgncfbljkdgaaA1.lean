/-
  The abstract interpreter: its code, its operations, its runs. Definitions alone.
-/
import Derived.Test.YtbhgncfbljkdgaaA0
namespace Go.Proofs.Ytbhgncfbljkdgaa.AI
open Go

inductive AOpd where
  | tmp (t : Nat)
  | const (v : Value)
  | fn (f : Nat)

inductive APlace where
  | list (l : List (Nat × Nat))
  | arr (size : Nat)

def APlace.at : APlace → Nat → Option (Nat × Nat)
  | .list l, i => l[i]?
  | .arr s, i => some (i * s, s)

inductive SKind where
  | str
  | sl (e : Nat)
  | arr (n e : Nat)

inductive LKind where
  | str
  | arr (n : Nat)
  | sl
  | map

/-- the kinds of a cell that can be compared -/
inductive Leaf where
  | int | bool | str

/-- what can be held against nil -/
inductive NKind where
  | ptr | sl | map | fn | bool

inductive AKey where
  | now (d : TypeDesc)
  | flat (ds : List Leaf)

inductive AOp where
  | bad
  | move (x : AOpd)
  | pick (c a b : AOpd)
  | alloc (zero : List Value)
  | box (x : AOpd)
  | build (zero : List Value) (pl : APlace) (parts : List (Nat × AOpd))
  | buildSlice (e : Nat) (zero : List Value) (len : Nat) (parts : List (Nat × AOpd))
  | load (agg : Option Nat) (a : AOpd)
  | store (size : Nat) (a v : AOpd)
  | nilCheck (x : AOpd)
  | bin (op : BinOp) (x y : AOpd)
  | eqFlat (neg : Bool) (ds : List Leaf) (x y : AOpd)
  | nilEq (neg : Bool) (k : NKind) (x y : AOpd)
  | un (op : UnOp) (x : AOpd)
  | convInt (k : IntKind) (x : AOpd)
  | convId (x : AOpd)
  | convBytes (x : AOpd)
  | convStr (x : AOpd)
  | makeFunc (f : FuncId) (first cap : List AOpd)
  | makeMap
  | makeSlice (e bytes : Nat) (zero : List Value) (l c : AOpd)
  | slice (k : SKind) (x : AOpd) (lo hi mx : Option AOpd)
  | fieldAddr (off : Nat) (x : AOpd)
  | field (agg : Option Nat) (off : Nat) (x : AOpd)
  | indexAddr (arr : Option Nat) (e : Nat) (x i : AOpd)
  | indexStr (x i : AOpd)
  | indexArr (n : Nat) (agg : Option Nat) (e : Nat) (x i : AOpd)
  | lookup (key : AKey) (zero : Value) (ok : Bool) (m k : AOpd)
  | mapUpdate (key : AKey) (m k v : AOpd)
  | mapEntry (key : AKey) (zero : Value) (m k : AOpd)
  | entryStore (m s v : AOpd)
  | extract (t : AOpd) (i : Nat)
  | len (k : LKind) (x : AOpd)
  | append (e bytes : Nat) (s x : AOpd)
  | copy (e : Nat) (d s : AOpd)
  | clearMap (m : AOpd)
  | clearSlice (zero : List Value) (x : AOpd)
  | delete (key : AKey) (m k : AOpd)
  | minmax (isMax : Bool) (xs : List AOpd)
  | call (f : FuncId) (args : List AOpd)
  | callv (f : AOpd) (args : List AOpd)

/-- how an operation stands in a region that draws its order: 'seq': all that is not 'still' stands ahead of it or behind it; 'still': it does not look at memory; 'rd': it reads the objects that its operands point to; 'mk': it makes an object and looks at none; 'on': it reads and changes objects that its operands point to, and no other; 'ro': a call that changes nothing that was; 'rw': a call -/
inductive Cls where
  | seq | still | rd | mk | on | ro | rw

/-- par: those operations of the region, counted backwards from this one (0: the one ahead of it), against which it is seen to as the run goes that they do not meet in memory; of a call: those whose objects it does not see; chk: those readings ahead of it that must read the same behind it -/
structure AOper where
  dst : Option Nat
  op : AOp
  guard : Option (Nat × Bool)
  cls : Cls
  par : List Nat := []
  chk : List Nat := []

inductive ACode where
  | skip
  | region (ops : List AOper)
  | seq (a b : ACode)
  | cond (c : AOpd) (a b : ACode)
  | block (id : Nat) (b : ACode)
  | loop (b : ACode)
  | rangeFunc (f : AOpd) (params : List Nat) (assign body : ACode)
  | exit (id : Nat)
  | ret
  | keep (ts : List Nat) (c : ACode)
  | scope (c : ACode)
  | gc (ids : List Nat) (c : ACode)

inductive ARes where
  | tmp (t : Nat)
  | cell (t : Nat) (agg : Option Nat)

structure AFunc where
  nparams : Nat
  results : List ARes
  body : ACode

abbrev Env := List (Nat × Value)

def Env.get : Env → Nat → Option Value
  | [], _ => none
  | (t, v) :: r, n => if Nat.beq t n then some v else Env.get r n

def Env.keep (e : Env) : List Nat → Env
  | [] => []
  | t :: ts => match e.get t with
    | some v => (t, v) :: Env.keep e ts
    | none => Env.keep e ts

inductive AExit where
  | normal
  | exit (id : Nat)
  | ret

/-- a jump that a round has left -/
inductive AJump where
  | exit (id : Nat)
  | ret

inductive ALoopState where
  | ready | busy | done | exhausted

inductive AObj where
  | cells (ro : Bool) (cs : List Value)
  | map (es : List MapEntry) (clock : Nat)
  | loop (st : ALoopState) (pend : Option AJump) (env : Env) (params : List Nat) (assign body : ACode)
  | mark (taken : Bool)

structure Heap where
  t : Tr AObj
  lo : Nat

namespace Heap
def get (h : Heap) (id : Nat) : Option AObj := h.t.get id
/-- changes what is there -/
def set (h : Heap) (id : Nat) (o : Option AObj) : Heap := ⟨h.t.put id o, Nat.min h.lo id⟩
/-- lays what is new -/
def new (h : Heap) (id : Nat) (o : AObj) : Heap := ⟨h.t.put id (some o), h.lo⟩
theorem get_set (h : Heap) (id : Nat) (o : Option AObj) (j : Nat) : (h.set id o).get j = if j = id then o else h.get j := Tr.get_put _ _ _ _
theorem get_new (h : Heap) (id : Nat) (o : AObj) (j : Nat) : (h.new id o).get j = if j = id then some o else h.get j := Tr.get_put _ _ _ _
end Heap

def ev (env : Env) : AOpd → Option Value
  | .tmp t => env.get t
  | .const v => some v
  | .fn f => some (.func (.func f) #[] #[])

def evs (env : Env) : List AOpd → Option (List Value)
  | [] => some []
  | x :: xs => match ev env x with
    | some v => match evs env xs with
      | some vs => some (v :: vs)
      | none => none
    | none => none

def evParts (env : Env) : List (Nat × AOpd) → Option (List (Nat × Value))
  | [] => some []
  | (i, x) :: xs => match ev env x with
    | some v => match evParts env xs with
      | some vs => some ((i, v) :: vs)
      | none => none
    | none => none

/-- an index: a number that is none below 0 -/
def asIx : Value → Option Nat
  | .int _ n => match n with
    | .ofNat m => some m
    | .negSucc _ => none
  | _ => none

def scalar : Value → Bool
  | .agg _ | .tuple _ => false
  | _ => true

/-- replaces cells one after another -/
def putCells (cs : List Value) (off : Nat) : List Value → List Value
  | [] => cs
  | v :: r => putCells (cs.set off v) (off + 1) r

def cellsAt (h : Heap) (id off n : Nat) : Option (List Value) :=
  match h.get id with
  | some (.cells _ cs) => if Nat.ble (off + n) cs.length then some ((cs.drop off).take n) else none
  | _ => none

def partOf (agg : Option Nat) (cs : List Value) (off : Nat) : Option Value :=
  match agg with
  | none => cs[off]?
  | some n => if Nat.ble (off + n) cs.length then some (.agg ((cs.drop off).take n).toArray) else none

def loadAt (h : Heap) (agg : Option Nat) : Value → Option Value
  | .pointer (some ⟨id, off, none⟩) =>
    match h.get id with
    | some (.cells _ cs) => partOf agg cs off
    | _ => none
  | _ => none

def storeAt (h : Heap) (size : Nat) (a v : Value) : Option Heap :=
  match a with
  | .pointer (some ⟨id, off, none⟩) =>
    match h.get id with
    | some (.cells false cs) =>
      let vs := v.cells.toList
      if Nat.beq vs.length size && Nat.ble (off + size) cs.length && vs.all scalar then some (h.set id (some (.cells false (putCells cs off vs)))) else none
    | _ => none
  | _ => none

def aint (op : BinOp) (k : IntKind) (a b : Int) : Option Value :=
  match op with
  | .add => some (.int k (k.wrap (a + b)))
  | .sub => some (.int k (k.wrap (a - b)))
  | .mul => some (.int k (k.wrap (a * b)))
  | .quo => if b = 0 then none else some (.int k (k.wrap (a.tdiv b)))
  | .rem => if b = 0 then none else some (.int k (a.tmod b))
  | .and => some (.int k (k.wrap (BitVec.ofInt k.bits a &&& BitVec.ofInt k.bits b).toNat))
  | .or => some (.int k (k.wrap (BitVec.ofInt k.bits a ||| BitVec.ofInt k.bits b).toNat))
  | .xor => some (.int k (k.wrap (BitVec.ofInt k.bits a ^^^ BitVec.ofInt k.bits b).toNat))
  | .andNot => some (.int k (k.wrap (BitVec.ofInt k.bits a &&& ~~~BitVec.ofInt k.bits b).toNat))
  | .eql => some (.bool (a == b))
  | .neq => some (.bool (a != b))
  | .lss => some (.bool (decide (a < b)))
  | .leq => some (.bool (decide (a ≤ b)))
  | .gtr => some (.bool (decide (a > b)))
  | .geq => some (.bool (decide (a ≥ b)))
  | _ => none

def abin (op : BinOp) (x y : Value) : Option Value :=
  match x, y with
  | .int k a, .int k' b =>
    match op with
    | .shl => if b < 0 then none else some (.int k (k.wrap (a * 2 ^ (min b.toNat k.bits))))
    | .shr => if b < 0 then none else some (.int k (a.fdiv (2 ^ (min b.toNat k.bits))))
    | op => if k = k' then aint op k a b else none
  | .string a, .string b =>
    match op with
    | .eql => some (.bool (a.toList == b.toList))
    | .neq => some (.bool (!(a.toList == b.toList)))
    | .add => if Nat.ble (a.size + b.size) 1000000 then some (.string (a ++ b)) else none
    | .lss => some (.bool (Op.bytesLess a.toList b.toList))
    | .geq => some (.bool (!(Op.bytesLess a.toList b.toList)))
    | _ => none
  | _, _ => none

/-- are two cells equal? none: they are not of the kind -/
def leafEq : Leaf → Value → Value → Option Bool
  | .int, .int k a, .int k' b => if k = k' then some (a == b) else none
  | .bool, .bool a, .bool b => some (a == b)
  | .str, .string a, .string b => some (a == b)
  | _, _, _ => none

def flatEq : List Leaf → List Value → List Value → Option Bool
  | [], _, _ => some true
  | d :: ds, x :: xs, y :: ys => match leafEq d x y with
    | some true => flatEq ds xs ys
    | some false => some false
    | none => none
  | _, _, _ => none

def aeqFlat (ds : List Leaf) : Value → Value → Option Bool
  | .agg xs, .agg ys => if Nat.beq xs.size ds.length && Nat.beq ys.size ds.length then flatEq ds xs.toList ys.toList else none
  | _, _ => none

def anilEq : NKind → Value → Value → Option Bool
  | .ptr, .pointer none, .pointer b => some b.isNone
  | .ptr, .pointer (some _), .pointer none => some false
  | .sl, .slice none _ _, .slice b _ _ => some b.isNone
  | .sl, .slice (some _) _ _, .slice none _ _ => some false
  | .map, .map none, .map b => some b.isNone
  | .map, .map (some _), .map none => some false
  | .fn, .nilFunc, .nilFunc => some true
  | .fn, .nilFunc, .func _ _ _ => some false
  | .fn, .func _ _ _, .nilFunc => some false
  | .bool, .bool a, .bool b => some (a == b)
  | _, _, _ => none

def aun : UnOp → Value → Option Value
  | .neg, .int k n => some (.int k (k.wrap (0 - n)))
  | .not, .bool b => some (.bool (!b))
  | _, _ => none

/-- the place of an entry with a key; none: the keys can't be compared -/
def afind (kd : AKey) (k : Value) : List MapEntry → Nat → Option (Option Nat)
  | [], _ => some none
  | e :: es, i =>
    match (match kd with | .now d => Instr.sameNow d k e.key | .flat ds => aeqFlat ds k e.key) with
    | some true => some (some i)
    | some false => afind kd k es (i + 1)
    | none => none

/-- a key that can be looked for -/
def keyOK : AKey → Value → Bool
  | .now _, .int .. | .now _, .string _ | .now _, .bool _ => true
  | .flat ds, .agg xs => Nat.beq xs.size ds.length && xs.toList.all fun v => match v with | .int .. | .bool _ | .string _ => true | _ => false
  | _, _ => false

def boundLow : Option (Option Value) → Nat → Nat → Option Nat
  | none, _, d => some d
  | some none, _, _ => none
  | some (some v), y, _ => match asIx v with
    | some i => if Nat.ble i y then some i else none
    | none => none

/-- a slice of a slice; the second number: how many ids it takes -/
def sliceSl (n e : Nat) (base : Option Addr) (len cap : Nat) (lo hi mx : Option (Option Value)) : Option (Value × Nat) :=
  let opn := isOpen cap
  let known := if opn then openLb cap else cap
  match mx with
  | some _ =>
    match boundLow mx known 0, hi with
    | some m, some _ => match boundLow hi m 0 with
      | some h => match boundLow lo h 0 with
        | some l => if isOpen (m - l) then none else some (.slice (if m = l then base else base.map (·.add (l * e))) (h - l) (m - l), n)
        | none => none
      | none => none
    | _, _ => none
  | none =>
    match boundLow hi known len with
    | some h => match boundLow lo h 0 with
      | some l =>
        if opn then
          if !Nat.beq (openE cap) e then none else
          if Nat.beq l 0 then some (.slice base h cap, n)
          else if Nat.blt l known then some (.slice (base.map (·.add (l * e))) (h - l) (openCap e (known - l)), n)
          else some (.slice (some ⟨n, 0, none⟩) 0 (openCap e 0), n + 1)
        else some (.slice (if known = l then base else base.map (·.add (l * e))) (h - l) (known - l), n)
      | none => none
    | none => none

def evO (env : Env) (x : Option AOpd) : Option (Option Value) := x.map (ev env)

def bigLen : Nat := 1048576

/-- the first cells of what is appended or copied -/
def srcCells (h : Heap) (e n : Nat) : Value → Option (List Value)
  | .slice (some ⟨id, off, none⟩) _ _ => if Nat.beq (n * e) 0 then some [] else cellsAt h id off (n * e)
  | .slice none _ _ => some []
  | .string s => some ((s.extract 0 n).data.toList.map fun b => .int .u8 b.toNat)
  | _ => none

def lenV : Value → Option Nat
  | .slice _ n _ => some n
  | .string s => some s.size
  | _ => none

/-- how much room a slice surely has -/
def knownCap (cap : Nat) : Nat := if isOpen cap then openLb cap else cap

def aappend (h : Heap) (n e bytes : Nat) (s x : Value) : Option (Value × Heap × Nat) :=
  match s, lenV x with
  | .slice base len cap, some k =>
    if !Nat.ble (len + k) bigLen || !Nat.ble bytes bigLen then none else
    if !Nat.ble e bigLen then none else
    match srcCells h e k x with
    | none => none
    | some new =>
      if !(new.all scalar) || !Nat.beq new.length (k * e) then none else
      if isOpen cap && !Nat.beq (openE cap) e then none else
      if Nat.ble (len + k) (knownCap cap) then
        match new with
        | [] => some (.slice base (len + k) cap, h, n)
        | _ => match base with
          | some ⟨id, off, none⟩ => match h.get id with
            | some (.cells false cs) =>
              if Nat.ble (off + len * e + new.length) cs.length then some (.slice base (len + k) cap, h.set id (some (.cells false (putCells cs (off + len * e) new))), n) else none
            | _ => none
          | _ => none
      else
        match srcCells h e len s with
        | none => none
        | some old =>
          if !Nat.beq old.length (len * e) then none else
          if isOpen cap then
            match base with
            | some ⟨id, off, none⟩ => match h.get id with
              | some (.cells false cs) => if Nat.ble (off + len * e) cs.length then some (.slice (some ⟨n, 0, none⟩) (len + k) (openCap e (len + k)), (h.set id none).new n (.cells false (old ++ new)), n + 1) else none
              | _ => none
            | _ => none
          else some (.slice (some ⟨n, 0, none⟩) (len + k) (openCap e (len + k)), h.new n (.cells false (old ++ new)), n + 1)
  | _, _ => none

def acopy (h : Heap) (e : Nat) (d s : Value) : Option (Value × Heap) :=
  match d, lenV s with
  | .slice base len _, some k =>
    let m := Nat.min k len
    match srcCells h e m s with
    | none => none
    | some new =>
      if !(new.all scalar) then none else
      match new with
      | [] => some (.int .i64 m, h)
      | _ => match base with
        | some ⟨id, off, none⟩ => match h.get id with
          | some (.cells false cs) => if Nat.ble (off + new.length) cs.length then some (.int .i64 m, h.set id (some (.cells false (putCells cs off new)))) else none
          | _ => none
        | _ => none
  | _, _ => none

def undefV : Value := .tuple #[]

def rep (zero : List Value) : Nat → List Value
  | 0 => []
  | n + 1 => zero ++ rep zero n

def bytesOf : List Value → Option (List UInt8)
  | [] => some []
  | .int .u8 n :: r => (bytesOf r).map (UInt8.ofNat n.toNat :: ·)
  | _ => none

/-- the entries of a map, and its clock -/
def mapAt (h : Heap) : Value → Option (List MapEntry × Nat)
  | .map none => some ([], 0)
  | .map (some r) => match h.get r with
    | some (.map es c) => some (es, c)
    | _ => none
  | _ => none

/-- what operations do that are no calls -/
def aop (env : Env) (h : Heap) (n : Nat) : AOp → Option (Value × Heap × Nat)
  | .move x => (ev env x).map (·, h, n)
  | .pick c a b => match ev env c with
    | some (.bool true) => (ev env a).map (·, h, n)
    | some (.bool false) => (ev env b).map (·, h, n)
    | _ => none
  | .alloc zero => some (.pointer (some ⟨n, 0, none⟩), h.new n (.cells false zero), n + 1)
  | .box x => match ev env x with
    | some v => some (.pointer (some ⟨n, 0, none⟩), h.new n (.cells false v.cells.toList), n + 1)
    | none => none
  | .build zero pl parts => match evParts env parts with
    | some ps => match Instr.fill pl.at zero.toArray ps with
      | some cs => some (.agg cs, h, n)
      | none => none
    | none => none
  | .buildSlice e zero len parts => match evParts env parts with
    | some ps => match Instr.fill (APlace.arr e).at (rep zero len).toArray ps with
      | some cs => some (.slice (some ⟨n, 0, none⟩) len len, h.new n (.cells false cs.toList), n + 1)
      | none => none
    | none => none
  | .load agg a => match ev env a with
    | some p => (loadAt h agg p).map (·, h, n)
    | none => none
  | .store size a v => match ev env a, ev env v with
    | some p, some x => (storeAt h size p x).map (undefV, ·, n)
    | _, _ => none
  | .nilCheck x => match ev env x with
    | some (.pointer (some a)) => some (.pointer (some a), h, n)
    | some (.func (.func f) a b) => some (.func (.func f) a b, h, n)
    | some (.func (.yield f) a b) => some (.func (.yield f) a b, h, n)
    | _ => none
  | .bin op x y => match ev env x, ev env y with
    | some a, some b => (abin op a b).map (·, h, n)
    | _, _ => none
  | .eqFlat neg ds x y => match ev env x, ev env y with
    | some a, some b => (aeqFlat ds a b).map fun r => (.bool (if neg then !r else r), h, n)
    | _, _ => none
  | .nilEq neg k x y => match ev env x, ev env y with
    | some a, some b => (anilEq k a b).map fun r => (.bool (if neg then !r else r), h, n)
    | _, _ => none
  | .un op x => match ev env x with
    | some a => (aun op a).map (·, h, n)
    | none => none
  | .convInt k x => match ev env x with
    | some (.int _ m) => some (.int k (k.wrap m), h, n)
    | _ => none
  | .convId x => match ev env x with
    | some (.string s) => some (.string s, h, n)
    | _ => none
  | .convBytes x => match ev env x with
    | some (.string s) => if Nat.ble s.size bigLen then some (.slice (some ⟨n, 0, none⟩) s.size (openCap 1 s.size), h.new n (.cells false (s.data.toList.map fun b => .int .u8 b.toNat)), n + 1) else none
    | _ => none
  | .convStr x => match ev env x with
    | some (.slice none _ _) => some (.string .empty, h, n)
    | some (.slice (some ⟨id, off, none⟩) len _) => match cellsAt h id off len with
      | some cs => match bytesOf cs with
        | some bs => some (.string ⟨bs.toArray⟩, h, n)
        | none => none
      | none => none
    | _ => none
  | .makeFunc f first cap => match evs env first, evs env cap with
    | some fs, some cs => some (.func (.func f) fs.toArray cs.toArray, h, n)
    | _, _ => none
  | .makeMap => some (.map (some n), h.new n (.map [] 0), n + 1)
  | .makeSlice e bytes zero l c => match ev env l, ev env c with
    | some a, some b => match asIx a, asIx b with
      | some l, some c => if Nat.ble l c && Nat.ble c bigLen && Nat.ble bytes bigLen then some (.slice (some ⟨n, 0, none⟩) l c, h.new n (.cells false (rep zero c)), n + 1) else none
      | _, _ => none
    | _, _ => none
  | .slice k x lo hi mx => match k, ev env x with
    | .str, some (.string s) => match mx, boundLow (evO env hi) s.size s.size with
      | none, some b => match boundLow (evO env lo) b 0 with
        | some a => some (.string (s.extract a b), h, n)
        | none => none
      | _, _ => none
    | .sl e, some (.slice base len cap) => match sliceSl n e base len cap (evO env lo) (evO env hi) (evO env mx) with
      | some (v, n') => some (v, h, n')
      | none => none
    | .arr m e, some (.pointer (some a)) => if isOpen m then none else match sliceSl n e (some a) m m (evO env lo) (evO env hi) (evO env mx) with
      | some (v, n') => some (v, h, n')
      | none => none
    | _, _ => none
  | .fieldAddr off x => match ev env x with
    | some (.pointer (some ⟨id, o, none⟩)) => some (.pointer (some ⟨id, o + off, none⟩), h, n)
    | _ => none
  | .field agg off x => match ev env x with
    | some (.agg cs) => (partOf agg cs.toList off).map (·, h, n)
    | _ => none
  | .indexAddr arr e x i => match arr, ev env x, ev env i with
    | none, some (.slice (some ⟨id, o, none⟩) len _), some iv => match asIx iv with
      | some j => if Nat.blt j len then some (.pointer (some ⟨id, o + j * e, none⟩), h, n) else none
      | none => none
    | some len, some (.pointer (some ⟨id, o, none⟩)), some iv => match asIx iv with
      | some j => if Nat.blt j len then some (.pointer (some ⟨id, o + j * e, none⟩), h, n) else none
      | none => none
    | _, _, _ => none
  | .indexStr x i => match ev env x, ev env i with
    | some (.string s), some iv => match asIx iv with
      | some j => match s[j]? with
        | some b => some (.int .u8 b.toNat, h, n)
        | none => none
      | none => none
    | _, _ => none
  | .indexArr len agg e x i => match ev env x, ev env i with
    | some (.agg cs), some iv => match asIx iv with
      | some j => if Nat.blt j len then (partOf agg cs.toList (j * e)).map (·, h, n) else none
      | none => none
    | _, _ => none
  | .lookup key zero ok m k => match ev env m, ev env k with
    | some mv, some kv => match mapAt h mv with
      | some (es, _) =>
        if !keyOK key kv then none else
        match afind key kv es 0 with
        | some (some i) => match es[i]? with
          | some e => some (if ok then .tuple #[e.val, .bool true] else e.val, h, n)
          | none => none
        | some none => some (if ok then .tuple #[zero, .bool false] else zero, h, n)
        | none => none
      | none => none
    | _, _ => none
  | .mapUpdate key m k v => match ev env m, ev env k, ev env v with
    | some (.map (some r)), some kv, some x => match h.get r with
      | some (.map es c) =>
        if !keyOK key kv then none else
        match afind key kv es 0 with
        | some (some i) => some (undefV, h.set r (some (.map (es.modify i fun e => { e with key := kv, val := x }) c)), n)
        | some none => some (undefV, h.set r (some (.map (es ++ [{ key := kv, val := x, born := c }]) (c + 1))), n)
        | none => none
      | _ => none
    | _, _, _ => none
  | .mapEntry key zero m k => match ev env m, ev env k with
    | some (.map (some r)), some kv => match h.get r with
      | some (.map es c) =>
        if !keyOK key kv then none else
        match afind key kv es 0 with
        | some (some i) => match es[i]? with
          | some e => some (.tuple #[e.val, .int .i64 e.born], h.set r (some (.map (es.modify i fun e => { e with key := kv }) c)), n)
          | none => none
        | some none => some (.tuple #[zero, .int .i64 c], h.set r (some (.map (es ++ [{ key := kv, val := zero, born := c }]) (c + 1))), n)
        | none => none
      | _ => none
    | _, _ => none
  | .entryStore m s v => match ev env m, ev env s, ev env v with
    | some (.map (some r)), some (.int _ b), some x => match h.get r with
      | some (.map es c) => match es.findIdx? (fun e => (e.born : Int) == b) with
        | some i => some (undefV, h.set r (some (.map (es.modify i fun e => { e with val := x }) c)), n)
        | none => none
      | _ => none
    | _, _, _ => none
  | .extract t i => match ev env t with
    | some (.tuple vs) => match vs[i]? with
      | some v => some (v, h, n)
      | none => none
    | _ => none
  | .len k x => match k, ev env x with
    | .str, some (.string s) => some (.int .i64 s.size, h, n)
    | .arr m, some _ => some (.int .i64 m, h, n)
    | .sl, some (.slice _ m _) => some (.int .i64 m, h, n)
    | .map, some mv => match mapAt h mv with
      | some (es, _) => some (.int .i64 es.length, h, n)
      | none => none
    | _, _ => none
  | .append e bytes s x => match ev env s, ev env x with
    | some a, some b => aappend h n e bytes a b
    | _, _ => none
  | .copy e d s => match ev env d, ev env s with
    | some a, some b => match acopy h e a b with
      | some (v, h') => some (v, h', n)
      | none => none
    | _, _ => none
  | .clearMap m => match ev env m with
    | some (.map (some r)) => match h.get r with
      | some (.map _ c) => some (undefV, h.set r (some (.map [] c)), n)
      | _ => none
    | _ => none
  | .clearSlice zero x => match ev env x with
    | some (.slice none _ _) => some (undefV, h, n)
    | some (.slice (some ⟨id, off, none⟩) len _) =>
      if Nat.beq len 0 then some (undefV, h, n) else
      match h.get id with
      | some (.cells false cs) => let z := rep zero len
        if Nat.ble (off + z.length) cs.length && z.all scalar then some (undefV, h.set id (some (.cells false (putCells cs off z))), n) else none
      | _ => none
    | _ => none
  | .delete key m k => match ev env m, ev env k with
    | some (.map (some r)), some kv => match h.get r with
      | some (.map es c) =>
        if !keyOK key kv then none else
        match afind key kv es 0 with
        | some (some i) => some (undefV, h.set r (some (.map (es.eraseIdx i) c)), n)
        | some none => some (undefV, h.set r (some (.map es c)), n)
        | none => none
      | _ => none
    | _, _ => none
  | .minmax isMax xs => match evs env xs with
    | some (.int k a :: r) => match r.foldlM (fun (acc : Int) v => match v with | .int _ b => some (if isMax then (if b > acc then b else acc) else (if b < acc then b else acc)) | _ => none) a with
      | some m => some (.int k m, h, n)
      | none => none
    | _ => none
  | .bad | .call .. | .callv .. => none

/-! ### Runs -/

structure St where
  env : Env
  h : Heap
  n : Nat
  marks : List Nat

structure Rec where
  call : FuncId → List Value → Heap → Nat → Option (Value × Heap × Nat)
  code : Option Nat → ACode → St → Option (AExit × St)

def bindParams : List Nat → List Value → Env → Option Env
  | [], [], e => some e
  | t :: ts, v :: vs, e => bindParams ts vs ((t, v) :: e)
  | _, _, _ => none

def jumpOfExit : AExit → Option AJump
  | .normal => none
  | .exit id => some (.exit id)
  | .ret => some .ret

/-- one round of a range over a function: the call of yield -/
def round (r : Rec) (l : Nat) (args : List Value) (h : Heap) (n : Nat) : Option (Value × Heap × Nat) :=
  match h.get l with
  | some (.loop .ready _ env params assign body) =>
    match bindParams params args env with
    | none => none
    | some env => match r.code (some l) assign ⟨env, h, n, []⟩ with
      | some (.normal, s1) => match s1.h.get l with
        | some (.loop .ready p e ps as bd) =>
          match r.code (some l) body { s1 with h := s1.h.set l (some (.loop .busy p e ps as bd)) } with
          | some (x, s2) =>
            match s2.h.get l with
            | some (.loop _ _ e ps as bd) => some (.bool (jumpOfExit x).isNone, s2.h.set l (some (.loop (if (jumpOfExit x).isNone then .ready else .done) (jumpOfExit x) e ps as bd)), s2.n)
            | _ => none
          | none => none
        | _ => none
      | _ => none
  | _ => none

def callV (r : Rec) (f : Value) (args : List Value) (h : Heap) (n : Nat) : Option (Value × Heap × Nat) :=
  match f with
  | .func (.func g) fs cs => r.call g (fs.toList ++ args ++ cs.toList) h n
  | .func (.yield l) _ _ => round r l args h n
  | _ => none

def opx (r : Rec) (env : Env) (h : Heap) (n : Nat) : AOp → Option (Value × Heap × Nat)
  | .call f args => match evs env args with
    | some vs => r.call f vs h n
    | none => none
  | .callv f args => match ev env f, evs env args with
    | some fv, some vs => callV r fv vs h n
    | _, _ => none
  | op => aop env h n op

def putDst (env : Env) (dst : Option Nat) (v : Value) : Env :=
  match dst with
  | some d => (d, v) :: env
  | none => env

/-- is an operation wanted? -/
def guardV (env : Env) : Option (Nat × Bool) → Option Bool
  | none => some true
  | some (t, b) => match env.get t with
    | some (.bool x) => some (x == b)
    | some (.tuple a) => if Nat.beq a.size 0 then some false else none
    | _ => none

/-- the ids of an object range are laid over a heap -/
def addIds (K H : Heap) (a : Nat) : Nat → Heap
  | 0 => K
  | c + 1 => ⟨(addIds K H a c).t.put (a + c) (H.get (a + c)), K.lo⟩

/-- an object range is taken out of a heap -/
def cutIds (K : Heap) (a : Nat) : Nat → Heap
  | 0 => K
  | c + 1 => ⟨(cutIds K a c).t.put (a + c) none, K.lo⟩

def cutAll (h : Heap) : List (Nat × Nat) → Heap
  | [] => h
  | (a, b) :: r => cutIds (cutAll h r) a (b - a)

/-- what was taken out is laid back -/
def relay (h1 h : Heap) : List (Nat × Nat) → Heap
  | [] => h1
  | (a, b) :: r => addIds (relay h1 h r) h a (b - a)

/-- these objects alone -/
def restr (h : Heap) : List Nat → Heap
  | [] => ⟨.leaf, h.lo⟩
  | i :: r => ⟨(restr h r).t.put i (h.get i), h.lo⟩

/-- these objects as they are there -/
def ovl (h h1 : Heap) : List Nat → Heap
  | [] => ⟨h.t, h1.lo⟩
  | i :: r => ⟨(ovl h h1 r).t.put i (h1.get i), h1.lo⟩

/-- what an operation of a region has met: objects (all but ranges, or some), and what it has made -/
structure Foot where
  ro : Bool
  all : Bool
  ids : List Nat
  cuts : List (Nat × Nat)
  lo : Nat
  hi : Nat
  rdop : Option (AOp × Value) := none

def Foot.nil : Foot := ⟨true, false, [], [], 0, 0, none⟩

def inCuts (cuts : List (Nat × Nat)) (id : Nat) : Bool := cuts.any fun c => Nat.ble c.1 id && Nat.blt id c.2

/-- two operations do not meet (the first stands ahead of the second in the text) -/
def footOK (a b : Foot) : Bool :=
  (Nat.ble a.hi a.lo || (if b.all then b.cuts.any fun c => Nat.beq c.1 a.lo && Nat.beq c.2 a.hi else b.ids.all fun id => Nat.blt id a.lo || Nat.ble a.hi id)) &&
  ((a.ro && b.ro) || (match a.all, b.all with
    | false, false => a.ids.all fun id => !b.ids.any (Nat.beq id)
    | false, true => a.ids.all (inCuts b.cuts)
    | true, false => b.ids.all (inCuts a.cuts)
    | true, true => false))

def chkPar (fs : List Foot) (par : List Nat) (b : Foot) : Bool := par.all fun d => match fs[d]? with
  | some a => footOK a b
  | none => false

def idsOf : Value → List Nat
  | .pointer (some a) => [a.block]
  | .slice (some a) _ _ => [a.block]
  | .map (some r) => [r]
  | _ => []

def opdsOf : AOp → List AOpd
  | .load _ a => [a]
  | .len _ x => [x]
  | .lookup _ _ _ m _ => [m]
  | .store _ a v => [a, v]
  | .append _ _ s x => [s, x]
  | .copy _ d s => [d, s]
  | .mapUpdate _ m k v => [m, k, v]
  | .mapEntry _ _ m k => [m, k]
  | .entryStore m s v => [m, s, v]
  | .delete _ m k => [m, k]
  | .clearMap m => [m]
  | .clearSlice _ x => [x]
  | .convStr x => [x]
  | _ => []

/-- the objects that the operands point to -/
def topIds (env : Env) (n : Nat) (op : AOp) : List Nat := ((opdsOf op).flatMap fun x => match ev env x with
  | some v => idsOf v
  | none => []).filter fun id => Nat.blt id n

def cutsOf (fs : List Foot) (par : List Nat) : List (Nat × Nat) := par.flatMap fun d => match fs[d]? with
  | some a => [(a.lo, a.hi)]
  | none => []

/-- a reading with its operands' values -/
def constOp (env : Env) (op : AOp) : AOp :=
  match op with
  | .load g x => match ev env x with
    | some p => .load g (.const p)
    | none => .bad
  | .len k x => match ev env x with
    | some p => .len k (.const p)
    | none => .bad
  | .lookup key z ok m k => match ev env m, ev env k with
    | some p, some q => .lookup key z ok (.const p) (.const q)
    | _, _ => .bad
  | _ => .bad

def scalBeq : Value → Value → Bool
  | .bool a, .bool b => a == b
  | .int k a, .int k' b => decide (k = k') && decide (a = b)
  | .string a, .string b => decide (a = b)
  | .pointer none, .pointer none => true
  | .pointer (some ⟨a, o, none⟩), .pointer (some ⟨b, p, none⟩) => Nat.beq a b && Nat.beq o p
  | .slice none l c, .slice none l' c' => Nat.beq l l' && Nat.beq c c'
  | .slice (some ⟨a, o, none⟩) l c, .slice (some ⟨b, p, none⟩) l' c' => Nat.beq a b && Nat.beq o p && Nat.beq l l' && Nat.beq c c'
  | .map none, .map none => true
  | .map (some a), .map (some b) => Nat.beq a b
  | .nilFunc, .nilFunc => true
  | .nilIface, .nilIface => true
  | _, _ => false

def scalsBeq : List Value → List Value → Bool
  | [], [] => true
  | x :: xs, y :: ys => scalBeq x y && scalsBeq xs ys
  | _, _ => false

def valBeq : Value → Value → Bool
  | .agg a, .agg b => scalsBeq a.toList b.toList
  | .tuple a, .tuple b => scalsBeq a.toList b.toList
  | v, w => scalBeq v w

/-- readings ahead read the same now -/
def chkRe (fs : List Foot) (chk : List Nat) (h : Heap) (n : Nat) : Bool := chk.all fun d => match fs[d]? with
  | some a => (match a.rdop with
    | some (op, v) => (match aop [] h n op with
      | some (v', _, _) => valBeq v v'
      | none => false)
    | none => true)
  | none => false

/-- fs: what the operations ahead have met, the last one first -/
def execOps (r : Rec) : List AOper → List Foot → St → Option St
  | [], _, s => some s
  | o :: rest, fs, s =>
    match guardV s.env o.guard with
    | none => none
    | some false => execOps r rest (Foot.nil :: fs) { s with env := putDst s.env o.dst undefV }
    | some true =>
      match o.cls with
      | .seq => match opx r s.env s.h s.n o.op with
        | some (v, h, n) => execOps r rest (⟨false, true, [], [], s.n, n, none⟩ :: fs) ⟨putDst s.env o.dst v, h, n, s.marks⟩
        | none => none
      | .still => match aop s.env s.h s.n o.op with
        | some (v, h, n) => execOps r rest (Foot.nil :: fs) ⟨putDst s.env o.dst v, h, n, s.marks⟩
        | none => none
      | .rd => if !chkPar fs o.par ⟨true, false, topIds s.env s.n o.op, [], 0, 0, none⟩ then none else
        match aop s.env s.h s.n o.op with
        | some (v, h, n) => execOps r rest (⟨true, false, topIds s.env s.n o.op, [], 0, 0, some (constOp s.env o.op, v)⟩ :: fs) ⟨putDst s.env o.dst v, h, n, s.marks⟩
        | none => none
      | .mk => match aop s.env s.h s.n o.op with
        | some (v, h, n) => execOps r rest (⟨true, false, [], [], s.n, n, none⟩ :: fs) ⟨putDst s.env o.dst v, h, n, s.marks⟩
        | none => none
      | .on => match opx r s.env (restr s.h (topIds s.env s.n o.op)) s.n o.op with
        | some (v, h, n) =>
          if !chkPar fs o.par ⟨false, false, topIds s.env s.n o.op, [], s.n, n, none⟩ || !chkRe fs o.chk (addIds (ovl s.h h (topIds s.env s.n o.op)) h s.n (n - s.n)) n then none else
          execOps r rest (⟨false, false, topIds s.env s.n o.op, [], s.n, n, none⟩ :: fs) ⟨putDst s.env o.dst v, addIds (ovl s.h h (topIds s.env s.n o.op)) h s.n (n - s.n), n, s.marks⟩
        | none => none
      | .ro => match opx r s.env ⟨(cutAll s.h (cutsOf fs o.par)).t, s.n⟩ s.n o.op with
        | some (v, h, n) =>
          if !chkPar fs o.par ⟨true, true, [], cutsOf fs o.par, s.n, n, none⟩ then none else
          if Nat.ble s.n h.lo then execOps r rest (⟨true, true, [], cutsOf fs o.par, s.n, n, none⟩ :: fs) ⟨putDst s.env o.dst v, ⟨(relay h s.h (cutsOf fs o.par)).t, s.h.lo⟩, n, s.marks⟩ else none
        | none => none
      | .rw => match opx r s.env (cutAll s.h (cutsOf fs o.par)) s.n o.op with
        | some (v, h, n) =>
          if !chkPar fs o.par ⟨false, true, [], cutsOf fs o.par, s.n, n, none⟩ || !chkRe fs o.chk (relay h s.h (cutsOf fs o.par)) n then none else
          execOps r rest (⟨false, true, [], cutsOf fs o.par, s.n, n, none⟩ :: fs) ⟨putDst s.env o.dst v, relay h s.h (cutsOf fs o.par), n, s.marks⟩
        | none => none

/-- a call of a function value that is a Go function -/
def callG (r : Rec) (f : Value) (args : List Value) (h : Heap) (n : Nat) : Option (Value × Heap × Nat) :=
  match f with
  | .func (.func g) fs cs => r.call g (fs.toList ++ args ++ cs.toList) h n
  | _ => none

/-- in a round: is its loop there? -/
def loopThere (rd : Option Nat) (h : Heap) : Bool :=
  match rd with
  | none => true
  | some l => match h.get l with
    | some (.loop ..) => true
    | _ => false

/-- an outermost range over a function leaves a mark -/
def enterSt (rd : Option Nat) (s : St) : St :=
  match rd with
  | none => ⟨s.env, s.h.new s.n (.mark false), s.n + 1, s.n :: s.marks⟩
  | some _ => s

def exitOf : Option AJump → AExit
  | none => .normal
  | some (.exit id) => .exit id
  | some .ret => .ret

def exec (r : Rec) (rd : Option Nat) : ACode → St → Option (AExit × St)
  | .skip, s => some (.normal, s)
  | .region ops, s => (execOps r ops [] s).map (.normal, ·)
  | .seq a b, s => match exec r rd a s with
    | some (.normal, s1) => exec r rd b s1
    | x => x
  | .cond c a b, s => match ev s.env c with
    | some (.bool true) => exec r rd a s
    | some (.bool false) => exec r rd b s
    | _ => none
  | .block id b, s => match exec r rd b s with
    | some (.exit i, s1) => if Nat.beq i id then some (.normal, s1) else some (.exit i, s1)
    | x => x
  | .loop b, s => match exec r rd b s with
    | some (.normal, s1) => r.code rd (.loop b) s1
    | x => x
  | .rangeFunc f params assign body, s =>
    match ev s.env f with
    | none => none
    | some fv =>
      if !loopThere rd s.h then none else
      match callG r fv [.func (.yield (enterSt rd s).n) #[] #[]] ((enterSt rd s).h.new (enterSt rd s).n (.loop .ready none s.env params assign body)) ((enterSt rd s).n + 1) with
      | some (_, h, n) => match h.get (enterSt rd s).n with
        | some (.loop .busy _ _ _ _ _) => none
        | some (.loop _ p e ps as bd) => some (exitOf p, ⟨s.env, h.set (enterSt rd s).n (some (.loop .exhausted p e ps as bd)), n, (enterSt rd s).marks⟩)
        | _ => none
      | none => none
  | .exit id, s => some (.exit id, s)
  | .ret, s => some (.ret, s)
  | .keep ts c, s => exec r rd c { s with env := s.env.keep ts }
  | .scope c, s => exec r rd c s
  | .gc ids c, s => exec r rd c { s with h := ⟨(restr s.h ids).t, 0⟩ }

def takeMarks : List Nat → Heap → Option Heap
  | [], h => some h
  | m :: ms, h => match h.get m with
    | some (.mark false) => takeMarks ms (h.set m (some (.mark true)))
    | _ => none

def resOf (env : Env) (h : Heap) : ARes → Option Value
  | .tmp t => env.get t
  | .cell t agg => match env.get t with
    | some p => loadAt h agg p
    | none => none

def ressOf (env : Env) (h : Heap) : List ARes → Option (List Value)
  | [] => some []
  | x :: xs => match resOf env h x with
    | some v => match ressOf env h xs with
      | some vs => some (v :: vs)
      | none => none
    | none => none

def tupleOf : List Value → Value
  | [v] => v
  | vs => .tuple vs.toArray

def numbered : Nat → List Value → Env
  | _, [] => []
  | i, v :: vs => (i, v) :: numbered (i + 1) vs

def execCall (AP : FuncId → Option AFunc) (r : Rec) (f : FuncId) (args : List Value) (h : Heap) (n : Nat) : Option (Value × Heap × Nat) :=
  match AP f with
  | none => none
  | some fn =>
    if !Nat.beq args.length fn.nparams then none else
    match exec r none fn.body ⟨numbered 0 args, h, n, []⟩ with
    | some (.normal, s) | some (.ret, s) => match takeMarks s.marks s.h with
      | some h => match ressOf s.env h fn.results with
        | some vs => some (tupleOf vs, h, s.n)
        | none => none
      | none => none
    | _ => none

def runK (AP : FuncId → Option AFunc) : Nat → Rec
  | 0 => ⟨fun _ _ _ _ => none, fun _ _ _ => none⟩
  | k + 1 => ⟨execCall AP (runK AP k), exec (runK AP k)⟩
end Go.Proofs.Ytbhgncfbljkdgaa.AI
