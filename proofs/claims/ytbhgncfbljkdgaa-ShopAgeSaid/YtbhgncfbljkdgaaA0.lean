/-
  The abstract heap of the abstract interpreter: renamings, values related under a renaming, a binary trie of objects. No program in sight.
-/
import Derived.CallsIn
namespace Go.Proofs.Ytbhgncfbljkdgaa.AI
open Go

/-- where an abstract object lies: block, first cell, how many cells are its own from there -/
structure Slot where
  b : Nat
  o : Nat
  ext : Nat

/-- a renaming: abstract ids to slots -/
abbrev Ren := Nat → Option Slot

/-- the mark of an open capacity: the slice has room for at least lb elements, maybe for more; its elements have e cells each -/
def openCap (e lb : Nat) : Nat := (lb + 1) * 4611686018427387904 + e
def isOpen (c : Nat) : Bool := Nat.ble 4611686018427387904 c
def openLb (c : Nat) : Nat := c / 4611686018427387904 - 1
def openE (c : Nat) : Nat := c % 4611686018427387904

theorem isOpen_openCap (e lb : Nat) : isOpen (openCap e lb) = true := by
  unfold isOpen openCap
  rw [Nat.ble_eq]
  omega
theorem openLb_openCap {e lb : Nat} (h : e < 4611686018427387904) : openLb (openCap e lb) = lb := by
  unfold openLb openCap; omega
theorem openE_openCap {e lb : Nat} (h : e < 4611686018427387904) : openE (openCap e lb) = e := by
  unfold openE openCap; omega

/-- the capacity of a concrete slice under the one of the abstract slice -/
def CapR (s : Slot) (off len cap cap' : Nat) : Prop :=
  if isOpen cap = true then len ≤ openLb cap ∧ openLb cap ≤ cap' ∧ off + cap' * openE cap ≤ s.ext else cap' = cap

inductive VR (ρ : Ren) : Value → Value → Prop
  | bool (b : Bool) : VR ρ (.bool b) (.bool b)
  | int (k : IntKind) (n : Int) : VR ρ (.int k n) (.int k n)
  | string (s : ByteArray) : VR ρ (.string s) (.string s)
  | ptrN : VR ρ (.pointer none) (.pointer none)
  | ptr {id off : Nat} {s : Slot} (h : ρ id = some s) : VR ρ (.pointer (some ⟨id, off, none⟩)) (.pointer (some ⟨s.b, s.o + off, none⟩))
  | sliceN : VR ρ (.slice none 0 0) (.slice none 0 0)
  | slice {id off len cap cap' : Nat} {s : Slot} (h : ρ id = some s) (hc : CapR s off len cap cap') :
      VR ρ (.slice (some ⟨id, off, none⟩) len cap) (.slice (some ⟨s.b, s.o + off, none⟩) len cap')
  | mapN : VR ρ (.map none) (.map none)
  | map {id : Nat} {s : Slot} (h : ρ id = some s) : VR ρ (.map (some id)) (.map (some s.b))
  | func (f : FuncId) {fs fs' cs cs' : Array Value} (hfz : fs.size = fs'.size) (hf : ∀ i (h1 : i < fs.size) (h2 : i < fs'.size), VR ρ fs[i] fs'[i]) (hsz : cs.size = cs'.size) (h : ∀ i (h1 : i < cs.size) (h2 : i < cs'.size), VR ρ cs[i] cs'[i]) :
      VR ρ (.func (.func f) fs cs) (.func (.func f) fs' cs')
  | yield {l : Nat} {s : Slot} (h : ρ l = some s) : VR ρ (.func (.yield l) #[] #[]) (.func (.yield s.b) #[] #[])
  | nilFunc : VR ρ .nilFunc .nilFunc
  | nilIface : VR ρ .nilIface .nilIface
  | agg {cs cs' : Array Value} (hsz : cs.size = cs'.size) (h : ∀ i (h1 : i < cs.size) (h2 : i < cs'.size), VR ρ cs[i] cs'[i]) : VR ρ (.agg cs) (.agg cs')
  | tuple {cs cs' : Array Value} (hsz : cs.size = cs'.size) (h : ∀ i (h1 : i < cs.size) (h2 : i < cs'.size), VR ρ cs[i] cs'[i]) : VR ρ (.tuple cs) (.tuple cs')

/-- one renaming knows at least what another one knows -/
def Ren.le (ρ ρ' : Ren) : Prop := ∀ id s, ρ id = some s → ρ' id = some s

theorem Ren.le_refl (ρ : Ren) : Ren.le ρ ρ := fun _ _ h => h
theorem Ren.le_trans {a b c : Ren} (h : Ren.le a b) (h' : Ren.le b c) : Ren.le a c := fun id s e => h' id s (h id s e)

theorem VR.mono {ρ ρ' : Ren} (h : Ren.le ρ ρ') {v v' : Value} (hv : VR ρ v v') : VR ρ' v v' := by
  induction hv with
  | bool b => exact .bool b
  | int k n => exact .int k n
  | string s => exact .string s
  | ptrN => exact .ptrN
  | ptr e => exact .ptr (h _ _ e)
  | sliceN => exact .sliceN
  | slice e hc => exact .slice (h _ _ e) hc
  | mapN => exact .mapN
  | map e => exact .map (h _ _ e)
  | func f hfz _ hsz _ ih1 ih => exact .func f hfz ih1 hsz ih
  | yield e => exact .yield (h _ _ e)
  | nilFunc => exact .nilFunc
  | nilIface => exact .nilIface
  | agg hsz _ ih => exact .agg hsz ih
  | tuple hsz _ ih => exact .tuple hsz ih

/-- arrays related element by element -/
def AR (ρ : Ren) (cs cs' : Array Value) : Prop := cs.size = cs'.size ∧ ∀ i (h1 : i < cs.size) (h2 : i < cs'.size), VR ρ cs[i] cs'[i]

theorem AR.mono {ρ ρ' : Ren} (h : Ren.le ρ ρ') {c c' : Array Value} (hv : AR ρ c c') : AR ρ' c c' :=
  ⟨hv.1, fun i h1 h2 => (hv.2 i h1 h2).mono h⟩

/-- lists related element by element -/
inductive LR (ρ : Ren) : List Value → List Value → Prop
  | nil : LR ρ [] []
  | cons {v v' : Value} {l l' : List Value} (h : VR ρ v v') (t : LR ρ l l') : LR ρ (v :: l) (v' :: l')

theorem LR.mono {ρ ρ' : Ren} (h : Ren.le ρ ρ') {l l' : List Value} (hv : LR ρ l l') : LR ρ' l l' := by
  induction hv with
  | nil => exact .nil
  | cons a _ ih => exact .cons (a.mono h) ih

theorem LR.length {ρ : Ren} {l l' : List Value} (h : LR ρ l l') : l.length = l'.length := by
  induction h with
  | nil => rfl
  | cons _ _ ih => simp [ih]

theorem LR.get {ρ : Ren} {l l' : List Value} (h : LR ρ l l') : ∀ (i : Nat) (v : Value), l[i]? = some v → ∃ v', l'[i]? = some v' ∧ VR ρ v v' := by
  induction h with
  | nil => intro i v e; simp at e
  | cons a _ ih =>
    intro i v e
    cases i with
    | zero => simp at e; subst e; exact ⟨_, by simp, a⟩
    | succ i => simp at e; simpa using ih i v e

theorem LR.append {ρ : Ren} {l l' m m' : List Value} (h : LR ρ l l') (h2 : LR ρ m m') : LR ρ (l ++ m) (l' ++ m') := by
  induction h with
  | nil => exact h2
  | cons a _ ih => exact .cons a ih

theorem LR.take {ρ : Ren} {l l' : List Value} (h : LR ρ l l') : ∀ n, LR ρ (l.take n) (l'.take n) := by
  induction h with
  | nil => intro n; simp; exact .nil
  | cons a _ ih => intro n; cases n with
    | zero => simp; exact .nil
    | succ n => simp; exact .cons a (ih n)

theorem LR.drop {ρ : Ren} {l l' : List Value} (h : LR ρ l l') : ∀ n, LR ρ (l.drop n) (l'.drop n) := by
  induction h with
  | nil => intro n; simp; exact .nil
  | cons a t ih => intro n; cases n with
    | zero => simp; exact .cons a t
    | succ n => simp; exact ih n

theorem LR.set {ρ : Ren} {l l' : List Value} (h : LR ρ l l') {v v' : Value} (hv : VR ρ v v') : ∀ n, LR ρ (l.set n v) (l'.set n v') := by
  induction h with
  | nil => intro n; simp; exact .nil
  | cons a t ih => intro n; cases n with
    | zero => simp; exact .cons hv t
    | succ n => simp; exact .cons a (ih n)

theorem LR.of_get {ρ : Ren} : ∀ {l l' : List Value}, l.length = l'.length → (∀ (i : Nat) (v : Value), l[i]? = some v → ∃ v', l'[i]? = some v' ∧ VR ρ v v') → LR ρ l l'
  | [], [], _, _ => .nil
  | [], _ :: _, h, _ => by simp at h
  | _ :: _, [], h, _ => by simp at h
  | a :: l, b :: l', h, g => by
    obtain ⟨b', e, hb⟩ := g 0 a (by simp)
    simp at e; subst e
    exact .cons hb (LR.of_get (by simpa using h) fun i v e => by simpa using g (i + 1) v (by simpa using e))

theorem AR.toList {ρ : Ren} {c c' : Array Value} (h : AR ρ c c') : LR ρ c.toList c'.toList :=
  LR.of_get (by simpa using h.1) fun i v e => by
    rw [List.getElem?_eq_some_iff] at e
    obtain ⟨hi, e⟩ := e
    simp at hi e
    subst e
    have h2 : i < c'.size := h.1 ▸ hi
    exact ⟨c'[i], by simp [h2], h.2 i hi h2⟩

theorem LR.toAR {ρ : Ren} {c c' : Array Value} (h : LR ρ c.toList c'.toList) : AR ρ c c' :=
  ⟨by simpa using h.length, fun i h1 h2 => by
    obtain ⟨v', e, hv⟩ := h.get i c[i] (by simp [h1])
    simp [h2] at e
    subst e
    exact hv⟩

/-- what a value is made of, without any address -/
def pureB : Value → Bool
  | .bool _ | .int .. | .string _ | .pointer none | .slice none 0 0 | .map none | .nilFunc | .nilIface => true
  | .func (.func _) fs cs => fs.isEmpty && cs.isEmpty
  | _ => false
/-- a value without any address, or an aggregate or tuple of such -/
def plainB : Value → Bool
  | .agg cs => cs.toList.all pureB
  | .tuple cs => cs.toList.all pureB
  | v => pureB v

theorem VR.of_pure {ρ : Ren} : ∀ {v : Value}, pureB v = true → VR ρ v v := by
  intro v h
  unfold pureB at h
  split at h
  case h_10 => exact absurd h (by simp)
  case h_9 f fs cs =>
    simp only [Bool.and_eq_true] at h
    obtain ⟨h1, h2⟩ := h
    have e1 : fs = #[] := by simpa using h1
    have e2 : cs = #[] := by simpa using h2
    subst e1; subst e2
    exact .func f rfl (fun i h1 _ => absurd h1 (by simp)) rfl fun i h1 _ => absurd h1 (by simp)
  all_goals constructor

theorem LR.of_pure {ρ : Ren} : ∀ {l : List Value}, l.all pureB = true → LR ρ l l
  | [], _ => .nil
  | v :: l, h => by
    simp only [List.all_cons, Bool.and_eq_true] at h
    exact .cons (VR.of_pure h.1) (LR.of_pure h.2)

theorem AR.of_pure {ρ : Ren} {c : Array Value} (h : c.toList.all pureB = true) : AR ρ c c := LR.toAR (LR.of_pure h)

theorem VR.of_plain {ρ : Ren} {v : Value} (h : plainB v = true) : VR ρ v v := by
  unfold plainB at h
  split at h
  · exact .agg rfl (AR.of_pure h).2
  · exact .tuple rfl (AR.of_pure h).2
  · exact VR.of_pure h

theorem VR.cells {ρ : Ren} {v v' : Value} (h : VR ρ v v') : AR ρ v.cells v'.cells := by
  have one : ∀ {a b : Value}, VR ρ a b → AR ρ #[a] #[b] := fun hab => ⟨rfl, fun i h1 _ => by
    have : i = 0 := by simp at h1; exact h1
    subst this; exact hab⟩
  cases h with
  | agg hsz hh => exact ⟨hsz, hh⟩
  | bool b => exact one (.bool b)
  | int k n => exact one (.int k n)
  | string s => exact one (.string s)
  | ptrN => exact one .ptrN
  | ptr e => exact one (.ptr e)
  | sliceN => exact one .sliceN
  | slice e hc => exact one (.slice e hc)
  | mapN => exact one .mapN
  | map e => exact one (.map e)
  | func f hfz hf hsz hh => exact one (.func f hfz hf hsz hh)
  | yield e => exact one (.yield e)
  | nilFunc => exact one .nilFunc
  | nilIface => exact one .nilIface
  | tuple hsz hh => exact one (.tuple hsz hh)

/-! ### A binary trie -/

inductive Tr (α : Type) where
  | leaf
  | node (l : Tr α) (o : Option α) (r : Tr α)

namespace Tr
variable {α : Type}
def get : Tr α → Nat → Option α
  | .leaf, _ => none
  | .node l o r, n => if Nat.beq n 0 then o else if Nat.beq (n % 2) 1 then get l (n / 2) else get r (n / 2 - 1)

def putK : Nat → Tr α → Nat → Option α → Tr α
  | 0, t, _, _ => t
  | k + 1, .leaf, n, x =>
    if Nat.beq n 0 then .node .leaf x .leaf else if Nat.beq (n % 2) 1 then .node (putK k .leaf (n / 2) x) none .leaf else .node .leaf none (putK k .leaf (n / 2 - 1) x)
  | k + 1, .node l o r, n, x =>
    if Nat.beq n 0 then .node l x r else if Nat.beq (n % 2) 1 then .node (putK k l (n / 2) x) o r else .node l o (putK k r (n / 2 - 1) x)

def put (t : Tr α) (n : Nat) (x : Option α) : Tr α := putK (n + 1) t n x

theorem get_leaf (n : Nat) : (Tr.leaf : Tr α).get n = none := rfl

theorem get_putK : ∀ (k : Nat) (t : Tr α) (n : Nat) (x : Option α) (m : Nat), n < k → (putK k t n x).get m = if m = n then x else t.get m
  | 0, _, _, _, _, h => by omega
  | k + 1, t, n, x, m, h => by
    have beq : ∀ a b : Nat, Nat.beq a b = decide (a = b) := fun a b => by
      by_cases hab : a = b
      · subst hab; simp
      · rw [decide_eq_false hab]; exact Bool.eq_false_iff.2 fun e => hab (Nat.eq_of_beq_eq_true e)
    cases t with
    | leaf =>
      unfold putK
      by_cases hn : n = 0
      · subst hn
        by_cases hm : m = 0
        · subst hm; simp [get]
        · simp [get, beq, hm]
      · by_cases h2 : n % 2 = 1
        · simp only [beq, hn, h2, decide_true, decide_false, if_true, Bool.false_eq_true, if_false]
          unfold get
          by_cases hm : m = 0
          · subst hm; have : ¬ (0 = n) := fun e => hn e.symm
            simp [this]
          · by_cases h3 : m % 2 = 1
            · simp only [beq, hm, h3, decide_true, decide_false, if_true, Bool.false_eq_true, if_false]
              rw [get_putK k _ _ _ _ (by omega)]
              by_cases e : m / 2 = n / 2
              · have : m = n := by omega
                simp [this]
              · have : ¬ m = n := by intro e'; subst e'; exact e rfl
                simp [this, e, get_leaf]
            · have : ¬ m = n := by intro e'; subst e'; exact h3 h2
              simp [beq, hm, h3, this, get_leaf]
        · simp only [beq, hn, h2, decide_false, Bool.false_eq_true, if_false]
          unfold get
          by_cases hm : m = 0
          · subst hm; have : ¬ (0 = n) := fun e => hn e.symm
            simp [this]
          · by_cases h3 : m % 2 = 1
            · have : ¬ m = n := by intro e'; subst e'; exact h2 h3
              simp [beq, hm, h3, this, get_leaf]
            · simp only [beq, hm, h3, decide_false, Bool.false_eq_true, if_false]
              rw [get_putK k _ _ _ _ (by omega)]
              by_cases e : m / 2 - 1 = n / 2 - 1
              · have : m = n := by omega
                simp [this]
              · have : ¬ m = n := by intro e'; subst e'; exact e rfl
                simp [this, e, get_leaf]
    | node l o r =>
      unfold putK
      by_cases hn : n = 0
      · subst hn
        by_cases hm : m = 0
        · subst hm; simp [get]
        · simp [get, beq, hm]
      · by_cases h2 : n % 2 = 1
        · simp only [beq, hn, h2, decide_true, decide_false, if_true, Bool.false_eq_true, if_false]
          unfold get
          by_cases hm : m = 0
          · subst hm; have : ¬ (0 = n) := fun e => hn e.symm
            simp [this]
          · by_cases h3 : m % 2 = 1
            · simp only [beq, hm, h3, decide_true, decide_false, if_true, Bool.false_eq_true, if_false]
              rw [get_putK k _ _ _ _ (by omega)]
              by_cases e : m / 2 = n / 2
              · have : m = n := by omega
                simp [this]
              · have : ¬ m = n := by intro e'; subst e'; exact e rfl
                simp [this, e]
            · have : ¬ m = n := by intro e'; subst e'; exact h3 h2
              simp [beq, hm, h3, this]
        · simp only [beq, hn, h2, decide_false, Bool.false_eq_true, if_false]
          unfold get
          by_cases hm : m = 0
          · subst hm; have : ¬ (0 = n) := fun e => hn e.symm
            simp [this]
          · by_cases h3 : m % 2 = 1
            · have : ¬ m = n := by intro e'; subst e'; exact h2 h3
              simp [beq, hm, h3, this]
            · simp only [beq, hm, h3, decide_false, Bool.false_eq_true, if_false]
              rw [get_putK k _ _ _ _ (by omega)]
              by_cases e : m / 2 - 1 = n / 2 - 1
              · have : m = n := by omega
                simp [this]
              · have : ¬ m = n := by intro e'; subst e'; exact e rfl
                simp [this, e]

theorem get_put (t : Tr α) (n : Nat) (x : Option α) (m : Nat) : (t.put n x).get m = if m = n then x else t.get m :=
  get_putK (n + 1) t n x m (by omega)
end Tr
end Go.Proofs.Ytbhgncfbljkdgaa.AI
