/-
  Loops; functions that are told; heaps that grow.
-/
import Derived.Test.YtbhgncfbljkdgaaA33
namespace Go.Proofs.Ytbhgncfbljkdgaa.AI
open Go

theorem loop_wp {AP : FuncId → Option AFunc} {O : Ora} {rd : Option Nat} {b : ACode} {s : St} {Q : AExit → St → Prop} (hw : WP (RO AP O) rd b s (thenQ (RO AP O) rd (.loop b) Q)) : WP (RO AP O) rd (.loop b) s Q := by
  obtain ⟨x, s1, e, q⟩ := hw
  cases x with
  | normal =>
    obtain ⟨y, s2, e2, q2⟩ := q
    exact ⟨y, s2, loop_more e e2, q2⟩
  | exit i => exact ⟨_, _, loop_exit e, q⟩
  | ret => exact ⟨_, _, loop_ret e, q⟩

theorem WPv_of {x : Option (Value × Heap × Nat)} {v : Value} {h : Heap} {n : Nat} {Q : Value → Heap → Nat → Prop} (e : x = some (v, h, n)) (q : Q v h n) : WPv x Q := ⟨_, _, _, e, q⟩

/-- a function is told by a relation -/
def Tells (O : Ora) (f : FuncId) (Sp : PSpec) : Prop := ∃ g, O f = some g ∧ ∀ {args h v}, Sp args h v → ∀ n, g args h n = some (v, h, n)

theorem Tells.call {AP : FuncId → Option AFunc} {O : Ora} {f : FuncId} {Sp : PSpec} (t : Tells O f Sp) {args : List Value} {h : Heap} {v : Value} (hs : Sp args h v) (n : Nat) : (RO AP O).call f args h n = some (v, h, n) :=
  let ⟨_, e, hg⟩ := t
  RO_ora e (hg hs n)

theorem Tells.add {O : Ora} {f f' : FuncId} {Sp : PSpec} {g : List Value → Heap → Nat → Option (Value × Heap × Nat)} (t : Tells O f Sp) (hne : Nat.beq f' f = false) : Tells (O.add f' g) f Sp :=
  let ⟨g', e, hg⟩ := t
  ⟨g', by rw [Ora.add_ne hne]; exact e, hg⟩

theorem tell {P : Program} {AP : FuncId → Option AFunc} {O : Ora} (ho : OraOK P O) (htab : TabOK P AP) (hmix : P.follows .mixedOrders = true) {f : FuncId} (hgf : goFunc P f = true) {Sp : PSpec}
    (H : ∀ {args h v}, Sp args h v → plainB v = true ∧ ∀ n, Dom h n → WPv ((RO AP O).call f args h n) fun v' h' _ => v' = v ∧ Keeps n h h') :
    OraOK P (O.add f (relOra Sp)) ∧ Tells (O.add f (relOra Sp)) f Sp := by
  obtain ⟨h1, h2⟩ := OraOK.pureRel ho htab hmix hgf (Sp := Sp) H
  exact ⟨ho.add h1, _, Ora.add_self, h2⟩

theorem Dom.new {h : Heap} {n : Nat} {o : AObj} (hd : Dom h n) : Dom (h.new n o) (n + 1) := by
  intro id x e
  rw [Heap.get_new] at e
  split at e
  · omega
  · have := hd id x e; omega

theorem Dom.ne {h : Heap} {n : Nat} (hd : Dom h n) {id : Nat} {o : AObj} (e : h.get id = some o) : id ≠ n := by
  have := hd id o e; omega

/-- what was there is there -/
def Has (h h' : Heap) : Prop := ∀ id o, h.get id = some o → h'.get id = some o
theorem Has.refl (h : Heap) : Has h h := fun _ _ e => e
theorem Has.trans {h h1 h2 : Heap} (a : Has h h1) (b : Has h1 h2) : Has h h2 := fun id o e => b id o (a id o e)
theorem Has.new {h : Heap} {n : Nat} {o : AObj} (hd : Dom h n) : Has h (h.new n o) := fun id x e => by
  rw [Heap.get_new, if_neg (hd.ne e)]; exact e
theorem Has.keeps {h h' : Heap} {n : Nat} (hd : Dom h n) (k : Keeps n h h') : Has h h' := fun id o e => (k id (hd id o e)).trans e
theorem Keeps.new0 (n : Nat) (h : Heap) (o : AObj) : Keeps n h (h.new n o) := (Keeps.refl n h).new (Nat.le_refl _) o
theorem Keeps.new1 {n m : Nat} {h h1 : Heap} {o : AObj} (k : Keeps n h h1) (hm : n ≤ m) : Keeps n h (h1.new m o) := k.new hm o

theorem Ints.has {h h' : Heap} {v : Value} {k : IntKind} {l : List Int} (a : Ints h v k l) (hk : Has h h') : Ints h' v k l := a.mono hk
end Go.Proofs.Ytbhgncfbljkdgaa.AI
