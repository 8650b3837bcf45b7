/-
  A table of functions; what a run of the interpreter says of a call on the machine.
-/
import Derived.Test.YtbhgncfbljkdgaaA24
namespace Go.Proofs.Ytbhgncfbljkdgaa.AI
open Go

inductive FT where
  | leaf
  | one (i : Nat) (a : AFunc)
  | node (m : Nat) (l r : FT)

def FT.get : FT → Nat → Option AFunc
  | .leaf, _ => none
  | .one i a, f => bif Nat.beq i f then some a else none
  | .node m l r, f => bif Nat.ble f m then l.get f else r.get f

def FT.OK (P : Program) : FT → Prop
  | .leaf => True
  | .one i a => chkFunc P P.funcs[i]? a = true
  | .node _ l r => l.OK P ∧ r.OK P

theorem FT.tab {P : Program} : ∀ {t : FT}, t.OK P → TabOK P t.get
  | .leaf, _, f, fn, h => by cases h
  | .one i a, ok, f, fn, h => by
    simp only [FT.get] at h
    cases hb : Nat.beq i f with
    | false => rw [hb] at h; cases h
    | true =>
      rw [hb] at h
      have := eq_of_beq_nat hb; subst this
      cases h
      exact ok
  | .node m l r, ok, f, fn, h => by
    simp only [FT.get] at h
    cases hb : Nat.ble f m with
    | false => rw [hb] at h; exact FT.tab ok.2 f fn h
    | true => rw [hb] at h; exact FT.tab ok.1 f fn h

theorem calls_of_run {P : Program} {AP : FuncId → Option AFunc} (htab : TabOK P AP) (hmix : P.follows .mixedOrders = true) {k : Nat} {f : FuncId} {args : List Value} {h h' : Heap} {n n' : Nat} {v : Value}
    (hrun : (runK AP k).call f args h n = some (v, h', n')) {ρ : Ren} {w : World} {args' : Array Value} (hl : LR ρ args args'.toList) (hr : R P ρ h.get w) (hd : Dom h n) (hf : ∀ id, n ≤ id → ρ id = none) :
    Calls P f args' w fun e w' => ∃ ρ' v', e = .returned v' ∧ VR ρ' v v' ∧ X P ρ h.get n w ρ' h'.get n' w' := by
  intro cs
  obtain ⟨w', ρ', v', fr, q1, q2, q3, q4, q5⟩ := ((runK_sound htab hmix k).1 hrun).2 hl hr hd ⟨fun id h1 _ => hf id h1, n, fun id h1 => hf id h1⟩ cs
  exact ⟨.returned v', w', fr, ⟨ρ', v', rfl, q4, q5⟩, q1, q2, q3⟩

/-- the blocks that were stay, where the abstract heap at the start is but read -/
def Stays (w w' : World) : Prop := w'.os = w.os ∧ w'.output = w.output ∧ w'.tape = w.tape ∧ w.heap.size ≤ w'.heap.size ∧ ∀ b, b < w.heap.size → w'.heap[b]? = w.heap[b]?

theorem X.stays {P : Program} {ρ ρ' : Ren} {g g' : Nat → Option AObj} {n n' : Nat} {w w' : World} (hx : X P ρ g n w ρ' g' n' w') (hro : ∀ id o, g id = some o → rwB o = false) : Stays w w' :=
  ⟨hx.os, hx.output, hx.tape, hx.size, fun b hb => hx.frame b hb fun ⟨id, o, _, e, hrw, _⟩ => by rw [hro id o e] at hrw; cases hrw⟩

/-- a law: the run returns true -/
theorem law_of_run {P : Program} {AP : FuncId → Option AFunc} (htab : TabOK P AP) (hmix : P.follows .mixedOrders = true) {k : Nat} {f : FuncId} {args : List Value} {h h' : Heap} {n n' : Nat}
    (hrun : (runK AP k).call f args h n = some (.bool true, h', n')) {ρ : Ren} {w : World} {args' : Array Value} (hl : LR ρ args args'.toList) (hr : R P ρ h.get w) (hd : Dom h n) (hf : ∀ id, n ≤ id → ρ id = none) (hro : ∀ id o, h.get id = some o → rwB o = false) :
    Calls P f args' w fun e w' => e = .returned (.bool true) ∧ Stays w w' := by
  intro cs
  obtain ⟨e, w', fr, ⟨ρ', v', q1, q2, q3⟩, q4, q5, q6⟩ := calls_of_run htab hmix hrun hl hr hd hf cs
  have := q2.bool_inv
  subst this
  exact ⟨e, w', fr, ⟨q1, X.stays q3 hro⟩, q4, q5, q6⟩

/-- a law without arguments -/
theorem law_closed {P : Program} {AP : FuncId → Option AFunc} (htab : TabOK P AP) (hmix : P.follows .mixedOrders = true) {k : Nat} {f : FuncId} {h' : Heap} {n' : Nat}
    (hrun : (runK AP k).call f [] ⟨.leaf, 0⟩ 0 = some (.bool true, h', n')) (w : World) : Calls P f #[] w fun e w' => e = .returned (.bool true) ∧ Stays w w' := by
  refine law_of_run htab hmix hrun (ρ := fun _ => none) .nil ⟨fun id o e => ?_, fun i j o o' s s' e => ?_⟩ (fun id o e => ?_) (fun _ _ => rfl) (fun id o e => ?_)
  all_goals (simp [Heap.get, Tr.get] at e)
end Go.Proofs.Ytbhgncfbljkdgaa.AI
