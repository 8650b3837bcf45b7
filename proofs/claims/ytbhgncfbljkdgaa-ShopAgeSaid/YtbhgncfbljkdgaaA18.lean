/-
  A region that draws its order, on the machine: whatever order is drawn, what the run in the order of the text says comes about.
-/
import Derived.Test.YtbhgncfbljkdgaaA17
import Derived.Orders
namespace Go.Proofs.Ytbhgncfbljkdgaa.AI
open Go

variable {P : Program} {r : Rec}

/-! ### what stands ahead of what -/

theorem masks_acc : ∀ (os : List Oper) (acc : List Nat) (j : Nat), j < acc.length → (masks os acc)[j]? = acc[j]?
  | [], acc, j, _ => rfl
  | o :: os, acc, j, h => by
    simp only [masks]
    rw [masks_acc os _ j (by simp; omega), List.getElem?_append_left h]

theorem foldl_mask (acc : List Nat) (S : Nat → Bool) (i : Nat) : ∀ (es : List Edge) (m : Nat),
    (es.foldl (fun m e => if Region.binds .any e && Nat.blt e.on acc.length then m ||| (2 ^ e.on ||| acc.getD e.on 0) else m) m).testBit i = true →
    (∀ e ∈ es, Region.binds .any e = true → S e.on = true ∧ ((acc.getD e.on 0).testBit i = true → S i = true)) → (m.testBit i = true → S i = true) → S i = true
  | [], m, h, _, hm => hm h
  | e :: es, m, h, he, hm => by
    simp only [List.foldl_cons] at h
    refine foldl_mask acc S i es _ h (fun e' he' => he e' (by simp [he'])) fun hb => ?_
    split at hb
    · rename_i hc
      simp only [Bool.and_eq_true] at hc
      have := he e (by simp) hc.1
      simp only [Nat.testBit_or, Bool.or_eq_true] at hb
      rcases hb with hb | hb | hb
      · exact hm hb
      · rw [Nat.testBit_two_pow] at hb
        simp at hb; rw [← hb]; exact this.1
      · exact this.2 hb
    · exact hm hb

/-- a set that is closed downwards holds what stands ahead of its members -/
theorem masks_closed (S : Nat → Bool) : ∀ (os : List Oper) (acc : List Nat) (all : List Oper), (∀ j, os[j]? = all[acc.length + j]?) →
    (∀ j o, all[j]? = some o → S j = true → ∀ e ∈ o.after, Region.binds .any e = true → S e.on = true) →
    (∀ j m, acc[j]? = some m → S j = true → ∀ i, m.testBit i = true → S i = true) →
    ∀ j m, (masks os acc)[j]? = some m → S j = true → ∀ i, m.testBit i = true → S i = true
  | [], acc, all, _, _, hacc => hacc
  | o :: os, acc, all, hall, hS, hacc => by
    simp only [masks]
    refine masks_closed S os (acc ++ [maskOf acc o]) all (fun j => ?_) hS fun j m hj hs i hi => ?_
    · have := hall (j + 1)
      rw [show acc.length + (j + 1) = (acc ++ [maskOf acc o]).length + j by simp; omega] at this
      simpa using this
    · by_cases hjl : j < acc.length
      · rw [List.getElem?_append_left hjl] at hj
        exact hacc j m hj hs i hi
      · rw [List.getElem?_append_right (by omega)] at hj
        have hj0 : j = acc.length := by
          rw [List.getElem?_eq_some_iff] at hj; obtain ⟨a, _⟩ := hj; simp at a; omega
        subst hj0
        simp at hj; subst hj
        have ho : all[acc.length]? = some o := by have := hall 0; simpa using this.symm
        refine foldl_mask acc S i o.after.toList 0 hi (fun e he hb => ?_) (by simp)
        have h1 := hS _ o ho hs e (by simpa using he) hb
        refine ⟨h1, fun hbit => ?_⟩
        cases hm : acc[e.on]? with
        | none => rw [List.getD_eq_getElem?_getD, hm] at hbit; simp at hbit
        | some m' => rw [List.getD_eq_getElem?_getD, hm] at hbit; exact hacc e.on m' hm h1 i (by simpa using hbit)

/-- what the check of a drawn region says of two operations -/
theorem pair_of {ops : List Oper} {as : List AOper} (hc : chkDraw ops as = true) {i j : Nat} (hij : i < j) {a b : AOper} (ha : as[i]? = some a) (hb : as[j]? = some b) : pairOK (((masks ops []).getD j 0).testBit i) (j - 1 - i) a b = true := by
  simp only [chkDraw, Bool.and_eq_true, List.all_eq_true, List.mem_range] at hc
  have hj : j < as.length := by rw [List.getElem?_eq_some_iff] at hb; exact hb.1
  have := hc.2 j hj i hij
  rw [ha, hb] at this
  exact this

/-- closed downwards -/
def Closed (ops : List Oper) (S : Nat → Bool) : Prop := ∀ j o, ops[j]? = some o → S j = true → ∀ e ∈ o.after, Region.binds .any e = true → S e.on = true

theorem anc_closed {ops : List Oper} {S : Nat → Bool} (hS : Closed ops S) {i j : Nat} (hj : j < ops.length) (hb : ((masks ops []).getD j 0).testBit i = true) (hs : S j = true) : S i = true := by
  cases hm : (masks ops [])[j]? with
  | none => rw [List.getD_eq_getElem?_getD, hm] at hb; simp at hb
  | some m =>
    rw [List.getD_eq_getElem?_getD, hm] at hb
    exact masks_closed S ops [] ops (fun j => by simp) hS (fun j m h => by simp at h) j m hm hs i (by simpa using hb)

/-- if all that an operation waits for is done, all that stands ahead of it is done -/
theorem anc_ready {ops : List Oper} {S : Nat → Bool} (hS : Closed ops S) {i j : Nat} {o : Oper} (ho : ops[j]? = some o) (hb : ((masks ops []).getD j 0).testBit i = true) (hr : ∀ e ∈ o.after, Region.binds .any e = true → S e.on = true) (hne : i ≠ j) : S i = true := by
  have hj : j < ops.length := by rw [List.getElem?_eq_some_iff] at ho; exact ho.1
  have h2 : Closed ops (fun x => S x || Nat.beq x j) := by
    intro k ok hk hs e he hbi
    simp only [Bool.or_eq_true] at hs ⊢
    rcases hs with hs | hs
    · exact .inl (hS k ok hk hs e he hbi)
    · have := eq_of_beq_nat hs; subst this
      rw [ho] at hk; cases hk
      exact .inl (hr e he hbi)
  have := anc_closed h2 hj hb (by simp)
  simp only [Bool.or_eq_true] at this
  rcases this with h | h
  · exact h
  · exact absurd (eq_of_beq_nat h) hne

/-- does an operation change an object? -/
def Wr (t : Tra) (i id : Nat) : Prop := (t.h (i + 1)).get id ≠ (t.h i).get id

/-- what is known as some operations of a drawn region have been carried out -/
structure Inv (P : Program) (as : List AOper) (t : Tra) (ρ0 : Ren) (g0 : Nat → Option AObj) (w0 : World) (S : Nat → Bool) (K : Nat → Option AObj) (ρ : Ren) (w : World) (a : Act) : Prop where
  kk : ∀ id, ∃ m, m ≤ as.length ∧ K id = (t.h m).get id ∧ (∀ i, i < m → Wr t i id → S i = true) ∧ (∀ i, m ≤ i → i < as.length → Wr t i id → S i = false)
  fresh : ∀ i, i < as.length → S i = false → Fresh ρ (t.n i) (t.n (i + 1))
  e1 : ∀ i x d, as[i]? = some x → S i = true → x.dst = some d → ∃ v', a.tmps[d]? = some v' ∧ VR ρ (t.v i) v'
  e2 : ∀ d v, (∀ i x, as[i]? = some x → S i = true → x.dst ≠ some d) → (t.e 0).get d = some v → ∃ v', a.tmps[d]? = some v' ∧ VR ρ v v'
  ext : X P ρ0 g0 (t.n 0) w0 ρ K (t.n as.length) w
end Go.Proofs.Ytbhgncfbljkdgaa.AI
