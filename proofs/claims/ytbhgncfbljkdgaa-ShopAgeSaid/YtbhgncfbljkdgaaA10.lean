/-
  Each operation that is no call does on a world what the abstract one does on the abstract heap: maps; all of them.
-/
import Derived.Test.YtbhgncfbljkdgaaA9
namespace Go.Proofs.Ytbhgncfbljkdgaa.AI
open Go

variable {P : Program} {C : Stands} {ρ : Ren} {g : Nat → Option AObj} {n : Nat} {w : World}

def leafV : Value → Bool
  | .int .. | .bool _ | .string _ => true
  | _ => false

theorem checkKey_leaf {t : TypeId} {u : TypeDesc} {d : Leaf} (hu : P.underlying t = some u) (hd : leafOf u = some d) {v : Value} (hv : leafV v = true) (em : Bool) (k : Nat) : (Instr.checkKey em (k + 1) t v).run P w = .ok () w := by
  simp only [Instr.checkKey, Sem.run_bind, run_underlying hu, Result.andThen_ok]
  cases u <;> first | (cases hd; done) | (cases v <;> first | rfl | (cases hv))

theorem checkKey_fields (em : Bool) (k : Nat) (xs : Array Value) (hx : xs.toList.all leafV = true) : ∀ (fs : List Field) (ds : List Leaf) (i : Nat), chkLeaves P i fs ds = true → i + ds.length ≤ xs.size →
    (forIn (m := Sem) fs PUnit.unit fun f (_ : PUnit) =>
      if f.name ≠ "_" then do
        let v ← part f.type xs f.offset
        Instr.checkKey em (k + 1) f.type v
        pure (ForInStep.yield PUnit.unit)
      else pure (ForInStep.yield PUnit.unit)).run P w = .ok PUnit.unit w
  | [], [], _, _, _ => rfl
  | [], _ :: _, _, h, _ => by simp [chkLeaves] at h
  | _ :: _, [], _, h, _ => by simp [chkLeaves] at h
  | f :: fs, d :: ds, i, h, hi => by
    simp only [chkLeaves, Bool.and_eq_true] at h
    obtain ⟨⟨⟨⟨c1, c2⟩, c3⟩, _⟩, c5⟩ := h
    have c1 := eq_of_beq_nat c1
    have c2 : f.name ≠ "_" := by simpa using c2
    simp only [List.length_cons] at hi
    split at c3
    · rename_i u hu
      split at c3
      · rename_i d' hd
        have hv : leafV xs[i] = true := by
          have := List.all_eq_true.1 hx xs[i] (by simp)
          exact this
        have p1 : (part f.type xs f.offset).run P w = .ok xs[i] w := run_part_leaf hu hd (by rw [c1]; simp [show i < xs.size by omega])
        have p2 := checkKey_leaf (P := P) (w := w) hu hd hv em k
        have ih := checkKey_fields em k xs hx fs ds (i + 1) c5 (by omega)
        simp only [List.forIn_cons, Sem.run_bind, if_pos c2, p1, Result.andThen_ok, p2, Sem.run_pure]
        exact ih
      · cases c3
    · cases c3

theorem checkKey_flat {t : TypeId} {ds : List Leaf} (hc : chkFlat P t ds = true) (hst : (match P.underlying t with | some (.struct _) => true | _ => false) = true) {xs : Array Value} (hsz : xs.size = ds.length) (hall : xs.toList.all leafV = true) (em : Bool) (k : Nat) :
    (Instr.checkKey em (k + 2) t (.agg xs)).run P w = .ok () w := by
  unfold chkFlat at hc
  split at hc
  · rename_i fs hu
    simp only [Bool.and_eq_true] at hc
    have h := checkKey_fields (P := P) (w := w) em k xs hall fs.toList ds 0 hc.2 (by omega)
    obtain ⟨m, hm⟩ : ∃ m, m = k + 1 := ⟨_, rfl⟩
    rw [show k + 2 = m + 1 by omega]
    simp only [Instr.checkKey, Sem.run_bind, run_underlying hu, Result.andThen_ok]
    subst hm
    rw [← Array.forIn_toList, h]
    rfl
  · rename_i hu; rw [hu] at hst; cases hst
  · cases hc

theorem checkKey_sound {t : TypeId} {kd : AKey} (hc : chkKey P t kd = true) {k k' : Value} (hk : VR ρ k k') (hok : keyOK kd k = true) (em : Bool) : (Instr.checkKey em 10000 t k').run P w = .ok () w := by
  cases kd with
  | now d =>
    have hu := chkKey_now hc
    have hd : ∃ l, leafOf d = some l := by
      unfold chkKey at hc
      rw [hu] at hc
      cases d <;> simp [leafOf] at hc ⊢
    obtain ⟨l, hd⟩ := hd
    refine checkKey_leaf hu hd ?_ em 9999
    cases k <;> simp [keyOK] at hok
    · cases hk; rfl
    · cases hk; rfl
    · cases hk; rfl
  | flat ds =>
    obtain ⟨xs, rfl, hsz, hall⟩ := keyOK_plain (ρ := ρ) hok hk
    have hall' : xs.toList.all leafV = true := by
      rw [List.all_eq_true] at hall ⊢
      intro v hv
      have := hall v hv
      cases v <;> first | rfl | exact this
    simp only [chkKey, Bool.and_eq_true] at hc
    obtain ⟨hc, hst⟩ := hc
    exact checkKey_flat hc hst hsz hall' em 9998

theorem EntsR.modify {es : List MapEntry} {es' : Array MapEntry} (h : EntsR ρ es es') (i : Nat) {f f' : MapEntry → MapEntry} (hf : ∀ e e', EntR ρ e e' → EntR ρ (f e) (f' e')) : EntsR ρ (es.modify i f) (es'.modify i f') := by
  refine ⟨by simpa using h.1, fun j e hj => ?_⟩
  rw [List.getElem?_modify] at hj
  cases he : es[j]? with
  | none => rw [he] at hj; simp at hj
  | some x =>
    rw [he] at hj
    obtain ⟨x', h1, h2⟩ := h.2 j x he
    rw [Array.getElem?_modify]
    by_cases hij : i = j
    · simp only [hij, if_true] at hj ⊢
      simp at hj; subst hj
      exact ⟨f' x', by simp [h1], hf _ _ h2⟩
    · simp only [hij, if_false] at hj ⊢
      simp at hj; subst hj
      exact ⟨x', h1, h2⟩

theorem EntsR.push {es : List MapEntry} {es' : Array MapEntry} (h : EntsR ρ es es') {e e' : MapEntry} (he : EntR ρ e e') : EntsR ρ (es ++ [e]) (es'.push e') := by
  refine ⟨by simp [h.1], fun j x hj => ?_⟩
  by_cases hl : j < es.length
  · rw [List.getElem?_append_left hl] at hj
    obtain ⟨x', h1, h2⟩ := h.2 j x hj
    exact ⟨x', by rw [Array.getElem?_push, if_neg (by have := h.1; omega)]; exact h1, h2⟩
  · rw [List.getElem?_append_right (by omega)] at hj
    have : j = es.length := by
      rw [List.getElem?_eq_some_iff] at hj; obtain ⟨a, _⟩ := hj; simp at a; omega
    subst this
    simp at hj; subst hj
    exact ⟨e', by rw [h.1]; simp, he⟩

theorem EntsR.erase {es : List MapEntry} {es' : Array MapEntry} (h : EntsR ρ es es') (i : Nat) : EntsR ρ (es.eraseIdx i) (es'.eraseIdxIfInBounds i) := by
  have hl : (es'.eraseIdxIfInBounds i).toList = es'.toList.eraseIdx i := by
    unfold Array.eraseIdxIfInBounds
    split
    · simp
    · rename_i hi; rw [List.eraseIdx_of_length_le (by simpa using hi)]
  have key : ∀ j : Nat, (es'.eraseIdxIfInBounds i)[j]? = (es'.toList.eraseIdx i)[j]? := fun j => by rw [← hl, Array.getElem?_toList]
  have hsz : (es'.eraseIdxIfInBounds i).size = (es'.toList.eraseIdx i).length := by rw [← hl, Array.length_toList]
  refine ⟨?_, fun j e hj => ?_⟩
  · have h2 : es'.toList.length = es.length := by rw [h.1]; simp
    rw [hsz, List.length_eraseIdx, List.length_eraseIdx, h2]
  · rw [key]
    rw [List.getElem?_eraseIdx] at hj ⊢
    split at hj
    · rename_i hji
      obtain ⟨x', h1, h2⟩ := h.2 j e hj
      exact ⟨x', by rw [if_pos hji]; simpa using h1, h2⟩
    · rename_i hji
      obtain ⟨x', h1, h2⟩ := h.2 (j + 1) e hj
      exact ⟨x', by rw [if_neg hji]; simpa using h1, h2⟩

theorem EntsR.findBorn {es : List MapEntry} {es' : Array MapEntry} (h : EntsR ρ es es') (b : Int) : es'.findIdx? (fun e => (e.born : Int) == b) = es.findIdx? (fun e => (e.born : Int) == b) := by
  obtain ⟨l', rfl⟩ : ∃ l' : List MapEntry, es' = l'.toArray := ⟨es'.toList, by simp⟩
  rw [List.findIdx?_toArray]
  have hl : es.length = l'.length := by simpa using h.1
  have hg : ∀ (i : Nat) (e : MapEntry), es[i]? = some e → ∃ e', l'[i]? = some e' ∧ e.born = e'.born := fun i e he => by
    obtain ⟨e', h1, h2⟩ := h.2 i e he
    exact ⟨e', by simpa using h1, h2.2.2⟩
  clear h
  induction es generalizing l' with
  | nil => cases l' with
    | nil => rfl
    | cons _ _ => simp at hl
  | cons e es ih =>
    cases l' with
    | nil => simp at hl
    | cons e' l' =>
      obtain ⟨x, h1, h2⟩ := hg 0 e (by simp)
      simp at h1; subst h1
      simp only [List.findIdx?_cons, ← h2]
      rw [ih l' (by simpa using hl) fun i e he => by simpa using hg (i + 1) e (by simpa using he)]

/-- a map object is changed -/
theorem Ext.setMap {h : Heap} (hr : Rel C ρ h.get w) {r : Nat} {s : Slot} {es es2 : List MapEntry} {c c2 : Nat} {es' es2' : Array MapEntry} (hg : h.get r = some (.map es c)) (hs : ρ r = some s) (hw : w.heap[s.b]? = some (.map es' c)) (he : EntsR ρ es2 es2') :
    Ext C ρ h.get n w ρ (h.set r (some (.map es2 c2))).get n { w with heap := w.heap.setIfInBounds s.b (.map es2' c2) } := by
  have hb : s.b < w.heap.size := by rw [Array.getElem?_eq_some_iff] at hw; exact hw.1
  refine Ext.set hr hg hs rfl rfl (fun j => Heap.get_set _ _ _ _) (by simp) (fun b hne => by simp [Array.getElem?_setIfInBounds_ne (Ne.symm hne)]) rfl rfl rfl ?_
  exact ⟨es2', by simp [Array.getElem?_setIfInBounds, hb], he.1, he.2⟩
end Go.Proofs.Ytbhgncfbljkdgaa.AI
