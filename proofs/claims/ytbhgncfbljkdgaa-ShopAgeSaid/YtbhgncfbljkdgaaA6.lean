/-
  Each operation that is no call does on a world what the abstract one does on the abstract heap: slices, conversions, what is made.
-/
import Derived.Test.YtbhgncfbljkdgaaA5
namespace Go.Proofs.Ytbhgncfbljkdgaa.AI
open Go

variable {P : Program} {C : Stands} {ρ : Ren} {g : Nat → Option AObj} {n : Nat} {w : World}

theorem un_sound {op : UnOp} {x x' v : Value} (h : aun op x = some v) (hx : VR ρ x x') : (Op.unary op x').run P w = .ok v w ∧ plainB v = true := by
  unfold aun at h
  split at h
  · have := hx.int_inv; subst this; cases h; exact ⟨rfl, rfl⟩
  · have := hx.bool_inv; subst this; cases h; exact ⟨rfl, rfl⟩
  · cases h

theorem convInt_sound {s d : TypeId} {k : IntKind} (hc : (match P.underlying s, P.underlying d with | some _, some (.int k') => decide (k = k') | _, _ => false) = true) (k1 : IntKind) (m : Int) :
    (convert s d (.int k1 m)).run P w = .ok (.int k (k.wrap m)) w := by
  split at hc
  · rename_i u k' h1 h2
    have hc := of_decide_eq_true hc; subst hc
    simp only [convert, Sem.run_bind, run_underlying h1, run_underlying h2, Result.andThen_ok]
    cases u <;> rfl
  · cases hc

theorem convId_sound {s d : TypeId} (hc : (match P.underlying s, P.underlying d with | some .string, some .string => true | _, _ => false) = true) (b : ByteArray) :
    (convert s d (.string b)).run P w = .ok (.string b) w := by
  split at hc
  · rename_i h1 h2
    simp only [convert, Sem.run_bind, run_underlying h1, run_underlying h2, Result.andThen_ok]
    rfl
  · cases hc

theorem lr_bytes (b : ByteArray) : LR ρ (b.data.toList.map fun x => Value.int .u8 x.toNat) (b.data.toList.map fun x => Value.int .u8 x.toNat) := by
  induction b.data.toList with
  | nil => exact .nil
  | cons x l ih => exact .cons (.int _ _) ih

theorem convBytes_sound {s d : TypeId} (hc : (match P.underlying s, P.underlying d with | some .string, some (.slice e) => (match P.underlying e with | some (.int .u8) => true | _ => false) | _, _ => false) = true) (b : ByteArray) (hb : b.size ≤ bigLen)
    (hr : Rel C ρ g w) (hf : ρ n = none) {g' : Nat → Option AObj} (hg : ∀ id, g' id = if id = n then some (.cells false (b.data.toList.map fun x => Value.int .u8 x.toNat)) else g id) :
    ∃ v' w' ρ', (convert s d (.string b)).run P w = .ok v' w' ∧ VR ρ' (.slice (some ⟨n, 0, none⟩) b.size (openCap 1 b.size)) v' ∧ Ext C ρ g n w ρ' g' (n + 1) w' := by
  split at hc
  · rename_i e h1 h2
    split at hc
    · rename_i h3
      obtain ⟨cap, hcap⟩ : ∃ cap : Nat, cap = b.size + w.tape w.drawn (.appendCap b.size 0 e) % (2 ^ 63 - b.size) := ⟨_, rfl⟩
      have hcap1 : b.size ≤ cap := by omega
      obtain ⟨c, hc⟩ : ∃ c : Array Value, c = (b.data.map fun x => Value.int .u8 x.toNat) ++ Array.replicate (cap - b.size) (.int .u8 0) := ⟨_, rfl⟩
      have hcs : c.size = cap := by rw [hc]; simp; show b.size + _ = _; omega
      obtain ⟨w', hw'⟩ : ∃ w' : World, w' = { w with heap := w.heap.push (.cells c e (cap, cap + 1)), drawn := w.drawn + 1 } := ⟨_, rfl⟩
      refine ⟨.slice (some ⟨w.heap.size, 0, none⟩) b.size cap, w', setRen ρ n ⟨w.heap.size, 0, c.size⟩, ?_, ?_, ?_⟩
      · simp only [convert, Sem.run_bind, run_underlying h1, run_underlying h2, Result.andThen_ok]
        have heq : Array.modify (w.heap.push (.cells c e)) w.heap.size (fun
            | .cells c elem (lo, hi) => .cells c elem (if lo == hi then (cap, cap + 1) else (min lo cap, max hi (cap + 1)))
            | o => o) = w.heap.push (.cells c e (cap, cap + 1)) := by
          apply Array.ext (by simp)
          intro i h1 h2
          simp only [Array.getElem_modify, Array.getElem_push]
          by_cases hi : i < w.heap.size
          · have : ¬ w.heap.size = i := by omega
            simp [this, hi]
          · have : w.heap.size = i := by simp at h2; omega
            simp [this]
        have : (Conv.stringToBytes e b).run P w = .ok (.slice (some ⟨w.heap.size, 0, none⟩) b.size cap) w' := by
          simp only [Conv.stringToBytes, Sem.run_bind, run_choose, Question.forced, Bool.false_eq_true, if_false, Result.andThen_ok, newRow, run_newObj, Sem.run_pure, Question.cut, markStringish, run_shape, World.shape?, ← hcap, ← hc]
          simp only [Array.getElem?_push_size, Sem.run_bind, run_freeze, World.freeze, hcs, Nat.add_one_ne_zero, if_false, Result.andThen_ok, Sem.run_pure, Nat.succ_ne_zero, Nat.one_ne_zero]
          rw [hw', ← heq]
          rfl
        cases hu : P.underlying e with
        | none => rw [hu] at h3; cases h3
        | some u =>
          rw [hu] at h3; cases h3
          simp only [Sem.run_bind, run_underlying hu, Result.andThen_ok]
          exact this
      · refine .slice (setRen_eq _ _ _) ?_
        unfold CapR
        rw [if_pos (isOpen_openCap _ _), openLb_openCap (by omega), openE_openCap (by omega)]
        refine ⟨Nat.le_refl _, hcap1, ?_⟩
        show 0 + cap * 1 ≤ c.size
        omega
      · subst hw'
        refine Ext.new (x := .cells c e (cap, cap + 1)) hr hf hg rfl rfl rfl rfl rfl ?_
        have hlen : (b.data.toList.map fun x => Value.int .u8 x.toNat).length = b.size := by simp
        refine ObjR.cells_more (c := c) (el := e) (l' := b.data.toList.map fun x => Value.int .u8 x.toNat) (fr := (cap, cap + 1)) (lr_bytes b) ?_ ?_ ?_ ?_ false
        · rw [hc, Array.toList_append, Array.toList_map, List.take_left]
        · rw [hlen, hcs]; exact hcap1
        · simp
        · intro i hi; simp only [hcs] at hi; simp only []; omega
    · cases hc
  · cases hc

theorem boundLow_sound {lo : Option Operand} {lo' : Option AOpd} {env : Env} {a : Act} (he : EnvR ρ env a.tmps) (hc : chkOpt lo lo' = true) {y d i : Nat} (h : boundLow (evO env lo') y d = some i) :
    (lo = none ∧ lo' = none ∧ i = d) ∨ (∃ x k, lo = some x ∧ lo'.isSome = true ∧ a.eval x = .int k (i : Int) ∧ i ≤ y) := by
  cases lo with
  | none =>
    cases lo' with
    | none => simp [evO, boundLow] at h; exact .inl ⟨rfl, rfl, h.symm⟩
    | some z => simp [chkOpt] at hc
  | some x =>
    cases lo' with
    | none => simp [chkOpt] at hc
    | some z =>
      simp only [chkOpt] at hc
      simp only [evO, Option.map_some] at h
      cases hz : ev env z with
      | none => rw [hz] at h; simp [boundLow] at h
      | some v =>
        rw [hz] at h
        simp only [boundLow] at h
        split at h
        · rename_i j hj
          split at h
          · rename_i hle
            cases h
            rw [Nat.ble_eq] at hle
            obtain ⟨k, hk⟩ := asIx_VR hj (chkOpd_sound he hc hz)
            exact .inr ⟨x, k, rfl, rfl, hk, hle⟩
          · cases h
        · cases h

theorem run_sliceBound (k : IntKind) (i y : Nat) (code : BoundsCode) (h : i ≤ y) (w : World) : (Instr.sliceBound (.int k (i : Int)) y code).run P w = .ok i w := by
  simp [Instr.sliceBound, asIntOf, h]

/-- the bounds of a slice expression -/
theorem sliceBounds_sound {lo hi mx : Option Operand} {lo' hi' mx' : Option AOpd} {env : Env} {a : Act} (he : EnvR ρ env a.tmps) (cl : chkOpt lo lo' = true) (ch : chkOpt hi hi' = true) (cm : chkOpt mx mx' = true)
    (isSlice : Bool) {len cap known m h l : Nat} (hk : known ≤ cap) (hm : (mx' = none ∧ m = cap) ∨ (mx'.isSome = true ∧ hi'.isSome = true ∧ boundLow (evO env mx') known 0 = some m))
    (hh : boundLow (evO env hi') (if mx'.isSome then m else known) len = some h) (hl : boundLow (evO env lo') h 0 = some l) :
    (Instr.sliceBounds isSlice len cap (lo.map a.eval) (hi.map a.eval) (mx.map a.eval)).run P w = .ok (l, h, m) w := by
  have hL := boundLow_sound he cl hl
  have hH := boundLow_sound he ch hh
  rcases hm with ⟨e, rfl⟩ | ⟨e, e2, hm⟩
  · subst e
    cases mx with
    | some z => simp [chkOpt] at cm
    | none =>
      rcases hH with ⟨rfl, rfl, rfl⟩ | ⟨x, k, rfl, _, hx, hxle⟩
      · rcases hL with ⟨rfl, rfl, rfl⟩ | ⟨y, k', rfl, _, hy, hyle⟩
        · simp [Instr.sliceBounds]
        · simp [Instr.sliceBounds, hy, run_sliceBound, hyle]
      · have hxle : h ≤ m := Nat.le_trans hxle (by simpa using hk)
        rcases hL with ⟨rfl, rfl, rfl⟩ | ⟨y, k', rfl, _, hy, hyle⟩
        · simp [Instr.sliceBounds, hx, run_sliceBound, hxle]
        · simp [Instr.sliceBounds, hx, hy, run_sliceBound, hxle, hyle]
  · have hM := boundLow_sound he cm hm
    rcases hM with ⟨_, e', _⟩ | ⟨z, kz, rfl, _, hz, hzle⟩
    · rw [e'] at e; cases e
    · have hzle : m ≤ cap := Nat.le_trans hzle hk
      rcases hH with ⟨rfl, e3, rfl⟩ | ⟨x, k, rfl, _, hx, hxle⟩
      · rw [e3] at e2; cases e2
      · have hxle : h ≤ m := by simpa [e] using hxle
        rcases hL with ⟨rfl, rfl, rfl⟩ | ⟨y, k', rfl, _, hy, hyle⟩
        · simp [Instr.sliceBounds, hx, hz, run_sliceBound, hxle, hzle]
        · simp [Instr.sliceBounds, hx, hy, hz, run_sliceBound, hxle, hyle, hzle]
end Go.Proofs.Ytbhgncfbljkdgaa.AI
