/-
  Each operation that is no call does on a world what the abstract one does on the abstract heap: slices of slices, appends, copies.
-/
import Derived.Test.YtbhgncfbljkdgaaA6
namespace Go.Proofs.Ytbhgncfbljkdgaa.AI
open Go

variable {P : Program} {C : Stands} {ρ : Ren} {g : Nat → Option AObj} {n : Nat} {w : World}

theorem Rel.none_of (h : Rel C ρ g w) {id : Nat} (hf : ρ id = none) : g id = none := by
  cases e : g id with
  | none => rfl
  | some o => obtain ⟨s, e', _⟩ := h.obj id o e; rw [hf] at e'; cases e'

/-- an id is used up -/
theorem Ext.dead (h : Rel C ρ g w) (hf : ρ n = none) (s : Slot) : Ext C ρ g n w (setRen ρ n s) g (n + 1) w where
  rel := {
    obj := fun id o e => by
      have hid : id ≠ n := fun he => by subst he; rw [h.none_of hf] at e; cases e
      obtain ⟨s', a, b⟩ := h.obj id o e
      exact ⟨s', by simp [setRen, hid, a], b.keep (setRen_le hf s) rfl⟩
    sep := fun i j oi oj si sj gi gj hij hi hj hrw => by
      have h1 : i ≠ n := fun he => by subst he; rw [h.none_of hf] at gi; cases gi
      have h2 : j ≠ n := fun he => by subst he; rw [h.none_of hf] at gj; cases gj
      simp [setRen, h1] at hi; simp [setRen, h2] at hj
      exact h.sep i j oi oj si sj gi gj hij hi hj hrw }
  ren := fun id hid => by
    have : ¬ id = n := by omega
    simp [setRen, this]
  nle := by omega
  size := Nat.le_refl _
  frame := fun _ _ _ => rfl
  own := fun b ⟨id, o, s', e, hrw, hr, hb⟩ => by
    have hid : id ≠ n := fun he => by subst he; rw [h.none_of hf] at e; cases e
    simp [setRen, hid] at hr
    exact .inl ⟨id, o, s', e, hrw, hr, hb⟩
  dom := fun _ o e => .inl ⟨o, e⟩
  os := rfl
  output := rfl
  tape := rfl

theorem VR.slice_inv {a : Addr} {len cap : Nat} {v : Value} (h : VR ρ (.slice (some a) len cap) v) : ∃ id off s cap', a = ⟨id, off, none⟩ ∧ ρ id = some s ∧ CapR s off len cap cap' ∧ v = .slice (some ⟨s.b, s.o + off, none⟩) len cap' := by
  cases h with
  | slice e hc => exact ⟨_, _, _, _, rfl, e, hc, rfl⟩

theorem VR.sliceN_inv {len cap : Nat} {v : Value} (h : VR ρ (.slice none len cap) v) : len = 0 ∧ cap = 0 ∧ v = .slice none 0 0 := by
  cases h with
  | sliceN => exact ⟨rfl, rfl, rfl⟩

theorem notOpen_le {a b : Nat} (h : isOpen b = false) (hle : a ≤ b) : isOpen a = false := by
  unfold isOpen at *
  rw [Bool.eq_false_iff, Ne, Nat.ble_eq] at *
  omega

theorem boundLow_some {x : Option (Option Value)} {y d d' : Nat} (h : x.isSome = true) : boundLow x y d = boundLow x y d' := by
  cases x with
  | none => cases h
  | some v => cases v <;> rfl

/-- the result of a slice expression over a slice, on both sides -/
theorem sliceSl_sound {lo hi mx : Option Operand} {lo' hi' mx' : Option AOpd} {env : Env} {a : Act} (he : EnvR ρ env a.tmps) (cl : chkOpt lo lo' = true) (ch : chkOpt hi hi' = true) (cm : chkOpt mx mx' = true)
    (hr : Rel C ρ g w) {e len cap n' : Nat} {base : Option Addr} {v : Value} {base' : Option Addr} {len' cap' : Nat} (hs : VR ρ (.slice base len cap) (.slice base' len' cap'))
    (h : sliceSl n e base len cap (evO env lo') (evO env hi') (evO env mx') = some (v, n')) (hf : Fresh ρ n n') (isSlice : Bool) :
    ∃ l h m ρ', (Instr.sliceBounds isSlice len' cap' (lo.map a.eval) (hi.map a.eval) (mx.map a.eval)).run P w = .ok (l, h, m) w ∧
      VR ρ' v (.slice (if m = l then base' else base'.map (·.add (l * e))) (h - l) (m - l)) ∧ Ext C ρ g n w ρ' g n' w := by
  have hlen : len' = len := by cases hs <;> rfl
  subst hlen
  -- what is known of the capacity
  have hknown : (if isOpen cap then openLb cap else cap) ≤ cap' := by
    cases hs with
    | sliceN => simp [isOpen]
    | slice e' hc =>
      unfold CapR at hc
      split
      · rename_i ho; rw [if_pos ho] at hc; exact hc.2.1
      · rename_i ho; rw [if_neg ho] at hc; omega
  -- the same steps from the same base
  have shape : ∀ (l h m : Nat) (c c' : Nat), (∀ id off s, base = some ⟨id, off, none⟩ → ρ id = some s → CapR s (if m = l then off else off + l * e) (h - l) c c') → (base = none → c = 0 ∧ c' = 0 ∧ h - l = 0) →
      VR ρ (.slice (if m = l then base else base.map (·.add (l * e))) (h - l) c) (.slice (if m = l then base' else base'.map (·.add (l * e))) (h - l) c') := by
    intro l h m c c' hcap hnil
    cases base with
    | none =>
      obtain ⟨_, _, e'⟩ := hs.sliceN_inv
      cases e'
      obtain ⟨rfl, rfl, h0⟩ := hnil rfl
      simp only [Option.map_none, ite_self, h0]
      exact .sliceN
    | some ad =>
      obtain ⟨id, off, s, c0, rfl, hid, hc, e'⟩ := hs.slice_inv
      cases e'
      have := hcap id off s rfl hid
      by_cases hml : m = l
      · rw [if_pos hml] at this
        simp only [hml, if_true]
        exact .slice hid this
      · rw [if_neg hml] at this
        simp only [hml, if_false, Option.map_some, add_addr, Nat.add_assoc]
        exact .slice hid this
  unfold sliceSl at h
  simp only [] at h
  split at h
  · rename_i mxv hmx
    split at h
    · rename_i m hiv hbm hhiv
      split at h
      · rename_i hb hbh
        split at h
        · rename_i l hbl
          split at h
          · cases h
          · rename_i hno
            cases h
            have hno : isOpen (m - l) = false := by simpa using hno
            have hmx1 : mx'.isSome = true := by cases mx' <;> simp_all [evO]
            have hhi1 : hi'.isSome = true := by cases hi' <;> simp_all [evO]
            have hml : m ≤ cap' := by
              rcases boundLow_sound he cm hbm with ⟨_, h2, _⟩ | ⟨_, _, _, _, _, h3⟩
              · rw [h2] at hmx1; cases hmx1
              · omega
            have hbm' : hb ≤ m := by
              rcases boundLow_sound he ch hbh with ⟨_, h2, _⟩ | ⟨_, _, _, _, _, h3⟩
              · rw [h2] at hhi1; cases hhi1
              · omega
            refine ⟨l, hb, m, ρ, sliceBounds_sound he cl ch cm isSlice (known := (if isOpen cap then openLb cap else cap)) (m := m) hknown (.inr ⟨hmx1, hhi1, hbm⟩) (by
              rw [if_pos hmx1, boundLow_some (d' := 0) (by cases hi' <;> simp_all [evO])]; exact hbh) hbl, ?_, Ext.refl hr⟩
            refine shape l hb m (m - l) (m - l) (fun id off s _ _ => ?_) (fun hn => ?_)
            · unfold CapR; rw [if_neg (by simp [hno])]
            · subst hn
              obtain ⟨rfl, rfl, e'⟩ := hs.sliceN_inv
              cases e'
              exact ⟨by omega, by omega, by omega⟩
        · cases h
      · cases h
    · cases h
  · rename_i hmx
    have hmx0 : mx' = none := by cases mx' <;> simp_all [evO]
    subst hmx0
    split at h
    · rename_i hb hbh
      split at h
      · rename_i l hbl
        have hlh : l ≤ hb := by
          rcases boundLow_sound he cl hbl with ⟨_, _, h0⟩ | ⟨_, _, _, _, _, h3⟩ <;> omega
        have hrun := sliceBounds_sound (P := P) (w := w) he cl ch cm isSlice (known := (if isOpen cap then openLb cap else cap)) (m := cap') hknown (.inl ⟨rfl, rfl⟩) (by simpa using hbh) hbl
        by_cases ho : isOpen cap = true
        · simp only [ho, if_true] at h hbh hknown hrun
          split at h
          · cases h
          · rename_i hE
            have hE : openE cap = e := by simpa using hE
            -- the base is there
            cases base with
            | none => obtain ⟨_, rfl, _⟩ := hs.sliceN_inv; simp [isOpen] at ho
            | some ad =>
              obtain ⟨id, off, s, c0, rfl, hid, hc, e'⟩ := hs.slice_inv
              cases e'
              unfold CapR at hc
              rw [if_pos ho, hE] at hc
              obtain ⟨c1, c2, c3⟩ := hc
              have he62 : e < 4611686018427387904 := by rw [← hE]; unfold openE; omega
              have hhk : hb ≤ openLb cap := by
                rcases boundLow_sound he ch hbh with ⟨_, _, h0⟩ | ⟨_, _, _, _, _, h3⟩ <;> omega
              split at h
              · rename_i hl0
                have hl0 := eq_of_beq_nat hl0; subst hl0
                cases h
                refine ⟨0, hb, cap', ρ, hrun, ?_, Ext.refl hr⟩
                have := shape 0 hb cap' cap cap' (fun id2 off2 s2 h1 h2 => by
                  cases h1
                  rw [hid] at h2; cases h2
                  unfold CapR
                  rw [if_pos ho, hE]
                  refine ⟨by omega, c2, ?_⟩
                  split <;> omega) (fun h => by cases h)
                simpa [Addr.add] using this
              · rename_i hl0
                have hl0 : l ≠ 0 := fun e => by subst e; exact hl0 rfl
                split at h
                · rename_i hlk
                  have hlk : l < openLb cap := by simp [Nat.blt, Nat.ble_eq] at hlk; omega
                  cases h
                  refine ⟨l, hb, cap', ρ, hrun, ?_, Ext.refl hr⟩
                  have hne : ¬ cap' = l := by omega
                  have := shape l hb cap' (openCap e (openLb cap - l)) (cap' - l) (fun id2 off2 s2 h1 h2 => by
                    cases h1
                    rw [hid] at h2; cases h2
                    rw [if_neg hne]
                    unfold CapR
                    rw [if_pos (isOpen_openCap _ _), openLb_openCap he62, openE_openCap he62]
                    refine ⟨by omega, by omega, ?_⟩
                    have : l * e + (cap' - l) * e = cap' * e := by rw [← Nat.add_mul, Nat.add_sub_cancel' (by omega)]
                    omega) (fun h => by cases h)
                  simpa [hne] using this
                · rename_i hlk
                  have hlk : openLb cap ≤ l := by simp [Nat.blt, Nat.ble_eq] at hlk; omega
                  cases h
                  have hb0 : hb - l = 0 := by
                    rcases boundLow_sound he ch hbh with ⟨_, _, h0⟩ | ⟨_, _, _, _, _, h3⟩ <;> omega
                  have hfn : ρ n = none := hf.1 n (Nat.le_refl _) (by omega)
                  by_cases hcl : cap' = l
                  · refine ⟨l, hb, cap', setRen ρ n ⟨s.b, s.o + off, 0⟩, hrun, ?_, Ext.dead hr hfn _⟩
                    rw [if_pos hcl, hb0]
                    have := VR.slice (ρ := setRen ρ n ⟨s.b, s.o + off, 0⟩) (id := n) (off := 0) (len := 0) (cap := openCap e 0) (cap' := cap' - l) (setRen_eq _ _ _) (by
                      unfold CapR
                      rw [if_pos (isOpen_openCap _ _), openLb_openCap he62, openE_openCap he62]
                      have : cap' - l = 0 := by omega
                      rw [this]; exact ⟨by omega, by omega, by omega⟩)
                    simpa using this
                  · refine ⟨l, hb, cap', setRen ρ n ⟨s.b, s.o + off + l * e, (cap' - l) * e⟩, hrun, ?_, Ext.dead hr hfn _⟩
                    rw [if_neg hcl, hb0]
                    have := VR.slice (ρ := setRen ρ n ⟨s.b, s.o + off + l * e, (cap' - l) * e⟩) (id := n) (off := 0) (len := 0) (cap := openCap e 0) (cap' := cap' - l) (setRen_eq _ _ _) (by
                      unfold CapR
                      rw [if_pos (isOpen_openCap _ _), openLb_openCap he62, openE_openCap he62]
                      exact ⟨by omega, by omega, by simp⟩)
                    simpa [add_addr] using this
        · simp only [ho, Bool.false_eq_true, if_false] at h hbh hknown hrun
          cases h
          have hcc : base ≠ none → cap' = cap := fun hb => by
            cases base with
            | none => exact absurd rfl hb
            | some ad =>
              obtain ⟨id, off, s, c0, rfl, hid, hc, e'⟩ := hs.slice_inv
              cases e'
              unfold CapR at hc
              rw [if_neg ho] at hc
              exact hc
          refine ⟨l, hb, cap', ρ, hrun, ?_, Ext.refl hr⟩
          have hcc' : cap' = cap := by
            cases base with
            | none => obtain ⟨rfl, rfl, e'⟩ := hs.sliceN_inv; cases e'; rfl
            | some ad => exact hcc (by simp)
          subst hcc'
          refine shape l hb cap' (cap' - l) (cap' - l) (fun id off s _ _ => ?_) (fun hn => ?_)
          · unfold CapR; rw [if_neg (by rw [notOpen_le (b := cap') (by simpa using ho) (by omega)]; simp)]
          · subst hn
            obtain ⟨rfl, rfl, e'⟩ := hs.sliceN_inv
            cases e'
            have : hb = 0 := by
              rcases boundLow_sound he ch hbh with ⟨_, _, h0⟩ | ⟨_, _, _, _, _, h3⟩ <;> omega
            exact ⟨by omega, by omega, by omega⟩
      · cases h
    · cases h
end Go.Proofs.Ytbhgncfbljkdgaa.AI
