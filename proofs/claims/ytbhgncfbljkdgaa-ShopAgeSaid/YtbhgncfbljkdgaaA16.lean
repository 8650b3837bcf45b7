/-
  A region in the order of the text, on the machine.
-/
import Derived.Test.YtbhgncfbljkdgaaA15
namespace Go.Proofs.Ytbhgncfbljkdgaa.AI
open Go

variable {P : Program} {r : Rec} {b : Frame} {k : List Item} {cs : List Frame}

theorem optNatBeq_eq {x y : Option Nat} (h : optNatBeq x y = true) : x = y := by
  cases x <;> cases y <;> simp [optNatBeq] at h
  · rfl
  · rw [h]

theorem put_size (a : Act) (dst : Option Nat) (v : Value) : (a.put dst v).tmps.size = a.tmps.size := by cases dst <;> simp [Act.put]
theorem put_defers (a : Act) (dst : Option Nat) (v : Value) : (a.put dst v).defers = a.defers := by cases dst <;> rfl

theorem put_get (a : Act) (d : Nat) (v : Value) (t : Nat) (hd : d < a.tmps.size) : (a.put (some d) v).tmps[t]? = if t = d then some v else a.tmps[t]? := by
  simp only [Act.put, Array.getElem?_setIfInBounds]
  by_cases h : d = t
  · subst h; simp [hd]
  · have : ¬ t = d := fun e => h e.symm
    simp [h, this]

theorem EnvR.put {ρ : Ren} {env : Env} {a : Act} (he : EnvR ρ env a.tmps) {dst : Option Nat} {v v' : Value} (hv : VR ρ v v') (hd : ∀ d, dst = some d → d < a.tmps.size) : EnvR ρ (putDst env dst v) (a.put dst v').tmps := by
  cases dst with
  | none => exact he
  | some d =>
    intro t x hx
    rw [put_get a d v' t (hd d rfl)]
    simp only [putDst, Env.get] at hx
    split at hx
    · rename_i h
      have := eq_of_beq_nat h; subst this
      cases hx
      exact ⟨v', by simp, hv⟩
    · rename_i h
      have : ¬ t = d := fun e => by subst e; simp at h
      rw [if_neg this]
      exact he t x hx

theorem undef_VR (ρ : Ren) : VR ρ undefV undef := VR.of_plain rfl

/-- the guard of an operation, on both sides -/
theorem guard_sound {ops : Array Oper} {o : Oper} {g : Option (Nat × Bool)} (hc : chkGuard ops.toList o.guard g = true) {ρ : Ren} {env : Env} {a : Act} (he : ∀ t x, g = some (t, x) → ∀ v, env.get t = some v → ∃ v', a.tmps[t]? = some v' ∧ VR ρ v v') {q : Bool}
    (hg : guardV env g = some q) : Region.wanted o (yielded ops a.tmps) = q := by
  cases ho : o.guard with
  | none =>
    rw [ho] at hc
    cases g with
    | none => cases hg; simp [Region.wanted, ho]
    | some _ => simp [chkGuard] at hc
  | some jx =>
    obtain ⟨j, x⟩ := jx
    rw [ho] at hc
    cases g with
    | none => simp [chkGuard] at hc
    | some ty =>
      obtain ⟨t, y⟩ := ty
      simp only [chkGuard, Bool.and_eq_true] at hc
      obtain ⟨h1, h2⟩ := hc
      have h1 : x = y := by simpa using h1
      subst h1
      simp only [guardV] at hg
      split at hg
      · rename_i z hz
        cases hg
        obtain ⟨v', hv1, hv2⟩ := he t x rfl _ hz
        have := hv2.bool_inv; subst this
        split at h2
        · rename_i o' ho'
          have hd := optNatBeq_eq h2
          have ho2 : ops[j]? = some o' := by simpa using ho'
          simp only [Region.wanted, ho, yielded, ho2, Option.bind_some, hd, hv1]
          cases z <;> cases x <;> rfl
        · cases h2
      · rename_i z hz
        split at hg
        case isFalse => cases hg
        rename_i hsz
        cases hg
        obtain ⟨v', hv1, hv2⟩ := he t x rfl _ hz
        obtain ⟨cs', rfl, _⟩ := hv2.tuple_inv
        split at h2
        · rename_i o' ho'
          have hd := optNatBeq_eq h2
          have ho2 : ops[j]? = some o' := by simpa using ho'
          simp only [Region.wanted, ho, yielded, ho2, Option.bind_some, hd, hv1]
          cases x <;> rfl
        · cases h2
      · cases hg

theorem getD_some {α : Type} {x : Option α} {y : α} (h : x = some y) (d : α) : x.getD d = y := by subst h; rfl

/-- an operation that is not wanted -/
theorem oper_skip {a : Act} {w : World} {ops : Array Oper} {i : Nat} {rest : List Nat} {o : Oper} (ho : ops[i]? = some o) (hw : Region.wanted o (yielded ops a.tmps) = false) :
    Steps P (lone (b.atR a (.inRegion ops (i :: rest) :: k)) cs w) (lone (b.atR (a.put o.dst undef) (.inRegion ops rest :: k)) cs w) := by
  have hs := stepR_op_skip (P := P) (b := b) (a := a) (k := k) (cs := cs) (w := w) (ops := ops) (i := i) (rest := rest) (by simp [ho, hw])
  simp only [ho, Option.bind_some] at hs
  exact .one hs

/-- what a list of operations that are all 'seq' does -/
theorem ops_seq {N : Nat} (hgr : GoodRec r) (hcall : SimCall P r) (hround : SimRound P r) (ops : Array Oper) : ∀ (os : List Oper) (as : List AOper) (i : Nat) (fs : List Foot) (s s' : St), (∀ j, os[j]? = ops[i + j]?) → chkOpers P N ops.toList os as = true → (as.all fun a => isSeq a.cls) = true →
    execOps r as fs s = some s' → ∀ {ρ : Ren} {a : Act} {w : World}, N ≤ a.tmps.size → EnvR ρ s.env a.tmps → R P ρ s.h.get w → Dom s.h s.n → Fresh ρ s.n s'.n →
    ∃ a' w' ρ', Steps P (lone (b.atR a (.inRegion ops (List.range' i os.length) :: k)) cs w) (lone (b.atR a' k) cs w') ∧ EnvR ρ' s'.env a'.tmps ∧ a'.tmps.size = a.tmps.size ∧ a'.defers = a.defers ∧ s'.marks = s.marks ∧ X P ρ s.h.get s.n w ρ' s'.h.get s'.n w'
  | [], [], i, fs, s, s', _, _, _, hx, ρ, a, w, hN, he, hr, hdm, hf => by
    simp only [execOps] at hx
    cases hx
    exact ⟨a, w, ρ, .one stepR_region_end, he, rfl, rfl, rfl, Ext.refl hr⟩
  | [], _ :: _, _, _, _, _, _, hc, _, _, _, _, _, _, _, _, _, _ => by simp [chkOpers] at hc
  | _ :: _, [], _, _, _, _, _, hc, _, _, _, _, _, _, _, _, _, _ => by simp [chkOpers] at hc
  | o :: os, ao :: as, i, fs, s, s', hi, hc, hsq, hx, ρ, a, w, hN, he, hr, hdm, hf => by
    simp only [chkOpers, chkOper, Bool.and_eq_true] at hc
    obtain ⟨⟨⟨⟨c1, c2⟩, c3⟩, c4⟩, c5⟩ := hc
    have hd := optNatBeq_eq c1
    simp only [List.all_cons, Bool.and_eq_true] at hsq
    have ho : ops[i]? = some o := by have := hi 0; simpa using this.symm
    have hi' : ∀ j, os[j]? = ops[(i + 1) + j]? := fun j => by
      have := hi (j + 1)
      rw [show i + (j + 1) = i + 1 + j by omega] at this
      simpa using this
    have hdN : ∀ d : Nat, o.dst = some d → d < a.tmps.size := fun d e => by
      rw [← hd, e] at c2
      simp [dstOK, Nat.blt, Nat.ble_eq] at c2
      omega
    simp only [List.length_cons, List.range'_succ]
    simp only [execOps] at hx
    split at hx
    · cases hx
    · rename_i hg
      have hw := guard_sound c3 (fun t x _ v hv => he t v hv) hg
      have h1 := oper_skip (P := P) (b := b) (k := k) (cs := cs) (w := w) (rest := List.range' (i + 1) os.length) ho hw
      obtain ⟨a', w', ρ', q1, q2, q3, q4, q5, q6⟩ := ops_seq hgr hcall hround ops os as (i + 1) (Foot.nil :: fs) ⟨putDst s.env ao.dst undefV, s.h, s.n, s.marks⟩ s' hi' c5 hsq.2 hx (ρ := ρ) (a := a.put o.dst undef) (w := w) (by rw [put_size]; exact hN)
        (by rw [← hd]; exact EnvR.put he (undef_VR ρ) hdN) hr hdm hf
      exact ⟨a', w', ρ', h1.trans q1, q2, by rw [q3, put_size], by rw [q4, put_defers], q5, q6⟩
    · rename_i hg
      have hw := guard_sound c3 (fun t x _ v hv => he t v hv) hg
      have hcls := hsq.1
      split at hx
      · split at hx
        · rename_i v h n h1
          have g1 := opx_good hgr h1
          have g2 := execOps_good hgr hx
          have hn1 := g1.nle
          have hn2 := g2.nle
          simp only at hn2
          obtain ⟨v', w1, ρ1, p1, p2, p3⟩ := oper_run (P := P) (b := b) (k := k) (cs := cs) (rest := List.range' (i + 1) os.length) hcall hround ho hw c4 he hr hdm (hf.mono (Nat.le_refl _) hn2) h1
          have hle := p3.le (hf.mono (Nat.le_refl _) hn2)
          obtain ⟨a', w', ρ', q1, q2, q3, q4, q5, q6⟩ := ops_seq hgr hcall hround ops os as (i + 1) (⟨false, true, [], [], s.n, n, none⟩ :: fs) ⟨putDst s.env ao.dst v, h, n, s.marks⟩ s' hi' c5 hsq.2 hx (ρ := ρ1) (a := a.put o.dst v') (w := w1) (by rw [put_size]; exact hN)
            (by rw [← hd]; exact EnvR.put (he.mono hle) p2 hdN) p3.rel (hdm.good g1) (Fresh.later p3 hf)
          exact ⟨a', w', ρ', p1.trans q1, q2, by rw [q3, put_size], by rw [q4, put_defers], q5, p3.trans q6⟩
        · cases hx
      all_goals (rename_i hh; rw [hh] at hcls; cases hcls)
end Go.Proofs.Ytbhgncfbljkdgaa.AI
