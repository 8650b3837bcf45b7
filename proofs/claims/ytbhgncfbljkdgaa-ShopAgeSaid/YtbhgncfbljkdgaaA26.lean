/-
  Told functions (oracles); the interpreter with them; its limit over all fuel. What holds of the limit holds of the machine.
-/
import Derived.Test.YtbhgncfbljkdgaaA25
namespace Go.Proofs.Ytbhgncfbljkdgaa.AI
open Go

/-- what holds from some number on -/
def Ev (p : Nat → Prop) : Prop := ∃ k, ∀ j, k ≤ j → p j

theorem Ev.of (p : Nat → Prop) (h : ∀ k, p k) : Ev p := ⟨0, fun j _ => h j⟩
theorem Ev.mono {p q : Nat → Prop} (h : Ev p) (hi : ∀ k, p k → q k) : Ev q := let ⟨k, hk⟩ := h; ⟨k, fun j hj => hi j (hk j hj)⟩
theorem Ev.and {p q : Nat → Prop} (h : Ev p) (h' : Ev q) : Ev fun k => p k ∧ q k :=
  let ⟨k, hk⟩ := h; let ⟨l, hl⟩ := h'
  ⟨max k l, fun j hj => ⟨hk j (by omega), hl j (by omega)⟩⟩
theorem Ev.exists {p : Nat → Prop} (h : Ev p) : ∃ k, p k := let ⟨k, hk⟩ := h; ⟨k, hk k (Nat.le_refl _)⟩
theorem Ev.succ {p : Nat → Prop} (h : Ev fun k => p (k + 1)) : Ev p := by
  obtain ⟨k, hk⟩ := h
  refine ⟨k + 1, fun j hj => ?_⟩
  obtain ⟨i, rfl⟩ : ∃ i, j = i + 1 := ⟨j - 1, by omega⟩
  exact hk i (by omega)

/-- what r says is said in the end by the F k -/
structure LimLe (F : Nat → Rec) (r : Rec) : Prop where
  call : ∀ {f a h n x}, r.call f a h n = some x → Ev fun k => (F k).call f a h n = some x
  code : ∀ {rd c s x}, r.code rd c s = some x → Ev fun k => (F k).code rd c s = some x

section lim
variable {F : Nat → Rec} {r : Rec} (hl : LimLe F r)
include hl

theorem round_ev {l : Nat} {args : List Value} {h : Heap} {n : Nat} {x : Value × Heap × Nat} (e : round r l args h n = some x) : Ev fun k => round (F k) l args h n = some x := by
  unfold round at e
  split at e
  · rename_i env params assign body hg
    split at e
    · cases e
    · rename_i env' hb
      split at e
      · rename_i s1 h1
        split at e
        · rename_i p q ps as bd hg1
          split at e
          · rename_i y s2 h2
            split at e
            · rename_i st pp q2 ps2 as2 bd2 hg2
              exact ((hl.code h1).and (hl.code h2)).mono fun k ⟨a, b⟩ => by
                unfold round
                simp only [hg, hb, a, hg1, b, hg2]
                exact e
            · cases e
          · cases e
        · cases e
      · cases e
  · cases e

theorem callV_ev {f : Value} {args : List Value} {h : Heap} {n : Nat} {x : Value × Heap × Nat} (e : callV r f args h n = some x) : Ev fun k => callV (F k) f args h n = some x := by
  unfold callV at e
  split at e
  · exact (hl.call e).mono fun k a => by unfold callV; exact a
  · exact (round_ev hl e).mono fun k a => by unfold callV; exact a
  · cases e

theorem callG_ev {f : Value} {args : List Value} {h : Heap} {n : Nat} {x : Value × Heap × Nat} (e : callG r f args h n = some x) : Ev fun k => callG (F k) f args h n = some x := by
  unfold callG at e
  split at e
  · exact (hl.call e).mono fun k a => by unfold callG; exact a
  · cases e

theorem opx_ev {env : Env} {h : Heap} {n : Nat} {op : AOp} {x : Value × Heap × Nat} (e : opx r env h n op = some x) : Ev fun k => opx (F k) env h n op = some x := by
  cases op
  case call f cs =>
    simp only [opx] at e
    split at e
    · rename_i vs hv
      exact (hl.call e).mono fun k a => by simp only [opx, hv]; exact a
    · cases e
  case callv f cs =>
    simp only [opx] at e
    split at e
    · rename_i fv vs hf hv
      exact (callV_ev hl e).mono fun k a => by simp only [opx, hf, hv]; exact a
    · cases e
  all_goals (simp only [opx] at e ⊢; exact Ev.of _ fun _ => e)

theorem execOps_ev : ∀ {ops : List AOper} {fs : List Foot} {s s' : St}, execOps r ops fs s = some s' → Ev fun k => execOps (F k) ops fs s = some s'
  | [], fs, s, s', e => by simp only [execOps] at e ⊢; exact Ev.of _ fun _ => e
  | o :: ops, fs, s, s', e => by
    simp only [execOps] at e
    split at e
    · cases e
    · rename_i hg
      exact (execOps_ev e).mono fun k a => by simp only [execOps, hg]; exact a
    · rename_i hg
      split at e <;> rename_i hcls
      · split at e
        · rename_i v h n h1
          exact ((opx_ev hl h1).and (execOps_ev e)).mono fun k ⟨a, b⟩ => by simp only [execOps, hg, hcls, a]; exact b
        · cases e
      · split at e
        · rename_i v h n h1
          exact (execOps_ev e).mono fun k b => by simp only [execOps, hg, hcls, h1]; exact b
        · cases e
      · split at e
        · cases e
        · rename_i hp
          split at e
          · rename_i v h n h1
            exact (execOps_ev e).mono fun k b => by simp only [execOps, hg, hcls, h1, if_neg hp]; exact b
          · cases e
      · split at e
        · rename_i v h n h1
          exact (execOps_ev e).mono fun k b => by simp only [execOps, hg, hcls, h1]; exact b
        · cases e
      · split at e
        · rename_i v h n h1
          split at e
          · cases e
          · rename_i hp
            exact ((opx_ev hl h1).and (execOps_ev e)).mono fun k ⟨a, b⟩ => by simp only [execOps, hg, hcls, a, if_neg hp]; exact b
        · cases e
      · split at e
        · rename_i v h n h1
          split at e
          · cases e
          · rename_i hp
            split at e
            · rename_i hlo
              exact ((opx_ev hl h1).and (execOps_ev e)).mono fun k ⟨a, b⟩ => by simp only [execOps, hg, hcls, a, if_neg hp, if_pos hlo]; exact b
            · cases e
        · cases e
      · split at e
        · rename_i v h n h1
          split at e
          · cases e
          · rename_i hp
            exact ((opx_ev hl h1).and (execOps_ev e)).mono fun k ⟨a, b⟩ => by simp only [execOps, hg, hcls, a, if_neg hp]; exact b
        · cases e

theorem exec_ev {rd : Option Nat} : ∀ {c : ACode} {s : St} {x : AExit × St}, exec r rd c s = some x → Ev fun k => exec (F k) rd c s = some x
  | .skip, s, x, e => by simp only [exec] at e ⊢; exact Ev.of _ fun _ => e
  | .region ops, s, x, e => by
    simp only [exec, Option.map_eq_some_iff] at e
    obtain ⟨s1, h1, q⟩ := e
    exact (execOps_ev hl h1).mono fun k a => by simp only [exec, a, Option.map_some, q]
  | .seq a b, s, x, e => by
    simp only [exec] at e
    split at e
    · rename_i s1 h1
      exact ((exec_ev h1).and (exec_ev e)).mono fun k ⟨a, b⟩ => by simp only [exec, a]; exact b
    · rename_i h1
      refine (exec_ev e).mono fun k a => ?_
      simp only [exec, a]
      obtain ⟨x, s1⟩ := x
      cases x
      · exact absurd e (h1 _)
      · rfl
      · rfl
  | .cond c a b, s, x, e => by
    simp only [exec] at e
    split at e
    · rename_i hc
      exact (exec_ev e).mono fun k a => by simp only [exec, hc]; exact a
    · rename_i hc
      exact (exec_ev e).mono fun k a => by simp only [exec, hc]; exact a
    · cases e
  | .block id b, s, x, e => by
    simp only [exec] at e
    split at e
    · rename_i i s1 h1
      exact (exec_ev h1).mono fun k a => by simp only [exec, a]; exact e
    · rename_i h1
      refine (exec_ev e).mono fun k a => ?_
      simp only [exec, a]
      obtain ⟨x, s1⟩ := x
      cases x
      · rfl
      · exact absurd e (h1 _ _)
      · rfl
  | .loop b, s, x, e => by
    simp only [exec] at e
    split at e
    · rename_i s1 h1
      exact ((exec_ev h1).and (hl.code e)).mono fun k ⟨a, b⟩ => by simp only [exec, a]; exact b
    · rename_i h1
      refine (exec_ev e).mono fun k a => ?_
      simp only [exec, a]
      obtain ⟨x, s1⟩ := x
      cases x
      · exact absurd e (h1 _)
      · rfl
      · rfl
  | .rangeFunc f ps as bd, s, x, e => by
    simp only [exec] at e
    split at e
    · cases e
    · rename_i fv hf
      split at e
      · cases e
      rename_i hth
      split at e
      · rename_i v h n hc
        exact (callG_ev hl hc).mono fun k a => by simp only [exec, hf, if_neg hth, a]; exact e
      · cases e
  | .exit id, s, x, e => by simp only [exec] at e ⊢; exact Ev.of _ fun _ => e
  | .ret, s, x, e => by simp only [exec] at e ⊢; exact Ev.of _ fun _ => e
  | .keep ts c, s, x, e => by
    simp only [exec] at e ⊢
    exact exec_ev e
  | .scope c, s, x, e => by
    simp only [exec] at e ⊢
    exact exec_ev e
  | .gc ids c, s, x, e => by
    simp only [exec] at e ⊢
    exact exec_ev e

theorem execCall_ev {AP : FuncId → Option AFunc} {f : FuncId} {args : List Value} {h : Heap} {n : Nat} {x : Value × Heap × Nat} (e : execCall AP r f args h n = some x) : Ev fun k => execCall AP (F k) f args h n = some x := by
  unfold execCall at e
  split at e
  · cases e
  · rename_i fn hfn
    split at e
    · cases e
    · rename_i hlen
      split at e
      · rename_i s h1
        exact (exec_ev hl h1).mono fun k a => by unfold execCall; simp only [hfn, if_neg hlen, a]; exact e
      · rename_i s h1
        exact (exec_ev hl h1).mono fun k a => by unfold execCall; simp only [hfn, if_neg hlen, a]; exact e
      · cases e
end lim

/-! ### Told functions -/

abbrev Ora := FuncId → Option (List Value → Heap → Nat → Option (Value × Heap × Nat))

def oraRec (O : Ora) : Rec := ⟨fun f args h n => match O f with | some g => g args h n | none => none, fun _ _ _ => none⟩

def stepO (AP : FuncId → Option AFunc) (O : Ora) (r : Rec) : Rec :=
  ⟨fun f args h n => match O f with | some g => g args h n | none => execCall AP r f args h n, exec r⟩

def runO (AP : FuncId → Option AFunc) (O : Ora) : Nat → Rec
  | 0 => oraRec O
  | k + 1 => stepO AP O (runO AP O k)

structure OraOK (P : Program) (O : Ora) : Prop where
  good : GoodRec (oraRec O)
  sim : SimCall P (oraRec O)

theorem runO_good {P : Program} {AP : FuncId → Option AFunc} {O : Ora} (ho : OraOK P O) : ∀ k, GoodRec (runO AP O k)
  | 0 => ho.good
  | k + 1 => ⟨fun {f args h n v h' n'} e => by
      have e' : (match O f with | some g => g args h n | none => execCall AP (runO AP O k) f args h n) = some (v, h', n') := e
      split at e'
      · rename_i g hg
        exact ho.good.call (f := f) (args := args) (v := v) (by simp only [oraRec, hg]; exact e')
      · exact execCall_good (runO_good ho k) e', fun e => exec_good (runO_good ho k) e⟩

theorem runO_sound {P : Program} {AP : FuncId → Option AFunc} {O : Ora} (ho : OraOK P O) (htab : TabOK P AP) (hmix : P.follows .mixedOrders = true) : ∀ k, SimCall P (runO AP O k) ∧ SimCode P (runO AP O k)
  | 0 => ⟨ho.sim, (by intro rd c s x s' e; cases e)⟩
  | k + 1 => by
    obtain ⟨h1, h2⟩ := runO_sound ho htab hmix k
    have hg := runO_good (AP := AP) ho k
    have hr : SimRound P (runO AP O k) := round_sound hg h2
    have hc : SimCall P ⟨execCall AP (runO AP O k), exec (runO AP O k)⟩ := call_sound htab hmix hg h1 hr h2
    refine ⟨?_, ?_⟩
    · intro f args h n v h' n' e
      have e' : (match O f with | some g => g args h n | none => execCall AP (runO AP O k) f args h n) = some (v, h', n') := e
      split at e'
      · rename_i g hg
        exact ho.sim (f := f) (args := args) (v := v) (by simp only [oraRec, hg]; exact e')
      · exact hc e'
    · intro rd c s x s' e
      exact exec_sound hmix hg h1 hr h2 _ e

open Classical in
/-- the limit -/
noncomputable def RO (AP : FuncId → Option AFunc) (O : Ora) : Rec :=
  ⟨fun f a h n => if H : ∃ x, Ev fun k => (runO AP O k).call f a h n = some x then some H.choose else none,
   fun rd c s => if H : ∃ x, Ev fun k => (runO AP O k).code rd c s = some x then some H.choose else none⟩

section
variable {AP : FuncId → Option AFunc} {O : Ora}

theorem RO_call_iff {f : FuncId} {a : List Value} {h : Heap} {n : Nat} {x : Value × Heap × Nat} : (RO AP O).call f a h n = some x ↔ Ev fun k => (runO AP O k).call f a h n = some x := by
  unfold RO
  simp only
  constructor
  · intro e
    split at e
    · rename_i H
      cases e
      exact H.choose_spec
    · cases e
  · intro e
    have H : ∃ x, Ev fun k => (runO AP O k).call f a h n = some x := ⟨x, e⟩
    rw [dif_pos H]
    obtain ⟨k, h1, h2⟩ := (H.choose_spec.and e).exists
    exact h1.symm.trans h2

theorem RO_code_iff {rd : Option Nat} {c : ACode} {s : St} {x : AExit × St} : (RO AP O).code rd c s = some x ↔ Ev fun k => (runO AP O k).code rd c s = some x := by
  unfold RO
  simp only
  constructor
  · intro e
    split at e
    · rename_i H
      cases e
      exact H.choose_spec
    · cases e
  · intro e
    have H : ∃ x, Ev fun k => (runO AP O k).code rd c s = some x := ⟨x, e⟩
    rw [dif_pos H]
    obtain ⟨k, h1, h2⟩ := (H.choose_spec.and e).exists
    exact h1.symm.trans h2

theorem RO_lim : LimLe (runO AP O) (RO AP O) := ⟨RO_call_iff.1, RO_code_iff.1⟩

theorem RO_ora {f : FuncId} {g : List Value → Heap → Nat → Option (Value × Heap × Nat)} (hf : O f = some g) {a : List Value} {h : Heap} {n : Nat} {x : Value × Heap × Nat} (e : g a h n = some x) : (RO AP O).call f a h n = some x :=
  RO_call_iff.2 (Ev.of _ fun k => by cases k <;> simp only [runO, stepO, oraRec, hf, e])

theorem RO_call {f : FuncId} (hf : O f = none) {a : List Value} {h : Heap} {n : Nat} {x : Value × Heap × Nat} (e : execCall AP (RO AP O) f a h n = some x) : (RO AP O).call f a h n = some x :=
  RO_call_iff.2 (Ev.succ ((execCall_ev RO_lim e).mono fun k q => by simp only [runO, stepO, hf, q]))

theorem RO_code {rd : Option Nat} {c : ACode} {s : St} {x : AExit × St} (e : exec (RO AP O) rd c s = some x) : (RO AP O).code rd c s = some x :=
  RO_code_iff.2 (Ev.succ ((exec_ev RO_lim e).mono fun k q => q))

theorem RO_good {P : Program} (ho : OraOK P O) : GoodRec (RO AP O) :=
  ⟨fun e => let ⟨k, hk⟩ := (RO_call_iff.1 e).exists; (runO_good ho k).call hk, fun e => let ⟨k, hk⟩ := (RO_code_iff.1 e).exists; (runO_good ho k).code hk⟩

theorem RO_sim {P : Program} (ho : OraOK P O) (htab : TabOK P AP) (hmix : P.follows .mixedOrders = true) : SimCall P (RO AP O) := fun e =>
  let ⟨k, hk⟩ := (RO_call_iff.1 e).exists; (runO_sound ho htab hmix k).1 hk

/-- a round of a loop that goes on -/
theorem loop_more {rd : Option Nat} {b : ACode} {s s1 : St} {x : AExit × St} (h1 : exec (RO AP O) rd b s = some (.normal, s1)) (h2 : exec (RO AP O) rd (.loop b) s1 = some x) : exec (RO AP O) rd (.loop b) s = some x := by
  rw [exec, h1]
  exact RO_code h2

/-- a round of a loop that leaves it -/
theorem loop_exit {r : Rec} {rd : Option Nat} {b : ACode} {s s1 : St} {i : Nat} (h1 : exec r rd b s = some (.exit i, s1)) : exec r rd (.loop b) s = some (.exit i, s1) := by
  rw [exec, h1]

theorem loop_ret {r : Rec} {rd : Option Nat} {b : ACode} {s s1 : St} (h1 : exec r rd b s = some (.ret, s1)) : exec r rd (.loop b) s = some (.ret, s1) := by
  rw [exec, h1]
end

def Ora.nil : Ora := fun _ => none

theorem OraOK.nil {P : Program} : OraOK P Ora.nil := ⟨⟨fun e => (by cases e), fun e => (by cases e)⟩, fun e => (by cases e)⟩

/-- one function more is told -/
def Ora.add (O : Ora) (f : FuncId) (g : List Value → Heap → Nat → Option (Value × Heap × Nat)) : Ora := fun i => bif Nat.beq f i then some g else O i

theorem Ora.add_self {O : Ora} {f : FuncId} {g : List Value → Heap → Nat → Option (Value × Heap × Nat)} : O.add f g f = some g := by simp [Ora.add]
theorem Ora.add_ne {O : Ora} {f i : FuncId} {g : List Value → Heap → Nat → Option (Value × Heap × Nat)} (h : Nat.beq f i = false) : O.add f g i = O i := by simp [Ora.add, h]

theorem OraOK.add {P : Program} {O : Ora} (ho : OraOK P O) {f : FuncId} {g : List Value → Heap → Nat → Option (Value × Heap × Nat)} (hg : OraOK P (Ora.nil.add f g)) : OraOK P (O.add f g) := by
  have key : ∀ {i args h n x}, (oraRec (O.add f g)).call i args h n = some x → (oraRec O).call i args h n = some x ∨ (oraRec (Ora.nil.add f g)).call i args h n = some x := by
    intro i args h n x e
    simp only [oraRec, Ora.add] at e ⊢
    cases hb : Nat.beq f i
    · rw [hb] at e; exact .inl e
    · rw [hb] at e; exact .inr e
  refine ⟨⟨fun e => (key e).elim ho.good.call hg.good.call, fun e => (by cases e)⟩, fun e => (key e).elim (fun e => ho.sim e) fun e => hg.sim e⟩
end Go.Proofs.Ytbhgncfbljkdgaa.AI
