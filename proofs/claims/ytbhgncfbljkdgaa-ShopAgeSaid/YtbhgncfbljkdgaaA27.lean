/-
  How a told function is got from a run: garbage is dropped, new objects are renamed. Laws from the limit.
-/
import Derived.Test.YtbhgncfbljkdgaaA26
namespace Go.Proofs.Ytbhgncfbljkdgaa.AI
open Go

variable {P : Program}

/-! ### Renamings of values and objects -/

/-- what v' stands for, v stands for, too, if ids go by σ -/
def RenV (σ : Nat → Option Nat) (v v' : Value) : Prop := ∀ (ρ : Ren) (w : Value), VR ρ v' w → VR (fun i => (σ i).bind ρ) v w
def RenO (σ : Nat → Option Nat) (o o' : AObj) : Prop := ∀ (C : Stands) (ρ : Ren) (s : Slot) (w : World), ObjR C ρ s w o' → ObjR C (fun i => (σ i).bind ρ) s w o

/-- what a value stood for, it stands for still -/
theorem VR.back {ρ ρ' : Ren} (hle : Ren.le ρ ρ') {v v0 : Value} (h0 : VR ρ v v0) : ∀ {w : Value}, VR ρ' v w → VR ρ v w := by
  induction h0 with
  | bool b => intro w h; cases h; exact .bool b
  | int k n => intro w h; cases h; exact .int k n
  | string s => intro w h; cases h; exact .string s
  | ptrN => intro w h; cases h; exact .ptrN
  | ptr e => intro w h; cases h with | ptr e' => rw [hle _ _ e] at e'; cases e'; exact .ptr e
  | sliceN => intro w h; cases h; exact .sliceN
  | slice e hc => intro w h; cases h with | slice e' hc' => rw [hle _ _ e] at e'; cases e'; exact .slice e hc'
  | mapN => intro w h; cases h; exact .mapN
  | map e => intro w h; cases h with | map e' => rw [hle _ _ e] at e'; cases e'; exact .map e
  | func f hfz _ hsz _ ih1 ih => intro w h; cases h with | func _ gz g sz s => exact .func f gz (fun i h1 h2 => ih1 i h1 (hfz ▸ h1) (g i h1 h2)) sz fun i h1 h2 => ih i h1 (hsz ▸ h1) (s i h1 h2)
  | yield e => intro w h; cases h with | yield e' => rw [hle _ _ e] at e'; cases e'; exact .yield e
  | nilFunc => intro w h; cases h; exact .nilFunc
  | nilIface => intro w h; cases h; exact .nilIface
  | agg hsz _ ih => intro w h; cases h with | agg sz s => exact .agg sz fun i h1 h2 => ih i h1 (hsz ▸ h1) (s i h1 h2)
  | tuple hsz _ ih => intro w h; cases h with | tuple sz s => exact .tuple sz fun i h1 h2 => ih i h1 (hsz ▸ h1) (s i h1 h2)

theorem EntR.back {ρ ρ' : Ren} (hle : Ren.le ρ ρ') {e e0 e' : MapEntry} (h0 : EntR ρ e e0) (h : EntR ρ' e e') : EntR ρ e e' :=
  ⟨VR.back hle h0.1 h.1, VR.back hle h0.2.1 h.2.1, h.2.2⟩

/-- an object that was there is there still -/
theorem ObjR.back {C : Stands} {ρ ρ' : Ren} (hle : Ren.le ρ ρ') {s : Slot} {w w' : World} {o : AObj} (h0 : ObjR C ρ s w o) (h : ObjR C ρ' s w' o) : ObjR C ρ s w' o := by
  cases o with
  | cells ro cs =>
    obtain ⟨c0, _, _, _, _, _, _, g⟩ := h0
    obtain ⟨c, el, fr, h1, h2, h3, h4, h5⟩ := h
    refine ⟨c, el, fr, h1, h2, h3, h4, fun i v e => ?_⟩
    obtain ⟨v0, _, a0⟩ := g i v e
    obtain ⟨v', b1, b2⟩ := h5 i v e
    exact ⟨v', b1, a0.back hle b2⟩
  | map es clock =>
    obtain ⟨es0, _, _, g⟩ := h0
    obtain ⟨es', h1, h2, h3⟩ := h
    refine ⟨es', h1, h2, fun i e he => ?_⟩
    obtain ⟨e0, _, a0⟩ := g i e he
    obtain ⟨e', b1, b2⟩ := h3 i e he
    exact ⟨e', b1, a0.back hle b2⟩
  | loop st pend env params assign body =>
    obtain ⟨l0, _, _, _, _, _, g⟩ := h0
    obtain ⟨l, h1, h2, h3, h4, h5, h6⟩ := h
    refine ⟨l, h1, h2, h3, h4, h5, fun t v e => ?_⟩
    obtain ⟨v0, _, a0⟩ := g t v e
    obtain ⟨v', b1, b2⟩ := h6 t v e
    exact ⟨v', b1, a0.back hle b2⟩
  | mark taken => exact h

theorem VR.pure_eq {ρ : Ren} {v w : Value} (hp : pureB v = true) (h : VR ρ v w) : w = v := by
  cases h <;> first | rfl | (simp [pureB] at hp; done) | skip
  rename_i f fs fs' cs cs' hfz hf hsz hh
  simp only [pureB, Bool.and_eq_true] at hp
  have e1 : fs = #[] := by simpa using hp.1
  have e2 : cs = #[] := by simpa using hp.2
  subst e1; subst e2
  have e3 : fs' = #[] := Array.eq_empty_of_size_eq_zero hfz.symm
  have e4 : cs' = #[] := Array.eq_empty_of_size_eq_zero hsz.symm
  rw [e3, e4]

/-- where the ids of an answer lie in the run -/
def sig (n n1 : Nat) (τ : Nat → Nat) : Nat → Option Nat := fun id => if id < n then some id else if id < n1 then some (τ id) else none

/-- an answer (v1, h1, n1) is a part of what a run, begun at n0, ends with -/
structure Part (τ : Nat → Nat) (h : Heap) (n : Nat) (v1 : Value) (h1 : Heap) (n1 : Nat) (n0 : Nat) (v : Value) (h' : Heap) (n' : Nat) : Prop where
  nle : n ≤ n1
  new : ∀ id, n ≤ id → id < n1 → n0 ≤ τ id ∧ τ id < n'
  inj : ∀ i j, n ≤ i → i < n1 → n ≤ j → j < n1 → τ i = τ j → i = j
  val : RenV (sig n n1 τ) v1 v
  obj : ∀ id o, h1.get id = some o → (id < n ∧ h.get id = some o ∧ h'.get id = some o) ∨
    ∃ j o', sig n n1 τ id = some j ∧ h'.get j = some o' ∧ RenO (sig n n1 τ) o o' ∧ (rwB o = true → rwB o' = true)

theorem Part.ext {τ : Nat → Nat} {h h1 h' : Heap} {n n1 n0 n' : Nat} {v1 v : Value} (p : Part τ h n v1 h1 n1 n0 v h' n') (hn : n ≤ n0) {ρ ρ' : Ren} {w w' : World} (hr : R P ρ h.get w) (hf : Fresh ρ n n1) (hf0 : Fresh ρ n0 n') (x : X P ρ h.get n0 w ρ' h'.get n' w') :
    ∃ ρ1, Ren.le (fun i => (sig n n1 τ i).bind ρ') ρ1 ∧ X P ρ h.get n w ρ1 h1.get n1 w' := by
  have hold : ∀ id, id < n → ρ' id = ρ id := fun id hid => x.ren id (by omega)
  refine ⟨fun id => if n ≤ id ∧ id < n1 then ρ' (τ id) else ρ id, ?_, ?_⟩
  · intro id s e
    unfold sig at e
    by_cases h1 : id < n
    · simp only [h1, if_true, Option.bind_some, hold id h1] at e
      simp only [show ¬ (n ≤ id ∧ id < n1) by omega, if_false]
      exact e
    · by_cases h2 : id < n1
      · simp only [h1, h2, if_true, if_false, Option.bind_some] at e
        simp only [show n ≤ id ∧ id < n1 by omega, if_true]
        exact e
      · simp only [h1, h2, if_false, Option.bind_none] at e
        cases e
  · have hle : Ren.le ρ fun id => if n ≤ id ∧ id < n1 then ρ' (τ id) else ρ id := by
      intro id s e
      by_cases hid : n ≤ id ∧ id < n1
      · rw [hf.1 id hid.1 hid.2] at e; cases e
      · simp only [hid, if_false]; exact e
    have hle' : Ren.le (fun i => (sig n n1 τ i).bind ρ') fun id => if n ≤ id ∧ id < n1 then ρ' (τ id) else ρ id := by
      intro id s e
      unfold sig at e
      by_cases h1 : id < n
      · simp only [h1, if_true, Option.bind_some, hold id h1] at e
        simp only [show ¬ (n ≤ id ∧ id < n1) by omega, if_false]
        exact e
      · by_cases h2 : id < n1
        · simp only [h1, h2, if_true, if_false, Option.bind_some] at e
          simp only [show n ≤ id ∧ id < n1 by omega, if_true]
          exact e
        · simp only [h1, h2, if_false, Option.bind_none] at e
          cases e
    -- where an object of the answer lies in the run
    have place : ∀ id o, h1.get id = some o → ∃ j o', sig n n1 τ id = some j ∧ h'.get j = some o' ∧ (rwB o = true → rwB o' = true) ∧ (if n ≤ id ∧ id < n1 then ρ' (τ id) else ρ id) = ρ' j := by
      intro id o e
      have at_ : ∀ j, sig n n1 τ id = some j → (if n ≤ id ∧ id < n1 then ρ' (τ id) else ρ id) = ρ' j := by
        intro j hj
        unfold sig at hj
        by_cases h1 : id < n
        · simp only [h1, if_true, Option.some.injEq] at hj
          subst hj
          simp only [show ¬ (n ≤ id ∧ id < n1) by omega, if_false, hold id h1]
        · by_cases h2 : id < n1
          · simp only [h1, h2, if_true, if_false, Option.some.injEq] at hj
            subst hj
            simp only [show n ≤ id ∧ id < n1 by omega, if_true]
            simp
          · simp only [h1, h2, if_false] at hj
            cases hj
      rcases p.obj id o e with ⟨a, _, c⟩ | ⟨j, o', a, b, _, d⟩
      · have hs : sig n n1 τ id = some id := by simp [sig, a]
        exact ⟨id, o, hs, c, fun h => h, at_ id hs⟩
      · exact ⟨j, o', a, b, d, at_ j a⟩
    have own_ : ∀ b, Own (fun id => if n ≤ id ∧ id < n1 then ρ' (τ id) else ρ id) h1.get b → Own ρ' h'.get b := by
      rintro b ⟨id, o, s, e1, e2, e3, e4⟩
      obtain ⟨j, o', a1, a2, a3, a4⟩ := place id o e1
      exact ⟨j, o', s, a2, a3 e2, a4 ▸ e3, e4⟩
    refine ⟨⟨fun id o e => ?_, fun i j o o' s s' e e' hij hs hs' hrw => ?_⟩, fun id hid => by simp only [hid, if_false], p.nle, x.size, x.frame, fun b o => x.own b (own_ b o), fun id o e => ?_, x.os, x.output, x.tape⟩
    · rcases p.obj id o e with ⟨a, b, c⟩ | ⟨j, o', a, b, c, _⟩
      · obtain ⟨s, s1, s2⟩ := x.rel.obj id o c
        have hs := hr.slot b (by rw [← hold id a]; exact s1)
        refine ⟨s, ?_, (hs.back (x.le hf0) s2).keep hle rfl⟩
        simp only [show ¬ (n ≤ id ∧ id < n1) by omega, if_false, ← hold id a]
        exact s1
      · obtain ⟨s, s1, s2⟩ := x.rel.obj j o' b
        obtain ⟨j', o2, a1, a2, a3, a4⟩ := place id o e
        rw [a] at a1; cases a1
        exact ⟨s, by rw [a4]; exact s1, (c _ _ _ _ s2).keep hle' rfl⟩
    · obtain ⟨i1, o1, a1, a2, a3, a4⟩ := place i o e
      obtain ⟨j1, o2, b1, b2, b3, b4⟩ := place j o' e'
      refine x.rel.sep i1 j1 o1 o2 s s' a2 b2 ?_ (a4 ▸ hs) (b4 ▸ hs') (a3 hrw)
      intro hij'
      subst hij'
      unfold sig at a1 b1
      by_cases hi : i < n <;> by_cases hj : j < n
      · simp only [hi, if_true, Option.some.injEq] at a1
        simp only [hj, if_true, Option.some.injEq] at b1
        omega
      · by_cases hj1 : j < n1
        · simp only [hi, if_true, Option.some.injEq] at a1
          simp only [hj, hj1, if_true, if_false, Option.some.injEq] at b1
          have := p.new j (by omega) hj1
          omega
        · simp only [hj, hj1, if_false] at b1; cases b1
      · by_cases hi1 : i < n1
        · simp only [hj, if_true, Option.some.injEq] at b1
          simp only [hi, hi1, if_true, if_false, Option.some.injEq] at a1
          have := p.new i (by omega) hi1
          omega
        · simp only [hi, hi1, if_false] at a1; cases a1
      · by_cases hi1 : i < n1
        · by_cases hj1 : j < n1
          · simp only [hi, hi1, if_true, if_false, Option.some.injEq] at a1
            simp only [hj, hj1, if_true, if_false, Option.some.injEq] at b1
            exact hij (p.inj i j (by omega) hi1 (by omega) hj1 (a1.trans b1.symm))
          · simp only [hj, hj1, if_false] at b1; cases b1
        · simp only [hi, hi1, if_false] at a1; cases a1
    · obtain ⟨j, o', a1, a2, _, _⟩ := place id o e
      unfold sig at a1
      by_cases h1 : id < n
      · simp only [h1, if_true, Option.some.injEq] at a1
        subst a1
        rcases x.dom id o' a2 with h | h
        · exact .inl h
        · omega
      · by_cases h2 : id < n1
        · exact .inr (by omega)
        · simp only [h1, h2, if_false] at a1; cases a1

/-- A FUNCTION THAT IS TOLD: what it answers is a part of what a run ends with -/
theorem OraOK.told {AP : FuncId → Option AFunc} {O : Ora} (ho : OraOK P O) (htab : TabOK P AP) (hmix : P.follows .mixedOrders = true) {f : FuncId} (hgf : goFunc P f = true) {g : List Value → Heap → Nat → Option (Value × Heap × Nat)}
    (hg : ∀ {args h n v1 h1 n1}, g args h n = some (v1, h1, n1) → Good h n h1 n1)
    (H : ∀ {args h n v1 h1 n1}, g args h n = some (v1, h1, n1) → Dom h n → ∀ n0, n ≤ n0 → ∃ v h' n' τ, (RO AP O).call f args h n0 = some (v, h', n') ∧ Part τ h n v1 h1 n1 n0 v h' n') : OraOK P (Ora.nil.add f g) := by
  have key : ∀ {i args h n x}, (oraRec (Ora.nil.add f g)).call i args h n = some x → i = f ∧ g args h n = some x := by
    intro i args h n x e
    simp only [oraRec, Ora.add, Ora.nil] at e
    cases hb : Nat.beq f i
    · rw [hb] at e; cases e
    · rw [hb] at e; exact ⟨(Nat.eq_of_beq_eq_true hb).symm, e⟩
  refine ⟨⟨fun e => hg (key e).2, fun e => (by cases e)⟩, ?_⟩
  intro i args h n v1 h1 n1 e
  obtain ⟨rfl, eg⟩ := key e
  refine ⟨hgf, ?_⟩
  intro ρ w args' hl hr hd hf cs
  obtain ⟨N, hN⟩ := hf.2
  obtain ⟨v, h', n', τ, q1, q2⟩ := H eg hd (max n N) (by omega)
  have hf0 : Fresh ρ (max n N) n' := ⟨fun id h1 _ => hN id (by omega), hf.2⟩
  obtain ⟨w', ρ', v', fr, a1, a2, a3, a4, a5⟩ := (RO_sim ho htab hmix q1).2 hl hr (fun id o eo => by have := hd id o eo; omega) hf0 cs
  obtain ⟨ρ1, b1, b2⟩ := q2.ext (by omega) hr hf hf0 a5
  exact ⟨w', ρ1, v', fr, a1, a2, a3, (q2.val _ _ a4).mono b1, b2⟩

/-- what lay below stays -/
def Keeps (n : Nat) (h h' : Heap) : Prop := ∀ id, id < n → h'.get id = h.get id

theorem Keeps.refl (n : Nat) (h : Heap) : Keeps n h h := fun _ _ => rfl
theorem Keeps.trans {n : Nat} {h h1 h2 : Heap} (a : Keeps n h h1) (b : Keeps n h1 h2) : Keeps n h h2 := fun id hid => (b id hid).trans (a id hid)
theorem Keeps.mono {n m : Nat} {h h1 : Heap} (a : Keeps n h h1) (hm : m ≤ n) : Keeps m h h1 := fun id hid => a id (by omega)
theorem Keeps.new {n m : Nat} {h h1 : Heap} (a : Keeps n h h1) (hm : n ≤ m) (o : AObj) : Keeps n h (h1.new m o) := fun id hid => by
  rw [Heap.get_new, if_neg (by omega)]; exact a id hid
theorem Keeps.set {n m : Nat} {h h1 : Heap} (a : Keeps n h h1) (hm : n ≤ m) (o : Option AObj) : Keeps n h (h1.set m o) := fun id hid => by
  rw [Heap.get_set, if_neg (by omega)]; exact a id hid

theorem RenV.plain {σ : Nat → Option Nat} {v : Value} (h : plainB v = true) : RenV σ v v := by
  intro ρ w hw
  have : w = v := by
    unfold plainB at h
    split at h
    · cases hw with | agg sz s =>
      congr 1
      rename_i cs cs'
      apply Array.ext sz.symm
      intro i h1 h2
      have hp := List.all_eq_true.1 h cs[i] (by simp)
      exact VR.pure_eq hp (s i h2 h1)
    · cases hw with | tuple sz s =>
      congr 1
      rename_i cs cs'
      apply Array.ext sz.symm
      intro i h1 h2
      have hp := List.all_eq_true.1 h cs[i] (by simp)
      exact VR.pure_eq hp (s i h2 h1)
    · exact VR.pure_eq h hw
  subst this
  exact VR.of_plain h

/-- A FUNCTION THAT CHANGES NOTHING and answers a value without addresses -/
def pureOra (spec : List Value → Heap → Option Value) : List Value → Heap → Nat → Option (Value × Heap × Nat) := fun args h n => (spec args h).map (·, h, n)

theorem pureOra_some {spec : List Value → Heap → Option Value} {args : List Value} {h : Heap} {n : Nat} {v : Value} (e : spec args h = some v) : pureOra spec args h n = some (v, h, n) := by
  unfold pureOra; rw [e]; rfl

theorem OraOK.pure {AP : FuncId → Option AFunc} {O : Ora} (ho : OraOK P O) (htab : TabOK P AP) (hmix : P.follows .mixedOrders = true) {f : FuncId} (hgf : goFunc P f = true) {spec : List Value → Heap → Option Value}
    (H : ∀ {args h v}, spec args h = some v → plainB v = true ∧ ∀ n, Dom h n → ∃ h' n', (RO AP O).call f args h n = some (v, h', n') ∧ Keeps n h h') : OraOK P (Ora.nil.add f (pureOra spec)) := by
  have key : ∀ {args h n v1 h1 n1}, pureOra spec args h n = some (v1, h1, n1) → spec args h = some v1 ∧ h1 = h ∧ n1 = n := by
    intro args h n v1 h1 n1 e
    unfold pureOra at e
    cases hs : spec args h with
    | none => rw [hs] at e; cases e
    | some v => rw [hs] at e; cases e; exact ⟨rfl, rfl, rfl⟩
  refine OraOK.told ho htab hmix hgf (fun e => ?_) (fun e hd n0 hn => ?_)
  · obtain ⟨_, rfl, rfl⟩ := key e; exact Good.refl _ _
  · obtain ⟨es, rfl, rfl⟩ := key e
    obtain ⟨p, q⟩ := H es
    obtain ⟨h', n', r1, r2⟩ := q n0 (fun id o eo => by have := hd id o eo; omega)
    refine ⟨_, h', n', id, r1, ⟨Nat.le_refl _, fun i h1 h2 => by omega, fun i j h1 h2 => by omega, RenV.plain p, fun id o eo => .inl ?_⟩⟩
    have hid := hd id o eo
    exact ⟨hid, eo, (r2 id (by omega)).trans eo⟩

/-! ### Laws -/

theorem calls_of_sim {r : Rec} (hs : SimCall P r) {f : FuncId} {args : List Value} {h h' : Heap} {n n' : Nat} {v : Value}
    (hrun : r.call f args h n = some (v, h', n')) {ρ : Ren} {w : World} {args' : Array Value} (hl : LR ρ args args'.toList) (hr : R P ρ h.get w) (hd : Dom h n) (hf : ∀ id, n ≤ id → ρ id = none) :
    Calls P f args' w fun e w' => ∃ ρ' v', e = .returned v' ∧ VR ρ' v v' ∧ X P ρ h.get n w ρ' h'.get n' w' := by
  intro cs
  obtain ⟨w', ρ', v', fr, q1, q2, q3, q4, q5⟩ := (hs hrun).2 hl hr hd ⟨fun id h1 _ => hf id h1, n, fun id h1 => hf id h1⟩ cs
  exact ⟨.returned v', w', fr, ⟨ρ', v', rfl, q4, q5⟩, q1, q2, q3⟩

theorem law_of_sim {r : Rec} (hs : SimCall P r) {f : FuncId} {args : List Value} {h h' : Heap} {n n' : Nat}
    (hrun : r.call f args h n = some (.bool true, h', n')) {ρ : Ren} {w : World} {args' : Array Value} (hl : LR ρ args args'.toList) (hr : R P ρ h.get w) (hd : Dom h n) (hf : ∀ id, n ≤ id → ρ id = none) (hro : ∀ id o, h.get id = some o → rwB o = false) :
    Calls P f args' w fun e w' => e = .returned (.bool true) ∧ Stays w w' := by
  intro cs
  obtain ⟨e, w', fr, ⟨ρ', v', q1, q2, q3⟩, q4, q5, q6⟩ := calls_of_sim hs hrun hl hr hd hf cs
  have := q2.bool_inv
  subst this
  exact ⟨e, w', fr, ⟨q1, X.stays q3 hro⟩, q4, q5, q6⟩

theorem law_closed_sim {r : Rec} (hs : SimCall P r) {f : FuncId} {h' : Heap} {n' : Nat} (hrun : r.call f [] ⟨.leaf, 0⟩ 0 = some (.bool true, h', n')) (w : World) : Calls P f #[] w fun e w' => e = .returned (.bool true) ∧ Stays w w' := by
  refine law_of_sim hs hrun (ρ := fun _ => none) .nil ⟨fun id o e => ?_, fun i j o o' s s' e => ?_⟩ (fun id o e => ?_) (fun _ _ => rfl) (fun id o e => ?_)
  all_goals (simp [Heap.get, Tr.get] at e)

/-- a function without arguments that answers true -/
def trueOra : List Value → Heap → Nat → Option (Value × Heap × Nat) := fun args h n => match args with | [] => some (.bool true, h, n) | _ => none

theorem OraOK.closed {f : FuncId} (hgf : goFunc P f = true) (H : ∀ w : World, Calls P f #[] w fun e w' => e = .returned (.bool true) ∧ Stays w w') : OraOK P (Ora.nil.add f trueOra) := by
  have key : ∀ {i args h n v1 h1 n1}, (oraRec (Ora.nil.add f trueOra)).call i args h n = some (v1, h1, n1) → i = f ∧ args = [] ∧ v1 = .bool true ∧ h1 = h ∧ n1 = n := by
    intro i args h n v1 h1 n1 e
    simp only [oraRec, Ora.add, Ora.nil] at e
    cases hb : Nat.beq f i
    · rw [hb] at e; cases e
    · rw [hb] at e
      have hi := (Nat.eq_of_beq_eq_true hb).symm
      cases args with
      | nil => cases e; exact ⟨hi, rfl, rfl, rfl, rfl⟩
      | cons _ _ => cases e
  refine ⟨⟨fun e => ?_, fun e => (by cases e)⟩, ?_⟩
  · obtain ⟨_, _, _, rfl, rfl⟩ := key e; exact Good.refl _ _
  intro i args h n v1 h1 n1 e
  obtain ⟨rfl, rfl, rfl, rfl, rfl⟩ := key e
  refine ⟨hgf, ?_⟩
  intro ρ w args' hl hr hd hf cs
  have ha : args' = #[] := by
    have := hl.length
    exact Array.eq_empty_of_size_eq_zero (by simpa using this.symm)
  subst ha
  obtain ⟨e, w', fr, ⟨rfl, q2, q3, q4, q5, q6⟩, a1, a2, a3⟩ := H w cs
  have hkeep : ∀ id o s, h1.get id = some o → ρ id = some s → w'.heap[s.b]? = w.heap[s.b]? := fun id o s e1 e2 => q6 _ (hr.lt e1 e2)
  refine ⟨w', ρ, _, fr, a1, a2, a3, .bool true, ⟨⟨fun id o e1 => ?_, hr.sep⟩, fun _ _ => rfl, Nat.le_refl _, q5, fun b hb _ => q6 b hb, fun b o => .inl o, fun id o e => .inl ⟨o, e⟩, q2, q3, q4⟩⟩
  obtain ⟨s, s1, s2⟩ := hr.obj id o e1
  exact ⟨s, s1, s2.keep (Ren.le_refl _) (hkeep id o s e1 s1)⟩

/-! ### Bodies in pieces -/

def seqL : List ACode → ACode → ACode
  | [], k => k
  | a :: l, k => .seq a (seqL l k)

def execL (r : Rec) (rd : Option Nat) : List ACode → St → Option St
  | [], s => some s
  | a :: l, s => match exec r rd a s with
    | some (.normal, s1) => execL r rd l s1
    | _ => none

theorem exec_seqL {r : Rec} {rd : Option Nat} : ∀ {l : List ACode} {s s1 : St} {k : ACode}, execL r rd l s = some s1 → exec r rd (seqL l k) s = exec r rd k s1
  | [], s, s1, k, e => by cases e; rfl
  | a :: l, s, s1, k, e => by
    simp only [execL] at e
    split at e
    · rename_i s2 h2
      simp only [seqL, exec, h2]
      exact exec_seqL e
    · cases e

/-- these variables and these objects alone -/
def cutSt (ids lv : List Nat) (s : St) : St := ⟨s.env.keep lv, ⟨(restr s.h ids).t, 0⟩, s.n, s.marks⟩

theorem exec_cut {r : Rec} {rd : Option Nat} {ids lv : List Nat} {c : ACode} {s : St} : exec r rd (.gc ids (.keep lv c)) s = exec r rd c (cutSt ids lv s) := rfl

theorem exec_piece {r : Rec} {rd : Option Nat} {l : List ACode} {s s1 : St} {ids lv : List Nat} {k : ACode} (e : (execL r rd l s).map (cutSt ids lv) = some s1) : exec r rd (seqL l (.gc ids (.keep lv k))) s = exec r rd k s1 := by
  rw [Option.map_eq_some_iff] at e
  obtain ⟨s2, e1, e2⟩ := e
  rw [exec_seqL e1, exec_cut, e2]

def endsTrue (t : Nat) : Option (AExit × St) → Bool
  | some (.ret, s) | some (.normal, s) => s.marks.isEmpty && (match s.env.get t with | some (.bool true) => true | _ => false)
  | _ => false

theorem call_of_ends {AP : FuncId → Option AFunc} {r : Rec} {f : FuncId} {t : Nat} {body : ACode} (hf : AP f = some ⟨0, [.tmp t], body⟩) (he : endsTrue t (exec r none body ⟨[], ⟨.leaf, 0⟩, 0, []⟩) = true) :
    ∃ h' n', execCall AP r f [] ⟨.leaf, 0⟩ 0 = some (.bool true, h', n') := by
  unfold endsTrue at he
  split at he
  all_goals (try (cases he; done))
  all_goals
    rename_i s hs
    simp only [Bool.and_eq_true] at he
    obtain ⟨h1, h2⟩ := he
    have hm : s.marks = [] := by simpa using h1
    refine ⟨s.h, s.n, ?_⟩
    unfold execCall
    simp only [hf, List.length_nil, numbered]
    rw [hs]
    simp only [hm, takeMarks, ressOf, resOf]
    split at h2
    · rename_i hg
      simp [hg, tupleOf]
    · cases h2
end Go.Proofs.Ytbhgncfbljkdgaa.AI
