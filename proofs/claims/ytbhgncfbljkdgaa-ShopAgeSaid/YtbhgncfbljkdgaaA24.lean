/-
  Calls of Go functions: what an abstract call says comes about. The induction over the fuel. What a run of the interpreter says of the machine.
-/
import Derived.Test.YtbhgncfbljkdgaaA23
namespace Go.Proofs.Ytbhgncfbljkdgaa.AI
open Go

variable {P : Program} {r : Rec}

def chkRes (P : Program) (N : Nat) : List ResultVar → List ARes → Bool
  | [], [] => true
  | .tmp t :: xs, .tmp u :: ys => Nat.beq t u && Nat.blt t N && chkRes P N xs ys
  | .cell t ty :: xs, .cell u agg :: ys => Nat.beq t u && Nat.blt t N && chkAgg P ty agg && chkRes P N xs ys
  | _, _ => false

def chkFunc (P : Program) (f : Option Func) (a : AFunc) : Bool :=
  match f with
  | some fn => (match fn.body with | some b => chkCode P fn.ntmps a.body b | none => false) && chkRes P fn.ntmps fn.results.toList a.results && Nat.ble a.nparams fn.ntmps && fn.name != "runtime.NumGoroutine"
  | none => false

def TabOK (P : Program) (AP : FuncId → Option AFunc) : Prop := ∀ f fn, AP f = some fn → chkFunc P P.funcs[f]? fn = true

theorem numbered_get : ∀ (vs : List Value) (i t : Nat) (v : Value), (numbered i vs).get t = some v → i ≤ t ∧ vs[t - i]? = some v
  | [], i, t, v, h => by simp [numbered, Env.get] at h
  | x :: xs, i, t, v, h => by
    simp only [numbered, Env.get] at h
    split at h
    · rename_i hb
      have := eq_of_beq_nat hb; subst this
      cases h
      exact ⟨Nat.le_refl _, by simp⟩
    · rename_i hb
      have hne : ¬ i = t := fun e => by subst e; simp at hb
      obtain ⟨h1, h2⟩ := numbered_get xs (i + 1) t v h
      refine ⟨by omega, ?_⟩
      rw [show t - i = (t - (i + 1)) + 1 by omega]
      simpa using h2

def resSem (tmps : Array Value) (x : ResultVar) : Sem Value :=
  match x with
  | .tmp t => pure (tmps.getD t undef)
  | .cell a t => do loadVar t (← asAddr (tmps.getD a undef))

theorem results_eq (fn : Func) (tmps : Array Value) : results fn tmps = (do
  let vs ← fn.results.mapM (resSem tmps)
  pure (if h : vs.size = 1 then vs[0] else .tuple vs)) := rfl

theorem res_sound {ρ : Ren} {env : Env} {tmps : Array Value} {h : Heap} {w : World} (he : EnvR ρ env tmps) (hr : R P ρ h.get w) {N : Nat} : ∀ {xs : List ResultVar} {ys : List ARes}, chkRes P N xs ys = true → ∀ {vs : List Value}, ressOf env h ys = some vs →
    ∃ vs', (xs.mapM (resSem tmps)).run P w = .ok vs' w ∧ LR ρ vs vs'
  | [], [], _, vs, hv => by
    simp only [ressOf] at hv; cases hv
    exact ⟨[], rfl, .nil⟩
  | .tmp t :: xs, .tmp u :: ys, hc, vs, hv => by
    simp only [chkRes, Bool.and_eq_true] at hc
    obtain ⟨⟨h1, h2⟩, h3⟩ := hc
    have := eq_of_beq_nat h1; subst this
    simp only [ressOf, resOf] at hv
    split at hv
    · rename_i v hg
      split at hv
      · rename_i vs2 hg2
        cases hv
        obtain ⟨vs', e1, e2⟩ := res_sound he hr h3 hg2
        obtain ⟨v', a1, a2⟩ := he t v hg
        refine ⟨v' :: vs', ?_, .cons a2 e2⟩
        have : tmps.getD t undef = v' := by simp [Array.getD_eq_getD_getElem?, a1]
        simp only [List.mapM_cons, resSem, Sem.run_bind, Sem.run_pure, Result.andThen_ok, this, e1]
      · cases hv
    · cases hv
  | .cell t ty :: xs, .cell u agg :: ys, hc, vs, hv => by
    simp only [chkRes, Bool.and_eq_true] at hc
    obtain ⟨⟨⟨h1, h2⟩, h4⟩, h3⟩ := hc
    have := eq_of_beq_nat h1; subst this
    simp only [ressOf, resOf] at hv
    split at hv
    · rename_i v hg
      split at hg
      · rename_i p hp
        split at hv
        · rename_i vs2 hg2
          cases hv
          obtain ⟨vs', e1, e2⟩ := res_sound he hr h3 hg2
          obtain ⟨p', a1, a2⟩ := he t p hp
          obtain ⟨v', b1, b2⟩ := load_sound (P := P) h4 hr a2 hg
          refine ⟨v' :: vs', ?_, .cons b2 e2⟩
          have : tmps.getD t undef = p' := by simp [Array.getD_eq_getD_getElem?, a1]
          have b1' : (do loadVar ty (← asAddr p') : Sem Value).run P w = .ok v' w := by
            unfold loadAt at hg
            split at hg
            · obtain ⟨_, _, _, _, _, hp'⟩ := a2.ptr_inv
              subst hp'
              exact b1
            · cases hg
          simp only [List.mapM_cons, resSem, Sem.run_bind, Result.andThen_ok, this] at b1' ⊢
          rw [b1']
          simp only [Result.andThen_ok, e1, Sem.run_pure]
        · cases hv
      · cases hg
    · cases hv
  | [], _ :: _, hc, _, _ => by simp [chkRes] at hc
  | _ :: _, [], hc, _, _ => by simp [chkRes] at hc
  | .tmp _ :: _, .cell _ _ :: _, hc, _, _ => by simp [chkRes] at hc
  | .cell _ _ :: _, .tmp _ :: _, hc, _, _ => by simp [chkRes] at hc


theorem results_sound {ρ : Ren} {env : Env} {tmps : Array Value} {h : Heap} {w : World} (he : EnvR ρ env tmps) (hr : R P ρ h.get w) {N : Nat} {fn : Func} {ys : List ARes} (hc : chkRes P N fn.results.toList ys = true) {vs : List Value} (hv : ressOf env h ys = some vs) :
    ∃ v', (results fn tmps).run P w = .ok v' w ∧ VR ρ (tupleOf vs) v' := by
  obtain ⟨vs', e1, e2⟩ := res_sound he hr hc hv
  have e3 : (results fn tmps).run P w = .ok (if h : vs'.toArray.size = 1 then vs'.toArray[0] else .tuple vs'.toArray) w := by
    rw [results_eq, Array.mapM_eq_mapM_toList]
    simp only [map_eq_pure_bind, Sem.run_bind, e1, Result.andThen_ok, Sem.run_pure]
  refine ⟨_, e3, ?_⟩
  cases e2 with
  | nil => exact .tuple rfl fun i v e => by simp at e
  | @cons v v' l l' hv1 hl =>
    cases hl with
    | nil => exact hv1
    | @cons u u' l l' hu hl2 =>
      have hL : LR ρ (v :: u :: l) (v' :: u' :: l') := .cons hv1 (.cons hu hl2)
      have hA := LR.toArray hL
      have : ¬ (v' :: u' :: l').toArray.size = 1 := by simp
      rw [dif_neg this]
      exact .tuple hA.1 hA.2

/-- the marks of a frame that leaves are taken -/
theorem marks_sound {n : Nat} : ∀ {ms : List Nat} {h h' : Heap}, takeMarks ms h = some h' → ∀ {ρ : Ren} {w : World} {ds : List Deferred}, MR ρ ms ds → R P ρ h.get w → ∀ (fr : Frame) (cs : List Frame), fr.mode = .returning → fr.defers = ds →
    ∃ w', Steps P (lone fr cs w) (lone { fr with defers := [] } cs w') ∧ X P ρ h.get n w ρ h'.get n w'
  | [], h, h', hx, ρ, w, ds, hm, hr, fr, cs, hmode, hd => by
    simp only [takeMarks] at hx; cases hx
    cases hm
    refine ⟨w, ?_, Ext.refl hr⟩
    rw [← hd]; exact .refl _ _
  | m :: ms, h, h', hx, ρ, w, ds, hm, hr, fr, cs, hmode, hd => by
    simp only [takeMarks] at hx
    split at hx
    case h_2 => cases hx
    rename_i hg
    cases hm with
    | @cons _ s _ ds' hs ht =>
      have ho : w.heap[s.b]? = some (.deferred (some [])) := by have := hr.slot hg hs; simpa [ObjR] using this
      have hb : s.b < w.heap.size := by rw [Array.getElem?_eq_some_iff] at ho; exact ho.1
      have htake : (Instr.takeDeferred s.b).run P w = .ok [] { w with heap := w.heap.setIfInBounds s.b (.deferred none) } := by
        simp [Instr.takeDeferred, getObj, setObj, Sem.run, ho]
      have e1 : X P ρ h.get n w ρ (h.set m (some (.mark true))).get n { w with heap := w.heap.setIfInBounds s.b (.deferred none) } := by
        refine Ext.set hr hg hs rfl rfl (fun j => Heap.get_set _ _ _ _) (by simp) (fun b hne => by simp [Array.getElem?_setIfInBounds_ne (Ne.symm hne)]) rfl rfl rfl ?_
        simp [ObjR, Array.getElem?_setIfInBounds, hb]
      have hstep := step_collected (P := P) (cs := cs) (fr := fr) (d := { target := .collected s.b, args := #[] }) (ds := ds') (by rw [hmode]; exact fun e => by cases e) hd rfl htake
      obtain ⟨w', q1, q2⟩ := marks_sound hx ht e1.rel { fr with defers := [] ++ ds' } cs hmode rfl
      exact ⟨w', Steps.head hstep q1, e1.trans q2⟩

theorem call_sound {AP : FuncId → Option AFunc} (htab : TabOK P AP) (hmix : P.follows .mixedOrders = true) (hgr : GoodRec r) (hcall : SimCall P r) (hround : SimRound P r) (hcode : SimCode P r) : SimCall P ⟨execCall AP r, exec r⟩ := by
  intro f args h n v h' n' hx
  simp only [execCall] at hx
  split at hx
  · cases hx
  rename_i fn hfn
  have hck := htab f fn hfn
  unfold chkFunc at hck
  split at hck
  case h_2 => cases hck
  rename_i F hF
  simp only [Bool.and_eq_true] at hck
  obtain ⟨⟨⟨k1, k2⟩, k3⟩, k4⟩ := hck
  split at k1
  case h_2 => cases k1
  rename_i body hbody
  refine ⟨by simp [goFunc, hF, hbody, k4], ?_⟩
  intro ρ w args' hl hr hdm hf cs
  split at hx
  · cases hx
  rename_i hlen
  have hlen : args.length = fn.nparams := by simpa using hlen
  have k3 : fn.nparams ≤ F.ntmps := by simpa [Nat.ble_eq] using k3
  have hl' := hl.length
  have hent : Frame.enter P f args' .normal = ({ (default : Frame) with fn := f, kind := .normal } : Frame).atR { tmps := args' ++ Array.replicate (F.ntmps - args'.size) undef, defers := [] } [.code body] := by
    simp [Frame.enter, hF, hbody, Frame.atR]
    rfl
  have hsz : F.ntmps ≤ (args' ++ Array.replicate (F.ntmps - args'.size) undef).size := by simp; omega
  have he0 : EnvR ρ (numbered 0 args) (args' ++ Array.replicate (F.ntmps - args'.size) undef) := by
    intro t x hxx
    obtain ⟨_, h2⟩ := numbered_get args 0 t x hxx
    obtain ⟨v', b1, b2⟩ := hl.get _ _ h2
    refine ⟨v', ?_, b2⟩
    rw [Array.getElem?_append_left]
    · simpa using b1
    · rw [List.getElem?_eq_some_iff] at b1; have := b1.1; simpa using this
  -- what the body does, and the way out
  have main : ∀ {x : AExit} {s : St}, (x = .normal ∨ x = .ret) → exec r none fn.body ⟨numbered 0 args, h, n, []⟩ = some (x, s) → ∀ {h2 : Heap} {vs : List Value}, takeMarks s.marks s.h = some h2 → ressOf s.env h2 fn.results = some vs → Fresh ρ n s.n →
      ∃ w' ρ' v' fr, Steps P (lone (Frame.enter P f args' .normal) cs w) (lone fr cs w') ∧ fr.fn = f ∧ fr.leaving P w' (.returned v') ∧ VR ρ' (tupleOf vs) v' ∧ X P ρ h.get n w ρ' h2.get s.n w' := by
    intro x s hxr hex h2 vs htm hrs hfs
    obtain ⟨a1, w1, ρ1, q1, q2, q3, q4, q5⟩ := exec_sound hmix hgr hcall hround hcode fn.body hex (b := { (default : Frame) with fn := f, kind := .normal }) (k := []) (cs := cs) (a := { tmps := args' ++ Array.replicate (F.ntmps - args'.size) undef, defers := [] }) k1 (.inl rfl) hsz rfl (ρ := ρ) (w := w) rfl he0 .nil hr hdm hfs
    obtain ⟨k2', hout⟩ : ∃ k2', Steps P (lone (Frame.enter P f args' .normal) cs w) (lone { ({ (default : Frame) with fn := f, kind := .normal } : Frame).atR a1 k2' with mode := .returning } cs w1) := by
      rw [hent]
      rcases hxr with rfl | rfl
      · exact ⟨[], Steps.trans q1 (.one (stepR_end rfl))⟩
      · obtain ⟨k1', st⟩ := q1
        exact ⟨_, Steps.trans st (.one (stepR_ret rfl))⟩
    obtain ⟨w2, m1, m2⟩ := marks_sound (P := P) (n := s.n) htm q4 q5.rel { ({ (default : Frame) with fn := f, kind := .normal } : Frame).atR a1 k2' with mode := .returning } cs rfl rfl
    obtain ⟨v', r1, r2⟩ := results_sound q2 m2.rel k2 hrs
    exact ⟨w2, ρ1, v', _, hout.trans m1, rfl, ⟨rfl, rfl, rfl, F, hF, r1⟩, r2, q5.trans m2⟩
  split at hx
  · rename_i s hex
    split at hx
    case h_2 => cases hx
    rename_i h2 htm
    split at hx
    case h_2 => cases hx
    rename_i vs hrs
    cases hx
    exact main (.inl rfl) hex htm hrs hf
  · rename_i s hex
    split at hx
    case h_2 => cases hx
    rename_i h2 htm
    split at hx
    case h_2 => cases hx
    rename_i vs hrs
    cases hx
    exact main (.inr rfl) hex htm hrs hf
  · cases hx

/-- THE INTERPRETER IS SOUND -/
theorem runK_sound {AP : FuncId → Option AFunc} (htab : TabOK P AP) (hmix : P.follows .mixedOrders = true) : ∀ k, SimCall P (runK AP k) ∧ SimCode P (runK AP k)
  | 0 => ⟨(by intro f args h n v h' n' e; cases e), (by intro rd c s x s' e; cases e)⟩
  | k + 1 => by
    obtain ⟨h1, h2⟩ := runK_sound htab hmix k
    have hg := runK_good AP k
    have hr : SimRound P (runK AP k) := round_sound hg h2
    refine ⟨call_sound htab hmix hg h1 hr h2, ?_⟩
    intro rd c s x s' e
    exact exec_sound hmix hg h1 hr h2 _ e
end Go.Proofs.Ytbhgncfbljkdgaa.AI
