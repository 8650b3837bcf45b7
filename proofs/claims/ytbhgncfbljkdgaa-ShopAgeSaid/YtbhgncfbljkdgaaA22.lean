/-
  Whole code on the machine: what an abstract run says comes about.
-/
import Derived.Test.YtbhgncfbljkdgaaA21
namespace Go.Proofs.Ytbhgncfbljkdgaa.AI
open Go

variable {P : Program} {r : Rec}

def Arr (P : Program) (m : Machine) (b : Frame) (k : List Item) (cs : List Frame) : AExit → Act → World → Prop
  | .normal, a, w => Steps P m (lone (b.atR a k) cs w)
  | .exit id, a, w => ∃ k1, exitTo id k1 = exitTo id k ∧ Steps P m (lone (b.atR a (.code (.exit id) :: k1)) cs w)
  | .ret, a, w => ∃ k1, Steps P m (lone (b.atR a (.code .ret :: k1)) cs w)

theorem Arr.of {m m1 : Machine} {b : Frame} {k : List Item} {cs : List Frame} {x : AExit} {a : Act} {w : World} (h : Steps P m m1) (h' : Arr P m1 b k cs x a w) : Arr P m b k cs x a w := by
  cases x with
  | normal => exact h.trans h'
  | exit id => obtain ⟨k1, e, s⟩ := h'; exact ⟨k1, e, h.trans s⟩
  | ret => obtain ⟨k1, s⟩ := h'; exact ⟨k1, h.trans s⟩

/-- whose round a frame is of -/
def RdR (ρ : Ren) (rd : Option Nat) (b : Frame) : Prop :=
  match rd with
  | none => b.roundOf = none
  | some l => ∃ s, ρ l = some s ∧ b.roundOf = some s.b

/-- the marks of a frame -/
inductive MR (ρ : Ren) : List Nat → List Deferred → Prop
  | nil : MR ρ [] []
  | cons {m : Nat} {s : Slot} {ms : List Nat} {ds : List Deferred} (h : ρ m = some s) (t : MR ρ ms ds) : MR ρ (m :: ms) ({ target := .collected s.b, args := #[] } :: ds)

theorem MR.mono {ρ ρ' : Ren} (h : Ren.le ρ ρ') {ms : List Nat} {ds : List Deferred} (m : MR ρ ms ds) : MR ρ' ms ds := by
  induction m with
  | nil => exact .nil
  | cons e _ ih => exact .cons (h _ _ e) ih

theorem RdR.mono {ρ ρ' : Ren} (h : Ren.le ρ ρ') {rd : Option Nat} {b : Frame} (m : RdR ρ rd b) : RdR ρ' rd b := by
  cases rd with
  | none => exact m
  | some l => obtain ⟨s, e, q⟩ := m; exact ⟨s, h _ _ e, q⟩

def CodeOK (P : Program) (rd : Option Nat) (c : ACode) (s : St) (x : AExit) (s' : St) : Prop :=
  ∀ {N : Nat} {code : Code} {ρ : Ren} {a : Act} {w : World} {b : Frame} {k : List Item} {cs : List Frame} {todo : List Item}, chkCode P N c code = true →
    (todo = .code code :: k ∨ ∃ body, code = .loop body ∧ todo = .inLoop body :: k) → N ≤ a.tmps.size → b.kind = .normal → RdR ρ rd b → EnvR ρ s.env a.tmps → MR ρ s.marks a.defers → R P ρ s.h.get w → Dom s.h s.n → Fresh ρ s.n s'.n →
    ∃ a' w' ρ', Arr P (lone (b.atR a todo) cs w) b k cs x a' w' ∧ EnvR ρ' s'.env a'.tmps ∧ a'.tmps.size = a.tmps.size ∧ MR ρ' s'.marks a'.defers ∧ X P ρ s.h.get s.n w ρ' s'.h.get s'.n w'

def SimCode (P : Program) (r : Rec) : Prop := ∀ {rd c s x s'}, r.code rd c s = some (x, s') → CodeOK P rd c s x s'

theorem EnvR.keep {ρ : Ren} {e : Env} {tmps : Array Value} (h : EnvR ρ e tmps) (ts : List Nat) : EnvR ρ (e.keep ts) tmps := fun t v hv => by
  rw [keep_get] at hv
  split at hv
  · exact h t v hv
  · cases hv

theorem bindParams_sound {ρ : Ren} : ∀ (ps : List Nat) (args : List Value) (env env' : Env), bindParams ps args env = some env' → ∀ (args' : List Value) (tmps : Array Value), LR ρ args args' → EnvR ρ env tmps → (∀ t ∈ ps, t < tmps.size) →
    ps.length = args'.length ∧ EnvR ρ env' ((ps.zip args').foldl (fun tmps (p : Nat × Value) => tmps.setIfInBounds p.1 p.2) tmps) ∧ ((ps.zip args').foldl (fun tmps (p : Nat × Value) => tmps.setIfInBounds p.1 p.2) tmps).size = tmps.size
  | [], [], env, env', h, args', tmps, hl, he, _ => by
    simp only [bindParams] at h; cases h
    cases hl
    exact ⟨rfl, he, rfl⟩
  | [], _ :: _, _, _, h, _, _, _, _, _ => by simp [bindParams] at h
  | _ :: _, [], _, _, h, _, _, _, _, _ => by simp [bindParams] at h
  | t :: ps, v :: args, env, env', h, args', tmps, hl, he, ht => by
    simp only [bindParams] at h
    cases hl with
    | @cons _ v' _ l' hv hl =>
      have htl := ht t (by simp)
      obtain ⟨h1, h2, h3⟩ := bindParams_sound ps args ((t, v) :: env) env' h l' (tmps.setIfInBounds t v') hl (by
        intro u x hx
        simp only [Env.get] at hx
        rw [Array.getElem?_setIfInBounds]
        split at hx
        · rename_i hb
          have := eq_of_beq_nat hb; subst this
          cases hx
          exact ⟨v', by simp [htl], hv⟩
        · rename_i hb
          have : ¬ t = u := fun e => by subst e; simp at hb
          simp only [this, if_false]
          exact he u x hx) (fun u hu => by simpa using ht u (by simp [hu]))
      simp only [List.zip_cons_cons, List.foldl_cons, List.length_cons]
      refine ⟨by omega, h2, by rw [h3]; simp⟩

theorem chkTmps_eq {N : Nat} : ∀ {xs ys : List Nat}, chkTmps N xs ys = true → xs = ys ∧ ∀ t ∈ ys, t < N
  | [], [], _ => ⟨rfl, fun t h => by simp at h⟩
  | [], _ :: _, h => by simp [chkTmps] at h
  | _ :: _, [], h => by simp [chkTmps] at h
  | x :: xs, y :: ys, h => by
    simp only [chkTmps, Bool.and_eq_true] at h
    obtain ⟨⟨h1, h2⟩, h3⟩ := h
    obtain ⟨e, q⟩ := chkTmps_eq h3
    have := eq_of_beq_nat h1; subst this
    refine ⟨by rw [e], fun t ht => ?_⟩
    rcases List.mem_cons.1 ht with rfl | ht
    · simp [Nat.blt, Nat.ble_eq] at h2; omega
    · exact q t ht

theorem loop_block {ρ : Ren} {g : Nat → Option AObj} {w : World} (hr : R P ρ g w) {l : Nat} {s : Slot} (hs : ρ l = some s) {st : ALoopState} {pend : Option AJump} {env : Env} {params : List Nat} {as bd : ACode} (hg : g l = some (.loop st pend env params as bd)) :
    ∃ lo : Loop, w.heap[s.b]? = some (.loop lo) ∧ lo.state = stateOf st ∧ lo.pending = pend.map jumpOf ∧ lo.params.toList = params ∧ (∃ N, N ≤ lo.tmps.size ∧ St0 P N as lo.assign ∧ St0 P N bd lo.body ∧ ∀ t ∈ params, t < N) ∧ EnvR ρ env lo.tmps := hr.slot hg hs

theorem run_getLoop {w : World} {l : Nat} {lo : Loop} (h : w.heap[l]? = some (.loop lo)) : (Instr.getLoop l).run P w = .ok lo w := by
  simp [Instr.getLoop, getObj, Sem.run, h]

theorem run_setLoop {w : World} {l : Nat} {lo : Loop} (h : w.heap[l]? = some (.loop lo)) (o : Obj) : (setObj l o).run P w = .ok () { w with heap := w.heap.setIfInBounds l o } := by
  simp [setObj, Sem.run, h]

/-- a loop object is changed -/
theorem Ext.setLoop {ρ : Ren} {h : Heap} {n : Nat} {w : World} (hr : R P ρ h.get w) {l : Nat} {s : Slot} (hs : ρ l = some s) {st st2 : ALoopState} {pend pend2 : Option AJump} {env : Env} {params : List Nat} {as bd : ACode} (hg : h.get l = some (.loop st pend env params as bd)) {lo : Loop} (hw : w.heap[s.b]? = some (.loop lo)) :
    X P ρ h.get n w ρ (h.set l (some (.loop st2 pend2 env params as bd))).get n { w with heap := w.heap.setIfInBounds s.b (.loop { lo with state := stateOf st2, pending := pend2.map jumpOf }) } := by
  obtain ⟨lo', h1, h2, h3, h4, h5, h6⟩ := loop_block hr hs hg
  rw [hw] at h1; cases h1
  have hb : s.b < w.heap.size := by rw [Array.getElem?_eq_some_iff] at hw; exact hw.1
  refine Ext.set hr hg hs rfl rfl (fun j => Heap.get_set _ _ _ _) (by simp) (fun b hne => by simp [Array.getElem?_setIfInBounds_ne (Ne.symm hne)]) rfl rfl rfl ?_
  exact ⟨{ lo with state := stateOf st2, pending := pend2.map jumpOf }, by simp [Array.getElem?_setIfInBounds, hb], rfl, rfl, h4, h5, h6⟩

/-- ROUNDS -/
theorem round_sound (hgr : GoodRec r) (hcode : SimCode P r) : SimRound P r := by
  intro l args h n v h' n' hx ρ w args' s hs hl hr hdm hf c cs
  unfold round at hx
  split at hx
  case h_2 => cases hx
  rename_i pend0 env params assign body hg
  split at hx
  · cases hx
  rename_i env' hb
  split at hx
  case h_2 => cases hx
  rename_i s1 h1
  split at hx
  case h_2 => cases hx
  rename_i pe2 e2 ps2 as2 bd2 hg1
  split at hx
  case h_2 => cases hx
  rename_i x s2 h2
  split at hx
  case h_2 => cases hx
  rename_i st3 pp3 e3 ps3 as3 bd3 hg2
  cases hx
  have gd1 := (hgr.code h1).nle
  have gd2 := (hgr.code h2).nle
  simp only at gd1 gd2
  obtain ⟨lo, b1, b2, b3, b4, ⟨N, b5, b6, b7, b8⟩, b9⟩ := loop_block hr hs hg
  obtain ⟨p1, p2, p3⟩ := bindParams_sound params args env env' hb args'.toList lo.tmps hl b9 (fun t ht => by have := b8 t ht; omega)
  have hzip : (lo.params.zip args').foldl (fun tmps (p : Nat × Value) => tmps.setIfInBounds p.1 p.2) lo.tmps = (params.zip args'.toList).foldl (fun tmps (p : Nat × Value) => tmps.setIfInBounds p.1 p.2) lo.tmps := by
    rw [← Array.foldl_toList, Array.toList_zip, b4]
  obtain ⟨tm, htm⟩ : ∃ tm, tm = (params.zip args'.toList).foldl (fun tmps (p : Nat × Value) => tmps.setIfInBounds p.1 p.2) lo.tmps := ⟨_, rfl⟩
  rw [← htm] at p2 p3
  let b : Frame := { (default : Frame) with fn := lo.fn, kind := .normal, roundOf := some s.b }
  have hfr : Frame.round s.b lo.fn tm lo.assign lo.body .normal = b.atR { tmps := tm, defers := [] } [.code lo.assign, .beginRound, .code lo.body] := by
    simp [Frame.round, Frame.atR, b]
  have hyield : (Instr.yield s.b args').run P w = .ok (.round s.b lo.fn tm lo.assign lo.body) w := by
    have hsz : args'.size = lo.params.size := by
      have : lo.params.size = lo.params.toList.length := by simp
      rw [this, b4, p1]; simp
    simp only [Instr.yield, Sem.run_bind, run_getLoop b1, Result.andThen_ok]
    rw [if_neg (by simp [hsz])]
    simp only [Sem.run_pure]
    rw [htm, ← hzip]
  -- the assignment
  have hfa : Fresh ρ n s1.n := hf.mono (Nat.le_refl _) gd2
  obtain ⟨a1, w1, ρ1, q1, q2, q3, q4, q5⟩ := hcode h1 (b := b) (a := { tmps := tm, defers := [] }) (k := [.beginRound, .code lo.body]) (cs := c :: cs) b6 (.inl rfl) (by simp only [p3]; omega) rfl (ρ := ρ) (w := w) ⟨s, hs, rfl⟩ p2 .nil hr hdm hfa
  have hle1 := q5.le hfa
  have hs1 := hle1 l s hs
  -- the round begins
  obtain ⟨lo1, c1, c2, c3, c4, ⟨N1, c5, c6, c7, c8⟩, c9⟩ := loop_block q5.rel hs1 hg1
  have hbegin : (Instr.beginRound s.b).run P w1 = .ok () { w1 with heap := w1.heap.setIfInBounds s.b (.loop { lo1 with state := .busy }) } := by
    simp [Instr.beginRound, run_getLoop c1, run_setLoop c1, c2, stateOf]
  have hpend : lo1.pending = pe2.map jumpOf := c3
  have e1 : X P ρ1 s1.h.get s1.n w1 ρ1 (s1.h.set l (some (.loop .busy pe2 e2 ps2 as2 bd2))).get s1.n { w1 with heap := w1.heap.setIfInBounds s.b (.loop { lo1 with state := .busy }) } := by
    have := Ext.setLoop (P := P) (n := s1.n) (st2 := .busy) (pend2 := pe2) q5.rel hs1 hg1 c1
    rw [← hpend] at this
    exact this
  have t1 := q5.trans e1
  have gg1 := hgr.code h1
  have dm1 : Dom (s1.h.set l (some (.loop .busy pe2 e2 ps2 as2 bd2))) s1.n := by
    intro id o e
    rw [Heap.get_set] at e
    by_cases hid : id = l
    · subst hid; exact (hdm.good gg1) _ _ hg1
    · simp [hid] at e; exact (hdm.good gg1) _ _ e
  have hbsteps : Steps P (lone (b.atR a1 [.beginRound, .code lo.body]) (c :: cs) w1) (lone (b.atR a1 [.code lo.body]) (c :: cs) { w1 with heap := w1.heap.setIfInBounds s.b (.loop { lo1 with state := .busy }) }) :=
    .one (stepR_beginRound rfl hbegin)
  -- the body
  have hfb : Fresh ρ1 s1.n s2.n := Fresh.later q5 hf
  obtain ⟨a2, w2, ρ2, y1, y2, y3, y4, y5⟩ := hcode h2 (b := b) (a := a1) (k := []) (cs := c :: cs) b7 (.inl rfl) (by rw [q3]; simp only [p3]; omega) rfl (ρ := ρ1) (w := { w1 with heap := w1.heap.setIfInBounds s.b (.loop { lo1 with state := .busy }) }) ⟨s, hs1, rfl⟩ q2 q4 t1.rel dm1 hfb
  have hle2 := y5.le hfb
  have hs2 := hle2 l s hs1
  obtain ⟨lo2, d1, d2, d3, d4, ⟨N2, d5, d6, d7, d8⟩, d9⟩ := loop_block y5.rel hs2 hg2
  have hend : ∀ j : Option AJump, (Instr.endRound s.b (j.map jumpOf)).run P w2 = .ok (.bool j.isNone) { w2 with heap := w2.heap.setIfInBounds s.b (.loop { lo2 with state := stateOf (if j.isNone then .ready else .done), pending := j.map jumpOf }) } := by
    intro j
    simp only [Instr.endRound, Sem.run_bind, run_getLoop d1, Result.andThen_ok, run_setLoop d1, Sem.run_pure]
    cases j <;> simp [stateOf]
  have e2' : X P ρ2 s2.h.get s2.n w2 ρ2 (s2.h.set l (some (.loop (if (jumpOfExit x).isNone then .ready else .done) (jumpOfExit x) e3 ps3 as3 bd3))).get s2.n { w2 with heap := w2.heap.setIfInBounds s.b (.loop { lo2 with state := stateOf (if (jumpOfExit x).isNone then .ready else .done), pending := (jumpOfExit x).map jumpOf }) } :=
    Ext.setLoop (P := P) (n := s2.n) (st2 := if (jumpOfExit x).isNone then .ready else .done) (pend2 := jumpOfExit x) y5.rel hs2 hg2 d1
  refine ⟨lo.fn, tm, lo.assign, lo.body, w, { w2 with heap := w2.heap.setIfInBounds s.b (.loop { lo2 with state := stateOf (if (jumpOfExit x).isNone then .ready else .done), pending := (jumpOfExit x).map jumpOf }) }, ρ2, .bool (jumpOfExit x).isNone, hyield, ?_, VR.of_plain rfl, (t1.trans y5).trans e2'⟩
  rw [hfr]
  refine Steps.trans q1 (Steps.trans hbsteps ?_)
  cases x with
  | normal => exact Steps.trans y1 (.one (stepR_round_end rfl rfl (hend none)))
  | exit id =>
    obtain ⟨k1, ek, st⟩ := y1
    exact Steps.trans st (.one (stepR_round_exit rfl rfl ek (hend (some (.exit id)))))
  | ret =>
    obtain ⟨k1, st⟩ := y1
    exact Steps.trans st (.one (stepR_round_ret rfl rfl (hend (some .ret))))
end Go.Proofs.Ytbhgncfbljkdgaa.AI
