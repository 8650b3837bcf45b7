/-
  Code that the abstract interpreter runs, on the machine.
-/
import Derived.Test.YtbhgncfbljkdgaaA22
namespace Go.Proofs.Ytbhgncfbljkdgaa.AI
open Go

variable {P : Program} {r : Rec}

/-- the entry into a range over a function -/
theorem enter_sound {ρ : Ren} {s : St} {w : World} {b : Frame} {rd : Option Nat} {a : Act} {N : Nat} {ps : Array Tmp} {x y : Code} {as bd : ACode} {params : List Nat}
    (hc1 : chkTmps N ps.toList params = true) (hc2 : chkCode P N as x = true) (hc3 : chkCode P N bd y = true) (hN : N ≤ a.tmps.size) (hrd : RdR ρ rd b) (hth : loopThere rd s.h = true)
    (he : EnvR ρ s.env a.tmps) (hm : MR ρ s.marks a.defers) (hr : R P ρ s.h.get w) (hdm : Dom s.h s.n) (hf : Fresh ρ s.n ((enterSt rd s).n + 1)) :
    ∃ l mark w1 ρ1 sl, (Instr.enterLoop b.fn a.tmps ps x y b.roundOf).run P w = .ok (l, mark) w1 ∧
      X P ρ s.h.get s.n w ρ1 ((enterSt rd s).h.new (enterSt rd s).n (.loop .ready none s.env params as bd)).get ((enterSt rd s).n + 1) w1 ∧
      ρ1 (enterSt rd s).n = some sl ∧ sl.b = l ∧ MR ρ1 (enterSt rd s).marks (mark ++ a.defers) ∧ Dom ((enterSt rd s).h.new (enterSt rd s).n (.loop .ready none s.env params as bd)) ((enterSt rd s).n + 1) := by
  obtain ⟨hps, hpn⟩ := chkTmps_eq hc1
  cases rd with
  | none =>
    have hro : b.roundOf = none := hrd
    simp only [enterSt] at hf ⊢
    obtain ⟨w0, hw0⟩ : ∃ w0 : World, w0 = { w with heap := w.heap.push (.deferred (some [])) } := ⟨_, rfl⟩
    have hn0 : ρ s.n = none := hf.1 _ (Nat.le_refl _) (by omega)
    have x0 : X P ρ s.h.get s.n w (setRen ρ s.n ⟨w.heap.size, 0, 0⟩) (s.h.new s.n (.mark false)).get (s.n + 1) w0 := by
      refine Ext.new (s := ⟨w.heap.size, 0, 0⟩) (o := .mark false) (x := .deferred (some [])) hr hn0 (fun _ => Heap.get_new _ _ _ _) rfl (by rw [hw0]) (by rw [hw0]) (by rw [hw0]) (by rw [hw0]) ?_
      simp only [ObjR, hw0]
      exact Array.getElem?_push_size
    have hn1 : setRen ρ s.n ⟨w.heap.size, 0, 0⟩ (s.n + 1) = none := by
      have : ¬ s.n + 1 = s.n := by omega
      simp only [setRen, this, if_false]; exact hf.1 _ (by omega) (by omega)
    have hle0 : Ren.le ρ (setRen ρ s.n ⟨w.heap.size, 0, 0⟩) := x0.le (hf.mono (Nat.le_refl _) (by omega))
    have x1 : X P (setRen ρ s.n ⟨w.heap.size, 0, 0⟩) (s.h.new s.n (.mark false)).get (s.n + 1) w0 (setRen (setRen ρ s.n ⟨w.heap.size, 0, 0⟩) (s.n + 1) ⟨w0.heap.size, 0, 0⟩) ((s.h.new s.n (.mark false)).new (s.n + 1) (.loop .ready none s.env params as bd)).get (s.n + 1 + 1)
        { w0 with heap := w0.heap.push (.loop { state := .ready, pending := none, fn := b.fn, tmps := a.tmps, params := ps, assign := x, body := y, defers := w.heap.size }) } := by
      have hle1 : Ren.le (setRen ρ s.n ⟨w.heap.size, 0, 0⟩) (setRen (setRen ρ s.n ⟨w.heap.size, 0, 0⟩) (s.n + 1) ⟨w0.heap.size, 0, 0⟩) := by
        intro i sl hsl
        by_cases hi : i = s.n + 1
        · subst hi; rw [hn1] at hsl; cases hsl
        · simp only [setRen, hi, if_false]; exact hsl
      refine Ext.new (s := ⟨w0.heap.size, 0, 0⟩) (o := .loop .ready none s.env params as bd) (x := .loop { state := .ready, pending := none, fn := b.fn, tmps := a.tmps, params := ps, assign := x, body := y, defers := w.heap.size }) x0.rel hn1 (fun _ => Heap.get_new _ _ _ _) rfl rfl rfl rfl rfl ?_
      exact ⟨{ state := .ready, pending := none, fn := b.fn, tmps := a.tmps, params := ps, assign := x, body := y, defers := w.heap.size }, by simp, rfl, rfl, hps, ⟨N, hN, hc2, hc3, by intro t ht; exact hpn t ht⟩, (he.mono hle0).mono hle1⟩
    refine ⟨w0.heap.size, [{ target := .collected w.heap.size, args := #[] }], _, _, ⟨w0.heap.size, 0, 0⟩, ?_, x0.trans x1, setRen_eq _ _ _, rfl, ?_, ?_⟩
    · rw [hro, hw0]
      rfl
    · have hfr1 : Fresh (setRen ρ s.n ⟨w.heap.size, 0, 0⟩) (s.n + 1) (s.n + 1 + 1) := by
        refine ⟨fun id h1 h2 => ?_, hf.2.step x0.ren⟩
        have : id = s.n + 1 := by omega
        subst this; exact hn1
      have hle1 := x1.le hfr1
      exact MR.cons (hle1 _ _ (setRen_eq _ _ _)) ((hm.mono hle0).mono hle1)
    · intro id o e
      rw [Heap.get_new] at e
      by_cases h1 : id = s.n + 1
      · omega
      · rw [if_neg h1, Heap.get_new] at e
        by_cases h2 : id = s.n
        · omega
        · rw [if_neg h2] at e; have := hdm id o e; omega
  | some l0 =>
    obtain ⟨s0, hs0, hro⟩ := hrd
    simp only [loopThere] at hth
    split at hth
    case h_2 => cases hth
    rename_i st0 pd0 en0 pa0 as0 bd0 hg0
    obtain ⟨lo, b1, _⟩ := loop_block hr hs0 hg0
    simp only [enterSt] at hf ⊢
    have hn0 : ρ s.n = none := hf.1 _ (Nat.le_refl _) (by omega)
    have hle0 : Ren.le ρ (setRen ρ s.n ⟨w.heap.size, 0, 0⟩) := by
      intro i sl hsl
      by_cases hi : i = s.n
      · subst hi; rw [hn0] at hsl; cases hsl
      · simp only [setRen, hi, if_false]; exact hsl
    have x1 : X P ρ s.h.get s.n w (setRen ρ s.n ⟨w.heap.size, 0, 0⟩) (s.h.new s.n (.loop .ready none s.env params as bd)).get (s.n + 1)
        { w with heap := w.heap.push (.loop { state := .ready, pending := none, fn := b.fn, tmps := a.tmps, params := ps, assign := x, body := y, defers := lo.defers }) } := by
      refine Ext.new (s := ⟨w.heap.size, 0, 0⟩) (o := .loop .ready none s.env params as bd) (x := .loop { state := .ready, pending := none, fn := b.fn, tmps := a.tmps, params := ps, assign := x, body := y, defers := lo.defers }) hr hn0 (fun _ => Heap.get_new _ _ _ _) rfl rfl rfl rfl rfl ?_
      exact ⟨{ state := .ready, pending := none, fn := b.fn, tmps := a.tmps, params := ps, assign := x, body := y, defers := lo.defers }, by simp, rfl, rfl, hps, ⟨N, hN, hc2, hc3, by intro t ht; exact hpn t ht⟩, he.mono hle0⟩
    refine ⟨w.heap.size, [], _, _, ⟨w.heap.size, 0, 0⟩, ?_, x1, setRen_eq _ _ _, rfl, hm.mono hle0, ?_⟩
    · rw [hro]
      simp [Instr.enterLoop, run_getLoop b1]
    · intro id o e
      rw [Heap.get_new] at e
      by_cases h2 : id = s.n
      · omega
      · rw [if_neg h2] at e; have := hdm id o e; omega

theorem run_endLoop {w : World} {l : Nat} {lo : Loop} (h : w.heap[l]? = some (.loop lo)) (hb : lo.state ≠ .busy) : (Instr.endLoop l).run P w = .ok lo.pending { w with heap := w.heap.setIfInBounds l (.loop { lo with state := .exhausted }) } := by
  have : (lo.state == .busy) = false := by cases hs : lo.state <;> simp_all <;> rfl
  simp [Instr.endLoop, run_getLoop h, run_setLoop h, this, hb]

theorem exec_sound (hmix : P.follows .mixedOrders = true) (hgr : GoodRec r) (hcall : SimCall P r) (hround : SimRound P r) (hcode : SimCode P r) (c : ACode) : ∀ {rd : Option Nat} {s s' : St} {x : AExit}, exec r rd c s = some (x, s') → CodeOK P rd c s x s' := by
  induction c with
  | skip =>
    intro rd s s' x h N code ρ a w b k cs todo hc ht hN hk hrd he hm hr hdm hf
    simp only [exec] at h; cases h
    rcases ht with rfl | ⟨body, rfl, rfl⟩
    · cases code <;> first | (simp [chkCode] at hc; done) | skip
      · exact ⟨a, w, ρ, .one stepR_skip, he, rfl, hm, Ext.refl hr⟩
      · exact ⟨a, w, ρ, .one stepR_label, he, rfl, hm, Ext.refl hr⟩
    · simp [chkCode] at hc
  | scope c ih =>
    intro rd s s' x h N code ρ a w b k cs todo hc ht hN hk hrd he hm hr hdm hf
    simp only [exec] at h
    rcases ht with rfl | ⟨body, rfl, rfl⟩
    case inr => simp [chkCode] at hc
    cases code <;> first | (simp [chkCode] at hc; done) | skip
    rename_i d
    simp only [chkCode] at hc
    obtain ⟨a1, w1, ρ1, q1, q2⟩ := ih h (b := b) (k := .inScope d :: k) (cs := cs) hc (.inl rfl) hN hk hrd he hm hr hdm hf
    have hs1 : step P (lone (b.atR a (.code (.scope d) :: k)) cs w) = .next (lone (b.atR a (.code d :: .inScope d :: k)) cs w) :=
      step_lone_go (by simp [stepG, stepG.exec, Frame.atR])
    refine ⟨a1, w1, ρ1, ?_, q2⟩
    cases x with
    | normal => exact Steps.head hs1 (Steps.trans q1 (.one (step_lone_go (by simp [stepG, stepG.exec, Frame.atR]))))
    | exit id => obtain ⟨k1, ek, st⟩ := q1; exact ⟨k1, ek, Steps.head hs1 st⟩
    | ret => obtain ⟨k1, st⟩ := q1; exact ⟨k1, Steps.head hs1 st⟩
  | exit id =>
    intro rd s s' x h N code ρ a w b k cs todo hc ht hN hk hrd he hm hr hdm hf
    simp only [exec] at h; cases h
    rcases ht with rfl | ⟨body, rfl, rfl⟩
    · cases code <;> first | (simp [chkCode] at hc; done) | skip
      simp only [chkCode] at hc
      have := eq_of_beq_nat hc; subst this
      exact ⟨a, w, ρ, ⟨k, rfl, .refl _ _⟩, he, rfl, hm, Ext.refl hr⟩
    · simp [chkCode] at hc
  | ret =>
    intro rd s s' x h N code ρ a w b k cs todo hc ht hN hk hrd he hm hr hdm hf
    simp only [exec] at h; cases h
    rcases ht with rfl | ⟨body, rfl, rfl⟩
    · cases code <;> first | (simp [chkCode] at hc; done) | skip
      exact ⟨a, w, ρ, ⟨k, .refl _ _⟩, he, rfl, hm, Ext.refl hr⟩
    · simp [chkCode] at hc
  | keep ts c ih =>
    intro rd s s' x h N code ρ a w b k cs todo hc ht hN hk hrd he hm hr hdm hf
    simp only [exec] at h
    simp only [chkCode] at hc
    exact ih h hc ht hN hk hrd (EnvR.keep he ts) hm hr hdm hf
  | gc ids c ih =>
    intro rd s s' x h N code ρ a w b k cs todo hc ht hN hk hrd he hm hr hdm hf
    simp only [exec] at h
    simp only [chkCode] at hc
    have hg : ∀ id, (⟨(restr s.h ids).t, 0⟩ : Heap).get id = if id ∈ ids then s.h.get id else none := restr_get s.h ids
    have hsub : ∀ id o, (⟨(restr s.h ids).t, 0⟩ : Heap).get id = some o → s.h.get id = some o := fun id o e => by
      rw [hg] at e
      split at e
      · exact e
      · cases e
    have hr' : R P ρ (⟨(restr s.h ids).t, 0⟩ : Heap).get w := Rel.sub hr hsub
    have hx0 : X P ρ s.h.get s.n w ρ (⟨(restr s.h ids).t, 0⟩ : Heap).get s.n w :=
      ⟨hr', fun _ _ => rfl, Nat.le_refl _, Nat.le_refl _, fun _ _ _ => rfl, fun b ⟨id, o, sl, e, h2, h3, h4⟩ => .inl ⟨id, o, sl, hsub id o e, h2, h3, h4⟩, fun id o e => .inl ⟨o, hsub id o e⟩, rfl, rfl, rfl⟩
    obtain ⟨a1, w1, ρ1, q1, q2, q3, q4, q5⟩ := ih h hc ht hN hk hrd he hm hr' (fun id o e => hdm id o (hsub id o e)) hf
    exact ⟨a1, w1, ρ1, q1, q2, q3, q4, hx0.trans q5⟩
  | region ops =>
    intro rd s s' x h N code ρ a w b k cs todo hc ht hN hk hrd he hm hr hdm hf
    simp only [exec, Option.map_eq_some_iff] at h
    obtain ⟨s2, hx, h⟩ := h
    cases h
    rcases ht with rfl | ⟨body, rfl, rfl⟩
    · cases code <;> first | (simp [chkCode] at hc; done) | skip
      rename_i id os draw
      simp only [chkCode, Bool.and_eq_true] at hc
      obtain ⟨h1, h2⟩ := hc
      cases draw with
      | false =>
        simp only [Bool.false_eq_true, if_false] at h2
        obtain ⟨a', w', ρ', q1, q2, q3, q4, q5, q6⟩ := ops_seq (P := P) (b := b) (k := k) (cs := cs) hgr hcall hround os os.toList ops 0 [] s s' (fun j => by simp) h1 h2 hx hN he hr hdm hf
        refine ⟨a', w', ρ', ?_, q2, q3, ?_, q6⟩
        · refine Steps.head stepR_region ?_
          rw [List.range_eq_range', ← Array.length_toList]; exact q1
        · rw [q4, q5]; exact hm.mono (q6.le hf)
      | true =>
        simp only [if_true] at h2
        obtain ⟨a', w', ρ', q1, q2, q3, q4, q5, q6⟩ := region_draw (P := P) (b := b) (k := k) (cs := cs) (id := id) hgr hcall hround h1 h2 hmix hx hN he hr hdm hf
        exact ⟨a', w', ρ', q1, q2, q3, by rw [q4, q5]; exact hm.mono (q6.le hf), q6⟩
    · simp [chkCode] at hc
  | seq c1 c2 ih1 ih2 =>
    intro rd s s' x h N code ρ a w b k cs todo hc ht hN hk hrd he hm hr hdm hf
    simp only [exec] at h
    rcases ht with rfl | ⟨body, rfl, rfl⟩
    case inr => simp [chkCode] at hc
    cases code <;> first | (simp [chkCode] at hc; done) | skip
    rename_i d1 d2
    simp only [chkCode, Bool.and_eq_true] at hc
    obtain ⟨h1, h2⟩ := hc
    split at h
    · rename_i s1 e1
      have g1 := exec_good hgr e1
      have g2 := exec_good hgr h
      have hn1 := g1.nle
      have hn2 := g2.nle
      obtain ⟨a1, w1, ρ1, q1, q2, q3, q4, q5⟩ := ih1 e1 (b := b) (k := .code d2 :: k) (cs := cs) h1 (.inl rfl) hN hk hrd he hm hr hdm (hf.mono (Nat.le_refl _) hn2)
      have hle := q5.le (hf.mono (Nat.le_refl _) hn2)
      obtain ⟨a2, w2, ρ2, y1, y2, y3, y4, y5⟩ := ih2 h (b := b) (k := k) (cs := cs) h2 (.inl rfl) (by rw [q3]; exact hN) hk (hrd.mono hle) q2 q4 q5.rel (hdm.good g1) (Fresh.later q5 hf)
      exact ⟨a2, w2, ρ2, Arr.of (Steps.head stepR_seq q1) y1, y2, by rw [y3, q3], y4, q5.trans y5⟩
    · rename_i hne
      obtain ⟨a1, w1, ρ1, q1, q2, q3, q4, q5⟩ := ih1 h (b := b) (k := .code d2 :: k) (cs := cs) h1 (.inl rfl) hN hk hrd he hm hr hdm hf
      refine ⟨a1, w1, ρ1, ?_, q2, q3, q4, q5⟩
      cases x with
      | normal => exact absurd h (hne _)
      | exit id => obtain ⟨k1, ek, st⟩ := q1; exact ⟨k1, ek, Steps.head stepR_seq st⟩
      | ret => obtain ⟨k1, st⟩ := q1; exact ⟨k1, Steps.head stepR_seq st⟩
  | cond c c1 c2 ih1 ih2 =>
    intro rd s s' x h N code ρ a w b k cs todo hc ht hN hk hrd he hm hr hdm hf
    simp only [exec] at h
    rcases ht with rfl | ⟨body, rfl, rfl⟩
    case inr => simp [chkCode] at hc
    cases code <;> first | (simp [chkCode] at hc; done) | skip
    rename_i d d1 d2
    simp only [chkCode, Bool.and_eq_true] at hc
    obtain ⟨⟨h0, h1⟩, h2⟩ := hc
    split at h
    · rename_i hv
      have hev := (chkOpd_sound he h0 hv).bool_inv
      obtain ⟨a1, w1, ρ1, q1, q2⟩ := ih1 h (b := b) (k := k) (cs := cs) h1 (.inl rfl) hN hk hrd he hm hr hdm hf
      have hst := stepR_cond (P := P) (b := b) (k := k) (cs := cs) (w := w) (x := d1) (y := d2) hev
      exact ⟨a1, w1, ρ1, Arr.of (.one hst) q1, q2⟩
    · rename_i hv
      have hev := (chkOpd_sound he h0 hv).bool_inv
      obtain ⟨a1, w1, ρ1, q1, q2⟩ := ih2 h (b := b) (k := k) (cs := cs) h2 (.inl rfl) hN hk hrd he hm hr hdm hf
      have hst := stepR_cond (P := P) (b := b) (k := k) (cs := cs) (w := w) (x := d1) (y := d2) hev
      exact ⟨a1, w1, ρ1, Arr.of (.one hst) q1, q2⟩
    · cases h
  | block id c ih =>
    intro rd s s' x h N code ρ a w b k cs todo hc ht hN hk hrd he hm hr hdm hf
    simp only [exec] at h
    rcases ht with rfl | ⟨body, rfl, rfl⟩
    case inr => simp [chkCode] at hc
    cases code <;> first | (simp [chkCode] at hc; done) | skip
    rename_i id' d
    simp only [chkCode, Bool.and_eq_true] at hc
    obtain ⟨h0, h1⟩ := hc
    have := eq_of_beq_nat h0; subst this
    split at h
    · rename_i i s1 e1
      split at h
      · rename_i hi
        cases h
        have := eq_of_beq_nat hi; subst this
        obtain ⟨a1, w1, ρ1, ⟨k1, ek, st⟩, q2⟩ := ih e1 (b := b) (k := .inBlock i :: k) (cs := cs) h1 (.inl rfl) hN hk hrd he hm hr hdm hf
        refine ⟨a1, w1, ρ1, Steps.head stepR_block (st.trans (.one (stepR_exit ?_))), q2⟩
        rw [ek]; simp [exitTo]
      · rename_i hi
        cases h
        obtain ⟨a1, w1, ρ1, ⟨k1, ek, st⟩, q2⟩ := ih e1 (b := b) (k := .inBlock id :: k) (cs := cs) h1 (.inl rfl) hN hk hrd he hm hr hdm hf
        refine ⟨a1, w1, ρ1, ⟨k1, ?_, Steps.head stepR_block st⟩, q2⟩
        rw [ek]
        have : ¬ id = i := fun e => by subst e; simp at hi
        simp [exitTo, this]
    · rename_i hne
      obtain ⟨a1, w1, ρ1, q1, q2⟩ := ih h (b := b) (k := .inBlock id :: k) (cs := cs) h1 (.inl rfl) hN hk hrd he hm hr hdm hf
      refine ⟨a1, w1, ρ1, ?_, q2⟩
      cases x with
      | normal => exact Steps.head stepR_block (Steps.trans q1 (.one stepR_inBlock))
      | exit id => exact absurd h (hne _ _)
      | ret => obtain ⟨k1, st⟩ := q1; exact ⟨k1, Steps.head stepR_block st⟩
  | loop c ih =>
    intro rd s s' x h N code ρ a w b k cs todo hc ht hN hk hrd he hm hr hdm hf
    simp only [exec] at h
    obtain ⟨body, rfl, hst⟩ : ∃ body, code = .loop body ∧ ∀ w, step P (lone (b.atR a todo) cs w) = .next (lone (b.atR a (.code body :: .inLoop body :: k)) cs w) := by
      rcases ht with rfl | ⟨body, rfl, rfl⟩
      · cases code <;> first | (simp [chkCode] at hc; done) | skip
        exact ⟨_, rfl, fun w => stepR_loop⟩
      · exact ⟨body, rfl, fun w => stepR_inLoop⟩
    have hc' : chkCode P N c body = true := by simpa [chkCode] using hc
    split at h
    · rename_i s1 e1
      have g1 := exec_good hgr e1
      have g2 := hgr.code h
      have hn1 := g1.nle
      have hn2 := g2.nle
      obtain ⟨a1, w1, ρ1, q1, q2, q3, q4, q5⟩ := ih e1 (b := b) (k := .inLoop body :: k) (cs := cs) hc' (.inl rfl) hN hk hrd he hm hr hdm (hf.mono (Nat.le_refl _) hn2)
      have hle := q5.le (hf.mono (Nat.le_refl _) hn2)
      obtain ⟨a2, w2, ρ2, y1, y2, y3, y4, y5⟩ := hcode h (b := b) (k := k) (cs := cs) hc (.inr ⟨body, rfl, rfl⟩) (by rw [q3]; exact hN) hk (hrd.mono hle) q2 q4 q5.rel (hdm.good g1) (Fresh.later q5 hf)
      exact ⟨a2, w2, ρ2, Arr.of (Steps.head (hst w) q1) y1, y2, by rw [y3, q3], y4, q5.trans y5⟩
    · rename_i hne
      obtain ⟨a1, w1, ρ1, q1, q2⟩ := ih h (b := b) (k := .inLoop body :: k) (cs := cs) hc' (.inl rfl) hN hk hrd he hm hr hdm hf
      refine ⟨a1, w1, ρ1, ?_, q2⟩
      cases x with
      | normal => exact absurd h (hne _)
      | exit id => obtain ⟨k1, ek, st⟩ := q1; exact ⟨k1, ek, Steps.head (hst w) st⟩
      | ret => obtain ⟨k1, st⟩ := q1; exact ⟨k1, Steps.head (hst w) st⟩
  | rangeFunc f params as bd _ _ =>
    intro rd s s' x h N code ρ a w b k cs todo hc ht hN hk hrd he hm hr hdm hf
    simp only [exec] at h
    rcases ht with rfl | ⟨body, rfl, rfl⟩
    case inr => simp [chkCode] at hc
    cases code <;> first | (simp [chkCode] at hc; done) | skip
    rename_i g qs x0 y0
    simp only [chkCode, Bool.and_eq_true] at hc
    obtain ⟨⟨⟨c1, c2⟩, c3⟩, c4⟩ := hc
    split at h
    · cases h
    rename_i fv hfv
    split at h
    · cases h
    rename_i hth
    have hth : loopThere rd s.h = true := by simpa using hth
    split at h
    case h_2 => cases h
    rename_i rv h1 n1 hcg
    have gg := callG_good hgr hcg
    have hnn := gg.nle
    split at h
    case h_3 => cases h
    · cases h
    rename_i st p e ps as2 bd2 hnb hg
    cases h
    simp only at hf
    obtain ⟨l, mark, w1, ρ1, sl, q1, q2, q3, q4, q5, q6⟩ := enter_sound (P := P) (b := b) c2 c3 c4 hN hrd hth he hm hr hdm (hf.mono (Nat.le_refl _) hnn)
    subst q4
    have hle1 := q2.le (hf.mono (Nat.le_refl _) hnn)
    have hfr := (chkOpd_sound he c1 hfv)
    unfold callG at hcg
    split at hcg
    case h_2 => cases hcg
    rename_i gf fs cs0
    generalize hE : a.eval g = E at hfr
    cases hfr with
    | @func gf _ fs' _ cs' hfz hff hsz hh =>
      obtain ⟨hgf, hsim⟩ := hcall hcg
      have hl : LR ρ1 (fs.toList ++ [.func (.yield (enterSt rd s).n) #[] #[]] ++ cs0.toList) (fs' ++ #[Value.func (.yield sl.b) #[] #[]] ++ cs').toList := by
        rw [Array.toList_append, Array.toList_append]
        refine LR.append (LR.append (LR.of_get (by simpa using hfz) fun j v0 hj => by
          obtain ⟨v', h1, h2⟩ := (AR.toList ⟨hfz, hff⟩).get j v0 hj
          exact ⟨v', h1, h2.mono hle1⟩) (.cons (.yield q3) .nil)) ?_
        exact LR.of_get (by simpa using hsz) fun j v0 hj => by
          obtain ⟨v', h1, h2⟩ := (AR.toList ⟨hsz, hh⟩).get j v0 hj
          exact ⟨v', h1, h2.mono hle1⟩
      obtain ⟨w2, ρ2, v', fr, z1, z2, z3, z4, z5⟩ := hsim hl q2.rel q6 (Fresh.later q2 hf) (b.atR { a with defers := mark ++ a.defers } (.inRangeFunc sl.b :: k) :: cs)
      have hle2 := z5.le (Fresh.later q2 hf)
      have hsl2 := hle2 _ _ q3
      have hres : (resolve a.eval (rangeCall g sl.b) 0).run P w1 = .ok { target := .fn (.func gf) cs', args := fs' ++ #[Value.func (.yield sl.b) #[] #[]] } w1 := by
        have hy : a.eval (.const (.func (.yield sl.b) #[] #[])) = Value.func (.yield sl.b) #[] #[] := rfl
        simp only [resolve, rangeCall, hE, Deferred.ofValue, List.map_toArray, List.map_cons, List.map_nil, hy]
        rfl
      have hinv : (invoke (.fn (.func gf) cs') (fs' ++ #[Value.func (.yield sl.b) #[] #[]])).run P w1 = .ok (.enter gf (fs' ++ #[Value.func (.yield sl.b) #[] #[]] ++ cs')) w1 := by
        unfold goFunc at hgf
        split at hgf
        · rename_i fn hfun
          simp only [Bool.and_eq_true] at hgf
          have h1 : (fn.name == "runtime.NumGoroutine") = false := by simpa using hgf.1
          have h2 : fn.body.isNone = false := by cases hb : fn.body <;> simp [hb] at hgf ⊢
          simp only [invoke, callFunc, Sem.run_bind, run_program, Result.andThen_ok, hfun]
          simp [h1, h2]
        · cases hgf
      have hstep := stepR_rangeFunc (P := P) (b := b) (a := a) (k := k) (cs := cs) (w := w) (g := g) (ps := qs) (assign := x0) (body := y0) q1 hres hinv
      obtain ⟨lo2, d1, d2, d3, d4, ⟨N2, d5, d6, d7, d8⟩, d9⟩ := loop_block z5.rel hsl2 hg
      have hend := run_endLoop (P := P) d1 (by rw [d2]; cases st <;> simp [stateOf] at hnb ⊢)
      have x3 : X P ρ2 h1.get n1 w2 ρ2 (h1.set (enterSt rd s).n (some (.loop .exhausted p e ps as2 bd2))).get n1 { w2 with heap := w2.heap.setIfInBounds sl.b (.loop { lo2 with state := .exhausted }) } := by
        have := Ext.setLoop (P := P) (n := n1) (st2 := .exhausted) (pend2 := p) z5.rel hsl2 hg d1
        rw [← d3] at this
        exact this
      have hgo : Steps P (lone (b.atR a (.code (.rangeFunc g qs x0 y0) :: k)) cs w) (lone (b.atR { a with defers := mark ++ a.defers } ((lo2.pending.map Item.code).toList ++ k)) cs { w2 with heap := w2.heap.setIfInBounds sl.b (.loop { lo2 with state := .exhausted }) }) := by
        refine Steps.head hstep (z1.trans (Steps.head (step_leave_returned z3) ?_))
        rw [finish_atR_inRangeFunc]
        exact .one (stepR_endRangeFunc hend)
      generalize hw3 : ({ w2 with heap := w2.heap.setIfInBounds sl.b (.loop { lo2 with state := .exhausted }) } : World) = w3 at hgo x3
      refine ⟨{ a with defers := mark ++ a.defers }, w3, ρ2, ?_, ((he.mono hle1).mono hle2), rfl, q5.mono hle2, (q2.trans z5).trans x3⟩
      rw [d3] at hgo
      cases p with
      | none => exact hgo
      | some j => cases j with
        | exit id => exact ⟨k, rfl, hgo⟩
        | ret => exact ⟨k, hgo⟩
end Go.Proofs.Ytbhgncfbljkdgaa.AI
