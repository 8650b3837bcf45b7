/-
  A region that draws its order, on the machine: one operation more.
-/
import Derived.Test.YtbhgncfbljkdgaaA18
namespace Go.Proofs.Ytbhgncfbljkdgaa.AI
open Go

variable {P : Program} {r : Rec} {as : List AOper} {t : Tra}

theorem tra_get {i : Nat} (h : i < as.length) : ∃ a, as[i]? = some a := ⟨as[i], by simp [h]⟩

theorem tra_good (hgr : GoodRec r) (ht : TraOf r as [] t) {i : Nat} (h : i < as.length) : Good (t.h i) (t.n i) (t.h (i + 1)) (t.n (i + 1)) := by
  obtain ⟨a, ha⟩ := tra_get h
  obtain ⟨q, h1, h2, h3⟩ := ht i a ha
  cases q with
  | false =>
    simp only [Bool.false_eq_true, if_false] at h3
    rw [h3.2.1, h3.2.2.1]; exact Good.refl _ _
  | true =>
    simp only [if_true] at h3
    split at h3
    · exact opx_good hgr h3.1
    · exact aop_good h3.1
    · exact aop_good h3.2.1
    · exact aop_good h3.1
    · obtain ⟨h0, e1, e2, e3, e4, e5⟩ := h3
      rw [e3]; exact Good.on (fun id hid => topIds_lt hid) (opx_good hgr e1)
    · obtain ⟨h0, e1, e2, e3, e4, e5⟩ := h3
      rw [e4]; exact Good.roc (opx_good hgr e1) e3
    · obtain ⟨h0, e1, e2, e3, e4, e5⟩ := h3
      rw [e3]; exact Good.rwc (opx_good hgr e1)

theorem tra_nmono (hgr : GoodRec r) (ht : TraOf r as [] t) {i : Nat} : ∀ {j : Nat}, i ≤ j → j ≤ as.length → t.n i ≤ t.n j := by
  intro j hij
  induction hij with
  | refl => intro _; exact Nat.le_refl _
  | @step j hij ih =>
    intro hj
    have := ih (by omega)
    have := (tra_good hgr ht (i := j) (by omega)).nle
    simp only [Nat.succ_eq_add_one]; omega

theorem tra_dom (hgr : GoodRec r) (ht : TraOf r as [] t) (hd : Dom (t.h 0) (t.n 0)) : ∀ {j : Nat}, j ≤ as.length → Dom (t.h j) (t.n j)
  | 0, _ => hd
  | j + 1, hj => (tra_dom hgr ht hd (j := j) (by omega)).good (tra_good hgr ht (by omega))

theorem opx_pure {e : Env} {h h' : Heap} {n n' : Nat} {op : AOp} {v : Value} (hk : pureKind op = true) (hx : opx r e h n op = some (v, h', n')) : aop e h n op = some (v, h', n') := by
  cases op <;> first | (simp [pureKind] at hk; done) | (simp only [opx] at hx; exact hx)

/-- an object that is not there and whose id has gone by does not come -/
theorem tra_none (hgr : GoodRec r) (ht : TraOf r as [] t) {i id : Nat} (hid : id < t.n i) (hn : (t.h i).get id = none) : ∀ {j : Nat}, i ≤ j → j ≤ as.length → (t.h j).get id = none := by
  intro j hij
  induction hij with
  | refl => intro _; exact hn
  | @step j hij ih =>
    intro hj
    have ih := ih (by omega)
    have hij' : i ≤ j := hij
    have hm := tra_nmono hgr ht (i := i) (j := j) hij' (by omega)
    have hg := tra_good hgr ht (i := j) (by omega)
    simp only [Nat.succ_eq_add_one]
    cases hx : (t.h (j + 1)).get id with
    | none => rfl
    | some o =>
      rcases hg.dom id o hx with ⟨o', e⟩ | h
      · rw [ih] at e; cases e
      · omega

/-- where nobody changes an object it stays -/
theorem tra_same {id i : Nat} : ∀ {j : Nat}, i ≤ j → (∀ k, i ≤ k → k < j → ¬ Wr t k id) → (t.h j).get id = (t.h i).get id := by
  intro j hij
  induction hij with
  | refl => intro _; rfl
  | @step j hij ih =>
    intro hw
    have h1 : ¬ Wr t j id := hw j hij (by omega)
    have h2 : (t.h (j + 1)).get id = (t.h j).get id := by
      unfold Wr at h1
      exact Classical.byContradiction h1
    simp only [Nat.succ_eq_add_one]
    rw [h2]; exact ih fun k a b => hw k a (by omega)

/-- what a variable holds ahead of an operation in the order of the text -/
theorem tra_env (ht : TraOf r as [] t) (hdist : ∀ (i j : Nat) (a b : AOper) (d : Nat), as[i]? = some a → as[j]? = some b → i < j → a.dst = some d → b.dst ≠ some d) (d : Nat) : ∀ (j : Nat), j ≤ as.length →
    (∃ (i : Nat) (a : AOper), i < j ∧ as[i]? = some a ∧ a.dst = some d ∧ (t.e j).get d = some (t.v i)) ∨ ((∀ (i : Nat) (a : AOper), i < j → as[i]? = some a → a.dst ≠ some d) ∧ (t.e j).get d = (t.e 0).get d)
  | 0, _ => .inr ⟨fun i a h => by omega, rfl⟩
  | j + 1, hj => by
    obtain ⟨a, ha⟩ := tra_get (as := as) (i := j) (by omega)
    obtain ⟨q, h1, h2, h3⟩ := ht j a ha
    rw [h2]
    by_cases hd : a.dst = some d
    · exact .inl ⟨j, a, by omega, ha, hd, by simp [putDst, hd, Env.get]⟩
    · have hget : (putDst (t.e j) a.dst (t.v j)).get d = (t.e j).get d := by
        cases hx : a.dst with
        | none => rfl
        | some x =>
          have : Nat.beq x d = false := Bool.eq_false_iff.2 fun e => hd (by rw [hx, eq_of_beq_nat e])
          simp [putDst, Env.get, this]
      rw [hget]
      rcases tra_env ht hdist d j (by omega) with ⟨i, b, g1, g2, g3, g4⟩ | ⟨g1, g2⟩
      · exact .inl ⟨i, b, by omega, g2, g3, g4⟩
      · refine .inr ⟨fun i b hi hb => ?_, g2⟩
        by_cases hij : i = j
        · subst hij; rw [ha] at hb; cases hb; exact hd
        · exact g1 i b (by omega) hb

theorem dstIn_of {a : AOper} {d : Nat} {l : List Nat} (h : a.dst = some d) (hl : d ∈ l) : dstIn a l = true := by
  unfold dstIn
  rw [h]
  exact List.any_eq_true.2 ⟨d, hl, by simp⟩

theorem Ext.widen {C : Stands} {ρ0 ρ ρ' : Ren} {g0 g g' : Nat → Option AObj} {n0 a b N : Nat} {w0 w w' : World} (h : Ext C ρ0 g0 n0 w0 ρ g N w) (k : Ext C ρ g a w ρ' g' b w') (h1 : n0 ≤ a) (h2 : b ≤ N) : Ext C ρ0 g0 n0 w0 ρ' g' N w' where
  rel := k.rel
  ren := fun id hid => by rw [k.ren id (by omega), h.ren id hid]
  nle := h.nle
  size := Nat.le_trans h.size k.size
  frame := fun x hx ho => by
    rw [k.frame x (Nat.lt_of_lt_of_le hx h.size) fun o => (h.own x o).elim ho fun hle => by omega]
    exact h.frame x hx ho
  own := fun x o => (k.own x o).elim (fun o => h.own x o) fun hle => .inr (Nat.le_trans h.size hle)
  dom := fun id o e => by
    rcases k.dom id o e with ⟨o', e'⟩ | hr
    · exact h.dom id o' e'
    · exact .inr (by omega)
  os := k.os.trans h.os
  output := k.output.trans h.output
  tape := k.tape.trans h.tape

/-- the hypotheses of a drawn region -/
structure Drawn (P : Program) (r : Rec) (N : Nat) (ops : Array Oper) (as : List AOper) (t : Tra) : Prop where
  gr : GoodRec r
  call : SimCall P r
  round : SimRound P r
  tra : TraOf r as [] t
  draw : chkDraw ops.toList as = true
  opers : ∀ (i : Nat) (o : Oper), ops[i]? = some o → ∃ a, as[i]? = some a ∧ chkOper P N ops.toList o a = true
  len : as.length = ops.size
  dom : Dom (t.h 0) (t.n 0)

theorem Drawn.lk {N : Nat} {ops : Array Oper} (D : Drawn P r N ops as t) : as.all kindOK = true := by
  have := D.draw
  simp only [chkDraw, Bool.and_eq_true] at this
  exact this.1.1.1

theorem Drawn.dist {N : Nat} {ops : Array Oper} (D : Drawn P r N ops as t) : ∀ (i j : Nat) (a b : AOper) (d : Nat), as[i]? = some a → as[j]? = some b → i < j → a.dst = some d → b.dst ≠ some d := by
  intro i j a b d ha hb hij had hbd
  have := pair_of D.draw hij ha hb
  simp only [pairOK, had, hbd, Bool.and_eq_true] at this
  have := this.1
  simp at this

/-- what an operation looks at is there -/
theorem looks_there {N : Nat} {ops : Array Oper} (D : Drawn P r N ops as t) {ρ0 ρ : Ren} {g0 : Nat → Option AObj} {w0 w : World} {S : Nat → Bool} {K : Nat → Option AObj} {a : Act} (I : Inv P as t ρ0 g0 w0 S K ρ w a) (hcl : Closed ops.toList S)
    {j : Nat} {o : Oper} {ao : AOper} (ho : ops[j]? = some o) (hao : as[j]? = some ao) (hj : S j = false) (hr : ∀ e ∈ o.after, Region.binds .any e = true → S e.on = true) :
    EnvR ρ ((t.e j).keep (looks ao)) a.tmps := by
  have hjl : j < as.length := by rw [List.getElem?_eq_some_iff] at hao; exact hao.1
  have ho' : ops.toList[j]? = some o := by simpa using ho
  intro d v hv
  rw [keep_get] at hv
  split at hv
  · rename_i hd
    rcases tra_env D.tra D.dist d j (by omega) with ⟨i, b, hi, hb, hbd, hval⟩ | ⟨hno, hval⟩
    · have hp := pair_of D.draw hi hb hao
      have hanc : ((masks ops.toList []).getD j 0).testBit i = true := by
        cases hx : ((masks ops.toList []).getD j 0).testBit i with
        | true => rfl
        | false =>
          rw [hx] at hp
          simp only [pairOK, Bool.false_or, Bool.and_eq_true] at hp
          have := hp.2.1.1.1.1
          rw [dstIn_of hbd hd] at this
          cases this
      have hSi := anc_ready hcl ho' hanc hr (by omega)
      obtain ⟨v', h1, h2⟩ := I.e1 i b d hb hSi hbd
      rw [hval] at hv; cases hv
      exact ⟨v', h1, h2⟩
    · rw [hval] at hv
      refine I.e2 d v (fun i x hx hSi hxd => ?_) hv
      have hij : i ≠ j := fun e => by subst e; rw [hSi] at hj; cases hj
      by_cases hlt : i < j
      · exact hno i x hlt hx hxd
      · have hp := pair_of D.draw (i := j) (j := i) (by omega) hao hx
        have hil : i < ops.toList.length := by
          rw [List.getElem?_eq_some_iff] at hx
          have := hx.1; rw [D.len] at this; simpa using this
        cases hxx : ((masks ops.toList []).getD i 0).testBit j with
        | true => rw [anc_closed hcl hil hxx hSi] at hj; cases hj
        | false =>
          rw [hxx] at hp
          simp only [pairOK, Bool.false_or, Bool.and_eq_true] at hp
          have := hp.2.1.1.1.2
          rw [dstIn_of hxd hd] at this
          cases this
  · cases hv

theorem looks_opds {ao : AOper} {e : Env} : ∀ x ∈ opds ao.op, ev e x = ev (e.keep (looks ao)) x := by
  intro x hx
  cases x with
  | tmp d =>
    simp only [ev]
    rw [keep_get, if_pos]
    exact List.mem_append.2 (.inl (List.mem_flatMap.2 ⟨_, hx, by simp [tmpOf]⟩))
  | const v => rfl
  | fn f => rfl

theorem looks_guard {ao : AOper} {e : Env} : guardV e ao.guard = guardV (e.keep (looks ao)) ao.guard := by
  cases hg : ao.guard with
  | none => rfl
  | some tb =>
    obtain ⟨d, b⟩ := tb
    simp only [guardV]
    rw [keep_get, if_pos]
    exact List.mem_append.2 (.inr (by rw [hg]; simp))
end Go.Proofs.Ytbhgncfbljkdgaa.AI
