/-
  A region that draws its order, on the machine: operations that no order ties do not meet; one operation more; all of them.
-/
import Derived.Test.YtbhgncfbljkdgaaA20
namespace Go.Proofs.Ytbhgncfbljkdgaa.AI
open Go

variable {P : Program} {r : Rec} {as : List AOper} {t : Tra} {N : Nat} {ops : Array Oper} {b : Frame} {k : List Item} {cs : List Frame}

theorem foot_hi {fs : List Foot} {a : AOper} {e e' : Env} {h h' : Heap} {n n' : Nat} {v : Value} {f : Foot} (st : StepAt r fs a e h n v e' h' n' f) : f.hi ≤ n' := by
  obtain ⟨q, h1, h2, h3⟩ := st
  cases q with
  | false => simp only [Bool.false_eq_true, if_false] at h3; rw [h3.2.2.2]; exact Nat.zero_le _
  | true =>
    simp only [if_true] at h3
    split at h3
    · rw [h3.2]; exact Nat.le_refl _
    · rw [h3.2]; exact Nat.zero_le _
    · rw [h3.2.2]; exact Nat.zero_le _
    · rw [h3.2]; exact Nat.le_refl _
    · obtain ⟨_, _, _, _, e, _⟩ := h3; rw [e]; exact Nat.le_refl _
    · obtain ⟨_, _, _, _, _, e⟩ := h3; rw [e]; exact Nat.le_refl _
    · obtain ⟨_, _, _, _, e, _⟩ := h3; rw [e]; exact Nat.le_refl _

/-- what is known of an operation of the run -/
theorem Drawn.did (D : Drawn P r N ops as t) {i : Nat} {a : AOper} (ha : as[i]? = some a) :
    (guardV (t.e i) a.guard = some false ∧ t.v i = undefV ∧ t.h (i + 1) = t.h i ∧ t.n (i + 1) = t.n i ∧ t.f i = Foot.nil) ∨ (guardV (t.e i) a.guard = some true ∧ Did r (fsAt [] t.f i) a (t.e i) (t.h i) (t.n i) (t.v i) (t.h (i + 1)) (t.n (i + 1)) (t.f i)) := by
  have hi : i < as.length := by rw [List.getElem?_eq_some_iff] at ha; exact ha.1
  refine step_facts D.gr (tra_dom D.gr D.tra D.dom (by omega)) (fun f hf => ?_) (List.all_eq_true.1 D.lk a (List.mem_of_getElem? ha)) (D.tra i a ha)
  obtain ⟨d, hd⟩ := List.mem_iff_getElem?.1 hf
  obtain ⟨h1, h2⟩ := fsAt_get t.f i d f hd
  subst h2
  obtain ⟨x, hx⟩ := tra_get (as := as) (i := i - 1 - d) (by omega)
  exact Nat.le_trans (foot_hi (D.tra _ x hx)) (tra_nmono D.gr D.tra (by omega) (by omega))

/-- what an operation changes -/
theorem Drawn.wr (D : Drawn P r N ops as t) {i id : Nat} {a : AOper} (ha : as[i]? = some a) (hw : Wr t i id) : (t.n i ≤ id ∧ id < t.n (i + 1)) ∨ ((t.f i).ro = false ∧ Ft (t.f i) (t.n i) id = true) := by
  rcases D.did ha with ⟨_, _, h, _, _⟩ | ⟨_, d⟩
  · exact absurd (by rw [h]) hw
  · obtain ⟨H, H1, h1, h2, h3⟩ := d.form
    by_cases hr : t.n i ≤ id ∧ id < t.n (i + 1)
    · exact .inl hr
    · refine .inr ?_
      cases hF : Ft (t.f i) (t.n i) id with
      | false =>
        exact absurd (by rw [h3 id, if_neg (by rw [hF]; simp; omega)]) hw
      | true =>
        refine ⟨?_, rfl⟩
        cases hro : (t.f i).ro with
        | false => rfl
        | true => exact absurd (d.ro hro id (Ft_lt hF)) hw

theorem Drawn.lohi (D : Drawn P r N ops as t) {i : Nat} {a : AOper} (ha : as[i]? = some a) (hlt : t.n i < t.n (i + 1)) : (t.f i).lo = t.n i ∧ (t.f i).hi = t.n (i + 1) := by
  rcases D.did ha with ⟨_, _, _, h, _⟩ | ⟨_, d⟩
  · omega
  · exact d.lo hlt

theorem Drawn.quiet (D : Drawn P r N ops as t) {i : Nat} {a : AOper} (ha : as[i]? = some a) : (touches a = false → ∀ id, Ft (t.f i) (t.n i) id = false) ∧ (mayMake a = false → t.n (i + 1) = t.n i) ∧ (changes a = false → (t.f i).ro = true) := by
  rcases D.did ha with ⟨_, _, _, h, h2⟩ | ⟨_, d⟩
  · rw [h2]; exact ⟨fun _ => Ft_nil _, fun _ => h, fun _ => rfl⟩
  · exact ⟨d.tch, d.mmk, d.chg⟩

theorem scalBeq_eq {v w : Value} (h : scalBeq v w = true) : v = w := by
  unfold scalBeq at h
  split at h
  all_goals first
    | (cases h; done)
    | rfl
    | ((try simp only [Bool.and_eq_true, beq_iff_eq, decide_eq_true_eq] at h)
       first
        | (subst h; rfl)
        | (obtain ⟨h1, h2⟩ := h; subst h1; subst h2; rfl)
        | (have := eq_of_beq_nat h; subst this; rfl)
        | (obtain ⟨h1, h2⟩ := h; have h1 := eq_of_beq_nat h1; have h2 := eq_of_beq_nat h2; subst h1; subst h2; rfl)
        | (obtain ⟨⟨⟨h1, h2⟩, h3⟩, h4⟩ := h; have h1 := eq_of_beq_nat h1; have h2 := eq_of_beq_nat h2; have h3 := eq_of_beq_nat h3; have h4 := eq_of_beq_nat h4; subst h1; subst h2; subst h3; subst h4; rfl))

theorem scalsBeq_eq : ∀ {l m : List Value}, scalsBeq l m = true → l = m
  | [], [], _ => rfl
  | [], _ :: _, h => by simp [scalsBeq] at h
  | _ :: _, [], h => by simp [scalsBeq] at h
  | x :: xs, y :: ys, h => by
    simp only [scalsBeq, Bool.and_eq_true] at h
    rw [scalBeq_eq h.1, scalsBeq_eq h.2]

theorem valBeq_eq {v w : Value} (h : valBeq v w = true) : v = w := by
  unfold valBeq at h
  split at h
  · have := scalsBeq_eq h; rw [Array.toList_inj] at this; rw [this]
  · have := scalsBeq_eq h; rw [Array.toList_inj] at this; rw [this]
  · exact scalBeq_eq h

/-- a reading reads the same behind another operation -/
def Again (t : Tra) (i j : Nat) : Prop := ∀ op v, (t.f i).rdop = some (op, v) → ∃ h2 n2, aop [] (t.h (j + 1)) (t.n (j + 1)) op = some (v, h2, n2)

/-- operations that no order ties do not meet -/
theorem Drawn.apart (D : Drawn P r N ops as t) {i j : Nat} {a b : AOper} (hij : i < j) (ha : as[i]? = some a) (hb : as[j]? = some b) (hn : ((masks ops.toList []).getD j 0).testBit i = false) :
    (∀ id, Wr t i id → Ft (t.f j) (t.n j) id = false) ∧ ((∀ id, Wr t j id → Ft (t.f i) (t.n i) id = false) ∨ (isRd a = true ∧ Again t i j)) ∧ (∀ id, t.n i ≤ id → id < t.n (i + 1) → Ft (t.f j) (t.n j) id = false) := by
  have hjl : j < as.length := by rw [List.getElem?_eq_some_iff] at hb; exact hb.1
  have hp := pair_of D.draw hij ha hb
  rw [hn] at hp
  simp only [pairOK, Bool.false_or, Bool.and_eq_true] at hp
  have hdyn := hp.2.2
  have hsq := hp.2.1.2
  obtain ⟨qa1, qa2, qa3⟩ := D.quiet ha
  obtain ⟨qb1, qb2, qb3⟩ := D.quiet hb
  have hnij : t.n i ≤ t.n j := tra_nmono D.gr D.tra (by omega) (by omega)
  -- an operation that is read-only changes but what it makes
  have wr_a : (t.f i).ro = true → t.n (i + 1) = t.n i → ∀ id, ¬ Wr t i id := fun h1 h2 id hw => by
    rcases D.wr ha hw with h | h
    · omega
    · rw [h1] at h; exact absurd h.1 (by simp)
  have wr_b : (t.f j).ro = true → ∀ id, Wr t j id → Ft (t.f i) (t.n i) id = false := fun h1 id hw => by
    rcases D.wr hb hw with h | h
    · cases hx : Ft (t.f i) (t.n i) id with
      | false => rfl
      | true => have := Ft_lt hx; omega
    · rw [h1] at h; exact absurd h.1 (by simp)
  have chg_tch : ∀ x : AOper, touches x = false → changes x = false := fun x h => by
    unfold touches at h; unfold changes
    cases hc : x.cls <;> rw [hc] at h <;> simp at h ⊢
  cases hnd : needDyn a b with
  | false =>
    unfold needDyn at hnd
    simp only [Bool.or_eq_false_iff] at hnd
    obtain ⟨d1, d2⟩ := hnd
    cases htb : touches b with
    | false =>
      have hro := qb3 (chg_tch b htb)
      exact ⟨fun id _ => qb1 htb id, .inl (wr_b hro), fun id _ _ => qb1 htb id⟩
    | true =>
      rw [htb] at d1 d2
      have hma : mayMake a = false := by simpa using d1
      have hca : changes a = false := by
        unfold mayMake at hma; unfold changes
        cases hc : a.cls <;> rw [hc] at hma <;> simp at hma ⊢
      have hna := qa2 hma
      refine ⟨fun id hw => absurd hw (wr_a (qa3 hca) hna id), .inl ?_, fun id h1 h2 => by omega⟩
      cases hcb : changes b with
      | false => exact wr_b (qb3 hcb)
      | true =>
        rw [hcb] at d2
        have hta : touches a = false := by simpa using d2
        exact fun id _ => qa1 hta id
  | true =>
    have htb : touches b = true := by
      unfold needDyn at hnd
      cases h : touches b with
      | true => rfl
      | false => rw [h] at hnd; simp at hnd
    have hsb : isStill b = false := by
      cases h : isStill b with
      | false => rfl
      | true => unfold isStill at h; unfold touches at htb; cases hc : b.cls <;> rw [hc] at h htb <;> simp at h htb
    cases hsa : isStill a with
    | true =>
      have hc : a.cls = .still := by
        unfold isStill at hsa
        split at hsa
        · assumption
        · cases hsa
      have hta : touches a = false := by simp [touches, hc]
      have hma : mayMake a = false := by simp [mayMake, hc]
      have hca : changes a = false := by simp [changes, hc]
      exact ⟨fun id hw => absurd hw (wr_a (qa3 hca) (qa2 hma) id), .inl fun id _ => qa1 hta id, fun id h1 h2 => by have := qa2 hma; omega⟩
    | false =>
      rw [hsa, hsb, hnd] at hdyn
      simp only [Bool.or_self, Bool.not_true, Bool.false_or, Bool.or_eq_true, Bool.and_eq_true] at hdyn
      rcases hdyn with hdyn | ⟨⟨hrd, hrw⟩, hdyn⟩
      case inr =>
        obtain ⟨d, hdm, hde⟩ := List.any_eq_true.1 hdyn
        have := eq_of_beq_nat hde; subst this
        have hcl : a.cls = .rd := by unfold isRd at hrd; split at hrd <;> first | assumption | cases hrd
        have hma : mayMake a = false := by simp [mayMake, hcl]
        have hca : changes a = false := by simp [changes, hcl]
        refine ⟨fun id hw => absurd hw (wr_a (qa3 hca) (qa2 hma) id), ?_, fun id h1 h2 => by have := qa2 hma; omega⟩
        rcases D.did hb with ⟨_, _, e1, e2, e3⟩ | ⟨_, db⟩
        · exact .inl fun id hw => absurd (by rw [e1]) hw
        · refine .inr ⟨hrd, fun op v hop => ?_⟩
          have hre := List.all_eq_true.1 (db.chk hrw) _ hdm
          split at hre
          case h_2 => cases hre
          rename_i fi hfi
          obtain ⟨_, hfi2⟩ := fsAt_get t.f j _ fi hfi
          rw [show j - 1 - (j - 1 - i) = i by omega] at hfi2
          subst hfi2
          rw [hop] at hre
          simp only at hre
          split at hre
          · rename_i v' h2 n2 hv'
            have := valBeq_eq hre; subst this
            exact ⟨h2, n2, hv'⟩
          · cases hre
      obtain ⟨d, hdm, hde⟩ := List.any_eq_true.1 hdyn
      have := eq_of_beq_nat hde; subst this
      have hseqb : isSeq b.cls = false := by
        rw [hsa] at hsq
        simpa using hsq
      rcases D.did hb with ⟨_, _, e1, e2, e3⟩ | ⟨_, db⟩
      · refine ⟨fun id _ => by rw [e3]; exact Ft_nil _ _, .inl fun id hw => absurd (by rw [e1]) hw, fun id _ _ => by rw [e3]; exact Ft_nil _ _⟩
      · obtain ⟨xo, hpar0⟩ := db.par hseqb htb
        have hpar := List.all_eq_true.1 hpar0 _ hdm
        split at hpar
        case h_2 => cases hpar
        rename_i fi hfi
        obtain ⟨_, hfi2⟩ := fsAt_get t.f j _ fi hfi
        rw [show j - 1 - (j - 1 - i) = i by omega] at hfi2
        subst hfi2
        unfold footOK at hpar
        simp only [Bool.and_eq_true, Bool.or_eq_true] at hpar
        obtain ⟨p1, p2⟩ := hpar
        have C : ∀ id, t.n i ≤ id → id < t.n (i + 1) → Ft (t.f j) (t.n j) id = false := by
          intro id h1 h2
          obtain ⟨l1, l2⟩ := D.lohi ha (by omega)
          cases hx : Ft (t.f j) (t.n j) id with
          | false => rfl
          | true =>
            exfalso
            rcases p1 with p1 | p1
            · rw [Nat.ble_eq] at p1; omega
            · cases hall : (t.f j).all with
              | true =>
                rw [hall] at p1
                simp only [if_true] at p1
                obtain ⟨c, hc, hc2⟩ := List.any_eq_true.1 p1
                simp only [Bool.and_eq_true] at hc2
                have e1 := eq_of_beq_nat hc2.1
                have e2 := eq_of_beq_nat hc2.2
                have hin : inCuts (t.f j).cuts id = true := by
                  unfold inCuts
                  refine List.any_eq_true.2 ⟨c, hc, ?_⟩
                  simp only [Bool.and_eq_true, Nat.ble_eq]
                  exact ⟨by omega, by simp [Nat.blt, Nat.ble_eq]; omega⟩
                have := ((Ft_all hall).1 hx).2
                rw [hin] at this; cases this
              | false =>
                rw [hall] at p1
                simp only [Bool.false_eq_true, if_false] at p1
                have := List.all_eq_true.1 p1 id ((Ft_ids hall).1 hx).2
                simp only [Bool.or_eq_true, Nat.ble_eq] at this
                rcases this with h | h
                · simp [Nat.blt, Nat.ble_eq] at h; omega
                · omega
        -- what the one changes the other does not meet
        have meet : ((t.f i).ro = false ∨ (t.f j).ro = false) → ∀ id, ¬ (Ft (t.f i) (t.n i) id = true ∧ Ft (t.f j) (t.n j) id = true) := by
          rintro hro id ⟨hi, hj⟩
          rcases p2 with p2 | p2
          · rcases hro with h | h <;> rw [h] at p2 <;> simp at p2
          · cases hai : (t.f i).all with
            | false =>
              cases haj : (t.f j).all with
              | false =>
                rw [hai, haj] at p2
                have h1 := List.all_eq_true.1 p2 id ((Ft_ids hai).1 hi).2
                have h2 : (t.f j).ids.any (Nat.beq id) = true := List.any_eq_true.2 ⟨id, ((Ft_ids haj).1 hj).2, by simp⟩
                rw [h2] at h1; cases h1
              | true =>
                rw [hai, haj] at p2
                have h1 := List.all_eq_true.1 p2 id ((Ft_ids hai).1 hi).2
                have h2 := ((Ft_all haj).1 hj).2
                rw [h1] at h2; cases h2
            | true =>
              cases haj : (t.f j).all with
              | false =>
                rw [hai, haj] at p2
                have h1 := List.all_eq_true.1 p2 id ((Ft_ids haj).1 hj).2
                have h2 := ((Ft_all hai).1 hi).2
                rw [h1] at h2; cases h2
              | true => rw [hai, haj] at p2; cases p2
        refine ⟨fun id hw => ?_, .inl fun id hw => ?_, C⟩
        · rcases D.wr ha hw with h | h
          · exact C id h.1 h.2
          · cases hx : Ft (t.f j) (t.n j) id with
            | false => rfl
            | true => exact absurd ⟨h.2, hx⟩ (meet (.inl h.1) id)
        · rcases D.wr hb hw with h | h
          · cases hx : Ft (t.f i) (t.n i) id with
            | false => rfl
            | true => have := Ft_lt hx; omega
          · cases hx : Ft (t.f i) (t.n i) id with
            | false => rfl
            | true => exact absurd ⟨hx, h.2⟩ (meet (.inr h.1) id)

def rawIds (env : Env) (op : AOp) : List Nat := (opdsOf op).flatMap fun x => match ev env x with
  | some v => idsOf v
  | none => []

theorem idsOf_one (v : Value) : idsOf v = [] ∨ ∃ x, idsOf v = [x] := by
  unfold idsOf
  split
  · exact .inr ⟨_, rfl⟩
  · exact .inr ⟨_, rfl⟩
  · exact .inr ⟨_, rfl⟩
  · exact .inl rfl

theorem rd_raw {e : Env} {h h' : Heap} {n n' : Nat} {op : AOp} {v : Value} (hk : rdKind op = true) (ha : aop e h n op = some (v, h', n')) : rawIds e op = [] ∨ ∃ x, rawIds e op = [x] ∧ ∃ ob, h.get x = some ob := by
  have fromMap : ∀ {mv : Value} {es : List MapEntry} {c : Nat}, mapAt h mv = some (es, c) → idsOf mv = [] ∨ ∃ x, idsOf mv = [x] ∧ ∃ ob, h.get x = some ob := by
    intro mv es c hm
    unfold mapAt at hm
    split at hm
    · exact .inl rfl
    · rename_i j
      refine .inr ⟨j, rfl, ?_⟩
      cases hg : h.get j with
      | none => rw [hg] at hm; cases hm
      | some o => exact ⟨o, rfl⟩
    · cases hm
  cases op <;> first | (simp [rdKind] at hk; done) | skip
  case load g x =>
    simp only [aop] at ha
    split at ha
    · rename_i p hp
      simp only [Option.map_eq_some_iff] at ha
      obtain ⟨v0, e1, e2⟩ := ha
      simp only [rawIds, opdsOf, List.flatMap_cons, List.flatMap_nil, List.append_nil, hp]
      unfold loadAt at e1
      split at e1
      · rename_i id off
        refine .inr ⟨id, rfl, ?_⟩
        cases hg : h.get id with
        | none => rw [hg] at e1; cases e1
        | some o => exact ⟨o, rfl⟩
      · cases e1
    · cases ha
  case len k x =>
    cases k <;> first | (simp [rdKind] at hk; done) | skip
    cases hmv : ev e x with
    | none => simp only [aop, hmv] at ha; cases ha
    | some mv =>
      simp only [aop, hmv] at ha
      split at ha
      · rename_i es c hm
        simpa only [rawIds, opdsOf, List.flatMap_cons, List.flatMap_nil, List.append_nil, hmv] using fromMap hm
      · cases ha
  case lookup key zero ok m k =>
    simp only [aop] at ha
    split at ha
    · rename_i mv kv hmv hkv
      split at ha
      · rename_i es c hm
        simpa only [rawIds, opdsOf, List.flatMap_cons, List.flatMap_nil, List.append_nil, hmv] using fromMap hm
      · cases ha
    · cases ha

theorem rd_frame2 {e : Env} {h h' K : Heap} {n n' n2 : Nat} {op : AOp} {v : Value} (hk : rdKind op = true) (ha : aop e h n op = some (v, h', n')) (hK : ∀ id ∈ rawIds e op, K.get id = h.get id) : aop e K n2 op = some (v, K, n2) := by
  cases op <;> first | (simp [rdKind] at hk; done) | skip
  case load g x =>
    simp only [aop] at ha ⊢
    split at ha
    · rename_i p hp
      simp only [Option.map_eq_some_iff] at ha ⊢
      obtain ⟨v0, e1, e2⟩ := ha
      cases e2
      refine ⟨v, ?_, rfl⟩
      simp only [rawIds, opdsOf, List.flatMap_cons, List.flatMap_nil, List.append_nil, hp] at hK
      rw [loadAt_congr hK]
      exact e1
    · cases ha
  case len k x =>
    cases k <;> first | (simp [rdKind] at hk; done) | skip
    cases hmv : ev e x with
    | none => simp only [aop, hmv] at ha; cases ha
    | some mv =>
      simp only [rawIds, opdsOf, List.flatMap_cons, List.flatMap_nil, List.append_nil, hmv] at hK
      simp only [aop, hmv, mapAt_congr hK] at ha ⊢
      split at ha
      · rename_i es c hm
        cases ha
        rfl
      · cases ha
  case lookup key zero ok m k =>
    simp only [aop] at ha ⊢
    split at ha
    · rename_i mv kv hmv hkv
      simp only [rawIds, opdsOf, List.flatMap_cons, List.flatMap_nil, List.append_nil, hmv] at hK
      simp only [hmv, hkv, mapAt_congr hK] at ha ⊢
      split at ha
      · rename_i es c hm
        split at ha
        · cases ha
        · rename_i hko
          simp only [hko]
          split at ha
          · rename_i i hi
            split at ha
            · rename_i en hen
              cases ha
              simp [hi, hen]
            · cases ha
          · rename_i hi
            cases ha
            simp [hi]
          · cases ha
      · cases ha
    · cases ha

/-- a reading with its operands' values is that reading -/
theorem const_op {e : Env} {h h' K : Heap} {n n' n2 : Nat} {op : AOp} {v : Value} (hk : rdKind op = true) (ha : aop e h n op = some (v, h', n')) : aop e K n2 op = aop [] K n2 (constOp e op) := by
  cases op <;> first | (simp [rdKind] at hk; done) | skip
  case load g x =>
    cases hp : ev e x with
    | none => simp only [aop, hp] at ha; cases ha
    | some p => simp only [constOp, hp, aop]; rfl
  case len k x =>
    cases hp : ev e x with
    | none => cases k <;> simp only [aop, hp] at ha <;> cases ha
    | some p => simp only [constOp, hp, aop]; rfl
  case lookup key zero ok m k =>
    cases hp : ev e m with
    | none => simp only [aop, hp] at ha; cases ha
    | some p =>
      cases hq : ev e k with
      | none => simp only [aop, hp, hq] at ha; cases ha
      | some q => simp only [constOp, hp, hq, aop]; rfl

def mkH (K : Nat → Option AObj) : List Nat → Heap
  | [] => ⟨.leaf, 0⟩
  | i :: r => ⟨(mkH K r).t.put i (K i), 0⟩

theorem mkH_get (K : Nat → Option AObj) : ∀ (ids : List Nat) (id : Nat), (mkH K ids).get id = if id ∈ ids then K id else none
  | [], id => by simp [mkH, Heap.get, Tr.get]
  | i :: r, id => by
    show ((mkH K r).t.put i (K i)).get id = _
    rw [Tr.get_put]
    have ih := mkH_get K r id
    by_cases h1 : id = i
    · subst h1; simp
    · rw [if_neg h1]
      show (mkH K r).get id = _
      rw [ih]; simp [h1]

theorem last_wr {x j : Nat} : ∀ (m : Nat), j ≤ m → (∀ k, j ≤ k → k < m → ¬ Wr t k x) ∨ ∃ q, j ≤ q ∧ q < m ∧ Wr t q x ∧ ∀ k, q + 1 ≤ k → k < m → ¬ Wr t k x
  | 0, h => .inl fun k h1 h2 => by omega
  | m + 1, h => by
    by_cases hjm : j ≤ m
    · by_cases hw : Wr t m x
      · exact .inr ⟨m, hjm, by omega, hw, fun k h1 h2 => by omega⟩
      · rcases last_wr m hjm with h1 | ⟨q, q1, q2, q3, q4⟩
        · refine .inl fun k a b => ?_
          by_cases hk : k = m
          · subst hk; exact hw
          · exact h1 k a (by omega)
        · refine .inr ⟨q, q1, by omega, q3, fun k a b => ?_⟩
          by_cases hk : k = m
          · subst hk; exact hw
          · exact q4 k a (by omega)
    · exact .inl fun k a b => by omega

/-- one operation more -/
theorem draw_step (D : Drawn P r N ops as t) {ρ0 ρ : Ren} {g0 : Nat → Option AObj} {w0 w : World} {S : Nat → Bool} {K : Nat → Option AObj} {a : Act} (I : Inv P as t ρ0 g0 w0 S K ρ w a) (hcl : Closed ops.toList S) (hN : N ≤ a.tmps.size)
    {j : Nat} {o : Oper} {rest : List Nat} (ho : ops[j]? = some o) (hj : S j = false) (hrd : ∀ e ∈ o.after, Region.binds .any e = true → S e.on = true) :
    ∃ K' ρ' w' a', Steps P (lone (b.atR a (.inRegion ops (j :: rest) :: k)) cs w) (lone (b.atR a' (.inRegion ops rest :: k)) cs w') ∧ Inv P as t ρ0 g0 w0 (addS S j) K' ρ' w' a' ∧ a'.tmps.size = a.tmps.size ∧ a'.defers = a.defers := by
  classical
  obtain ⟨ao, hao, hco⟩ := D.opers j o ho
  simp only [chkOper, Bool.and_eq_true] at hco
  obtain ⟨⟨⟨c1, c2⟩, c3⟩, c4⟩ := hco
  have hdst := optNatBeq_eq c1
  have hjl : j < as.length := by rw [List.getElem?_eq_some_iff] at hao; exact hao.1
  have ho' : ops.toList[j]? = some o := by simpa using ho
  have hd : ∀ d, ao.dst = some d → d < a.tmps.size := fun d e => by
    rw [e] at c2
    simp [dstOK, Nat.blt, Nat.ble_eq] at c2
    omega
  have he := looks_there D I hcl ho hao hj hrd
  have hgood := tra_good D.gr D.tra hjl
  have hdomj := tra_dom D.gr D.tra D.dom (j := j) (by omega)
  have hn0j := tra_nmono D.gr D.tra (i := 0) (j := j) (by omega) (by omega)
  have hnjm := tra_nmono D.gr D.tra (i := j + 1) (j := as.length) (by omega) (Nat.le_refl _)
  have hfr := I.fresh j hjl hj
  rcases D.did hao with ⟨g1, g2, g3, g4, g5⟩ | ⟨g1, dd⟩
  · -- it is not wanted
    rw [looks_guard] at g1
    have hw := guard_sound c3 (fun d x hg v hv => he d v hv) g1
    obtain ⟨f1, f2, f3⟩ := inv_env D I hao hj hd (ρ' := ρ) (v' := undef) (by rw [g2]; exact undef_VR ρ) (Ren.le_refl ρ) (fun _ _ => rfl)
    rw [← hdst] at f2 f3
    refine ⟨K, ρ, w, a.put o.dst undef, oper_skip ho hw, ⟨fun id => ?_, f1, f2, f3, I.ext⟩, put_size _ _ _, put_defers _ _ _⟩
    obtain ⟨m, hm, k1, k2, k3⟩ := I.kk id
    refine ⟨m, hm, k1, fun i h1 h2 => addS_old (k2 i h1 h2), fun i h1 h2 h3 => ?_⟩
    have hij : i ≠ j := fun e => by subst e; exact h3 (by rw [g3])
    rw [addS_ne hij]; exact k3 i h1 h2 h3
  · rw [looks_guard] at g1
    have hw := guard_sound c3 (fun d x hg v hv => he d v hv) g1
    cases hrdj : isRd ao with
    | true =>
      obtain ⟨r1, r2, r3, r4, r5, r6, r7⟩ := dd.rd hrdj
      have hnw : ∀ id, ¬ Wr t j id := fun id h => h (by rw [r1])
      -- what is read
      have hG : ∃ G : Heap, (∃ nG h2 n2, aop (t.e j) G nG ao.op = some (t.v j, h2, n2)) ∧ ∀ id ∈ rawIds (t.e j) ao.op, K id = G.get id := by
        rcases rd_raw r4 r3 with hraw | ⟨x, hraw, ob, hob⟩
        · exact ⟨t.h j, ⟨_, _, _, r3⟩, fun id hid => by rw [hraw] at hid; cases hid⟩
        · have hxn : x < t.n j := hdomj x ob hob
          have hFx : Ft (t.f j) (t.n j) x = true := by
            rw [Ft_ids r6]
            exact ⟨hxn, by rw [r5]; unfold topIds; exact List.mem_filter.2 ⟨(by rw [hraw]; simp : x ∈ rawIds (t.e j) ao.op), by simp [Nat.blt, Nat.ble_eq]; omega⟩⟩
          obtain ⟨m, hm, k1, k2, k3⟩ := I.kk x
          have fromJ : K x = (t.h j).get x → ∃ G : Heap, (∃ nG h2 n2, aop (t.e j) G nG ao.op = some (t.v j, h2, n2)) ∧ ∀ id ∈ rawIds (t.e j) ao.op, K id = G.get id := fun h =>
            ⟨t.h j, ⟨_, _, _, r3⟩, fun id hid => by rw [hraw] at hid; simp at hid; subst hid; exact h⟩
          rcases Nat.lt_or_ge j m with hlt | hge
          · rcases last_wr (t := t) (x := x) (j := j) m (by omega) with hno | ⟨q, q1, q2, q3, q4⟩
            · exact fromJ (by rw [k1]; exact tra_same (by omega) hno)
            · have hqj : q ≠ j := fun e => by subst e; exact hnw x q3
              obtain ⟨aq, haq⟩ := tra_get (as := as) (i := q) (by omega)
              have hSq := k2 q q2 q3
              have hql : q < ops.toList.length := by have := D.len; simp; omega
              cases hx : ((masks ops.toList []).getD q 0).testBit j with
              | true => rw [anc_closed hcl hql hx hSq] at hj; cases hj
              | false =>
                obtain ⟨_, p2, _⟩ := D.apart (i := j) (j := q) (by omega) hao haq hx
                rcases p2 with p2 | ⟨_, p2⟩
                · rw [p2 x q3] at hFx; cases hFx
                · obtain ⟨h2, n2, hag⟩ := p2 _ _ r7
                  rw [← const_op r4 r3] at hag
                  refine ⟨t.h (q + 1), ⟨_, _, _, hag⟩, fun id hid => ?_⟩
                  rw [hraw] at hid; simp at hid; subst hid
                  rw [k1]
                  exact tra_same (by omega) q4
          · refine fromJ ?_
            rw [k1]
            refine (tra_same hge fun i h1 h2 hwr => ?_).symm
            obtain ⟨ai, hai⟩ := tra_get (as := as) (i := i) (by omega)
            cases hx : ((masks ops.toList []).getD j 0).testBit i with
            | true =>
              have := anc_ready hcl ho' hx hrd (by omega)
              rw [k3 i h1 (by omega) hwr] at this; cases this
            | false =>
              obtain ⟨q1, _, _⟩ := D.apart h2 hai hao hx
              rw [q1 x hwr] at hFx; cases hFx
      obtain ⟨G, ⟨nG, h2, n2, hag⟩, hKG⟩ := hG
      have hraw1 : ∀ id ∈ rawIds (t.e j) ao.op, id < t.n j := fun id hid => by
        rcases rd_raw r4 r3 with hraw | ⟨x, hraw, ob, hob⟩
        · rw [hraw] at hid; cases hid
        · rw [hraw] at hid; simp at hid; subst hid; exact hdomj _ ob hob
      have hHg : ∀ id, (mkH K (rawIds (t.e j) ao.op)).get id = if id ∈ rawIds (t.e j) ao.op then K id else none := mkH_get K _
      have hrun := rd_frame2 (K := mkH K (rawIds (t.e j) ao.op)) (n2 := t.n j) r4 hag (fun id hid => by rw [hHg, if_pos hid]; exact hKG id hid)
      have hrun := opx_of_aop (r := r) hrun
      rw [opx_congr looks_opds] at hrun
      have hsub : ∀ id ob, (mkH K (rawIds (t.e j) ao.op)).get id = some ob → id ∈ rawIds (t.e j) ao.op ∧ K id = some ob := by
        intro id ob e
        rw [hHg] at e
        split at e
        · rename_i hm; exact ⟨hm, e⟩
        · cases e
      have hrel : R P ρ (mkH K (rawIds (t.e j) ao.op)).get w := Rel.sub I.ext.rel fun id ob e => (hsub id ob e).2
      have hdH : Dom (mkH K (rawIds (t.e j) ao.op)) (t.n j) := fun id ob e => hraw1 id (hsub id ob e).1
      obtain ⟨v', w', ρ', y1, y2, y3⟩ := oper_run (P := P) (b := b) (k := k) (cs := cs) (rest := rest) D.call D.round ho hw c4 he hrel hdH (hfr.mono (Nat.le_refl _) (by rw [r2]; exact Nat.le_refl _)) hrun
      have hx : X P ρ K (t.n j) w ρ' K (t.n j) w' :=
        Ext.over (F := fun id => id ∈ rawIds (t.e j) ao.op) I.ext.rel ⟨fun id h1 h2 => by omega, hfr.2⟩ hsub y3 (fun id h => hraw1 id h) (fun id h => by
          have h := h.resolve_right (by omega)
          rw [hHg, if_pos h]) (fun _ _ => rfl) (fun _ _ e => .inr e)
      have hx : X P ρ K (t.n j) w ρ' K (t.n (j + 1)) w' := by rw [r2]; exact hx
      have hle := hx.le hfr
      obtain ⟨f1, f2, f3⟩ := inv_env D I hao hj hd y2 hle hx.ren
      rw [← hdst] at f2 f3
      refine ⟨K, ρ', w', a.put o.dst v', y1, ⟨fun id => ?_, f1, f2, f3, I.ext.widen hx hn0j hnjm⟩, put_size _ _ _, put_defers _ _ _⟩
      obtain ⟨m, hm, k1, k2, k3⟩ := I.kk id
      refine ⟨m, hm, k1, fun i h1 h2 => addS_old (k2 i h1 h2), fun i h1 h2 h3 => ?_⟩
      have hij : i ≠ j := fun e => by subst e; exact hnw id h3
      rw [addS_ne hij]; exact k3 i h1 h2 h3
    | false =>
    -- who else changes what this one meets: those ahead are done, those behind are not
    have others : ∀ i, i < as.length → i ≠ j → ∀ id, (Ft (t.f j) (t.n j) id = true ∨ (t.n j ≤ id ∧ id < t.n (j + 1))) → Wr t i id → (i < j ∧ S i = true) ∨ (j < i ∧ S i = false) := by
      intro i hi hne id hF hw
      obtain ⟨ai, hai⟩ := tra_get (as := as) hi
      rcases Nat.lt_or_ge i j with hlt | hge
      · refine .inl ⟨hlt, ?_⟩
        cases hx : ((masks ops.toList []).getD j 0).testBit i with
        | true => exact anc_ready hcl ho' hx hrd hne
        | false =>
          obtain ⟨q1, _, _⟩ := D.apart hlt hai hao hx
          rcases hF with hF | hF
          · rw [q1 id hw] at hF; cases hF
          · -- what is not yet made is not changed
            exfalso
            have h1 := tra_nmono D.gr D.tra (i := i + 1) (j := j) (by omega) (by omega)
            rcases D.wr hai hw with h | h
            · omega
            · have := Ft_lt h.2
              have h2 := tra_nmono D.gr D.tra (i := i) (j := j) (by omega) (by omega)
              omega
      · have hlt : j < i := by omega
        refine .inr ⟨hlt, ?_⟩
        have hil : i < ops.toList.length := by rw [D.len] at hi; simpa using hi
        cases hx : ((masks ops.toList []).getD i 0).testBit j with
        | true =>
          cases hS : S i with
          | false => rfl
          | true => rw [anc_closed hcl hil hx hS] at hj; cases hj
        | false =>
          exfalso
          obtain ⟨_, q2, q3⟩ := D.apart hlt hao hai hx
          have q2 := q2.resolve_right fun h => by rw [hrdj] at h; exact absurd h.1 (by simp)
          rcases hF with hF | hF
          · rw [q2 id hw] at hF; cases hF
          · have := q3 id hF.1 hF.2
            have h1 := tra_nmono D.gr D.tra (i := j + 1) (j := i) (by omega) (by omega)
            rcases D.wr hai hw with h | h
            · omega
            · rw [this] at h; exact absurd h.2 (by simp)
    have notj : ∀ i, i < as.length → S i = true → i ≠ j := fun i _ hs e => by subst e; rw [hs] at hj; cases hj
    -- what it meets is as in the text's order
    have same : ∀ id, Ft (t.f j) (t.n j) id = true → K id = (t.h j).get id := by
      intro id hF
      obtain ⟨m, hm, k1, k2, k3⟩ := I.kk id
      rw [k1]
      rcases Nat.lt_or_ge j m with hlt | hge
      · refine tra_same (by omega) fun i h1 h2 hw => ?_
        by_cases hij : i = j
        · subst hij; rw [k2 i h2 hw] at hj; cases hj
        · rcases others i (by omega) hij id (.inl hF) hw with h | h
          · omega
          · rw [k2 i h2 hw] at h; exact absurd h.2 (by simp)
      · refine (tra_same hge fun i h1 h2 hw => ?_).symm
        rcases others i (by omega) (by omega) id (.inl hF) hw with h | h
        · rw [k3 i h1 (by omega) hw] at h; exact absurd h.2 (by simp)
        · omega
    -- what it makes is not there
    have gone : ∀ id, t.n j ≤ id → id < t.n (j + 1) → K id = none := by
      intro id h1 h2
      have hnj : (t.h j).get id = none := by
        cases hg : (t.h j).get id with
        | none => rfl
        | some ob => have := hdomj id ob hg; omega
      obtain ⟨m, hm, k1, k2, k3⟩ := I.kk id
      rw [k1]
      rcases Nat.lt_or_ge j m with hlt | hge
      · have hnw : ¬ Wr t j id := fun hw => by rw [k2 j hlt hw] at hj; cases hj
        have hn1 : (t.h (j + 1)).get id = none := by
          have h3 : (t.h (j + 1)).get id = (t.h j).get id := by unfold Wr at hnw; exact Classical.byContradiction hnw
          rw [h3]; exact hnj
        exact tra_none D.gr D.tra (i := j + 1) h2 hn1 (by omega) hm
      · cases hg : (t.h m).get id with
        | none => rfl
        | some ob =>
          have := tra_dom D.gr D.tra D.dom (j := m) hm id ob hg
          have := tra_nmono D.gr D.tra (i := m) (j := j) hge (by omega)
          omega
    obtain ⟨H, H1, hH, hrun, hH1⟩ := dd.form
    rw [opx_congr looks_opds] at hrun
    have hsub : ∀ id ob, H.get id = some ob → Ft (t.f j) (t.n j) id = true ∧ K id = some ob := by
      intro id ob e
      rw [hH] at e
      split at e
      · rename_i hF; exact ⟨hF, by rw [same id hF]; exact e⟩
      · cases e
    have hrel : R P ρ H.get w := Rel.sub I.ext.rel fun id ob e => (hsub id ob e).2
    have hdH : Dom H (t.n j) := fun id ob e => Ft_lt (hsub id ob e).1
    obtain ⟨v', w', ρ', y1, y2, y3⟩ := oper_run (P := P) (b := b) (k := k) (cs := cs) (rest := rest) D.call D.round ho hw c4 he hrel hdH hfr hrun
    have gH := opx_good D.gr hrun
    have hx : X P ρ K (t.n j) w ρ' (fun id => if Ft (t.f j) (t.n j) id = true ∨ (t.n j ≤ id ∧ id < t.n (j + 1)) then H1.get id else K id) (t.n (j + 1)) w' :=
      Ext.over (F := fun id => Ft (t.f j) (t.n j) id = true) I.ext.rel hfr hsub y3 (fun id h => Ft_lt h) (fun id h => by simp only [h, if_true]) (fun id h => by simp only [h, if_false]) gH.rw
    have hle := hx.le hfr
    obtain ⟨f1, f2, f3⟩ := inv_env D I hao hj hd y2 hle hx.ren
    rw [← hdst] at f2 f3
    refine ⟨_, ρ', w', a.put o.dst v', y1, ⟨fun id => ?_, f1, f2, f3, I.ext.widen hx hn0j hnjm⟩, put_size _ _ _, put_defers _ _ _⟩
    by_cases hF : Ft (t.f j) (t.n j) id = true ∨ (t.n j ≤ id ∧ id < t.n (j + 1))
    · refine ⟨j + 1, by omega, ?_, fun i h1 h2 => ?_, fun i h1 h2 h3 => ?_⟩
      · simp only [hF, if_true]
        rw [hH1 id, if_pos hF]
      · by_cases hij : i = j
        · subst hij; exact addS_self _ _
        · rcases others i (by omega) hij id hF h2 with h | h
          · exact addS_old h.2
          · omega
      · rw [addS_ne (by omega)]
        rcases others i h2 (by omega) id hF h3 with h | h
        · omega
        · exact h.2
    · obtain ⟨m, hm, k1, k2, k3⟩ := I.kk id
      have hnw : ¬ Wr t j id := fun h => h (by rw [hH1 id, if_neg hF])
      refine ⟨m, hm, by simp only [hF, if_false]; exact k1, fun i h1 h2 => addS_old (k2 i h1 h2), fun i h1 h2 h3 => ?_⟩
      have hij : i ≠ j := fun e => by subst e; exact hnw h3
      rw [addS_ne hij]; exact k3 i h1 h2 h3

def setOf (l : Array Bool) : Nat → Bool := fun i => l.getD i false

theorem setOf_set {l : Array Bool} {j : Nat} (h : j < l.size) : setOf (l.setIfInBounds j true) = addS (setOf l) j := by
  funext i
  unfold setOf addS
  by_cases hij : i = j
  · subst hij; simp [h]
  · have : Nat.beq i j = false := Bool.eq_false_iff.2 fun e => hij (eq_of_beq_nat e)
    simp [this, Array.getElem?_setIfInBounds_ne (Ne.symm hij)]

theorem mem_ready' {l : Array Bool} {i : Nat} (h : i ∈ Region.ready .any ops l) : i < ops.size ∧ l.getD i true = false ∧ ∃ o, ops[i]? = some o ∧ ∀ e ∈ o.after, Region.binds .any e = true → l.getD e.on false = true := by
  unfold Region.ready at h
  simp only [List.mem_filter, List.mem_range, Bool.and_eq_true, Bool.not_eq_true'] at h
  obtain ⟨h1, h2, h3⟩ := h
  refine ⟨h1, h2, ops[i], by simp [h1], fun e he hb => ?_⟩
  simp only [h1, getElem?_pos, Option.map_some, Option.getD_some, Array.all_eq_true_iff_forall_mem] at h3
  have := h3 e he
  simp [hb] at this
  simpa using this

def cnt (l : Array Bool) (m : Nat) : Nat := ((List.range m).filter fun i => !l.getD i true).length

theorem cnt_set {l : Array Bool} {j m : Nat} (hm : m ≤ l.size) (hj : j < m) (hl : l.getD j true = false) : cnt (l.setIfInBounds j true) m + 1 = cnt l m := by
  unfold cnt
  have key : ∀ (xs : List Nat), xs.Nodup → (∀ x ∈ xs, x < l.size) → (xs.filter fun i => !(l.setIfInBounds j true).getD i true).length + (if j ∈ xs then 1 else 0) = (xs.filter fun i => !l.getD i true).length := by
    intro xs
    induction xs with
    | nil => intro _ _; simp
    | cons x xs ih =>
      intro hn hx
      have hn' := List.nodup_cons.1 hn
      have ih := ih hn'.2 fun y hy => hx y (by simp [hy])
      by_cases hxj : x = j
      · subst hxj
        have hxl := hx x (by simp)
        have h1 : (l.setIfInBounds x true).getD x true = true := by simp [hxl]
        rw [if_neg hn'.1] at ih
        simp only [List.filter_cons, h1, hl, Bool.not_true, Bool.not_false, Bool.false_eq_true, if_false, if_true, List.length_cons, List.mem_cons, true_or]
        omega
      · have h1 : (l.setIfInBounds j true).getD x true = l.getD x true := by
          simp [Array.getElem?_setIfInBounds_ne (Ne.symm hxj)]
        have hjx : (j ∈ x :: xs) ↔ j ∈ xs := by simp [show ¬ j = x from fun e => hxj e.symm]
        simp only [List.filter_cons, h1, hjx]
        split <;> (try simp only [List.length_cons]) <;> omega
  have := key (List.range m) List.nodup_range (fun x hx => by simp at hx; omega)
  rw [if_pos (by simpa using hj)] at this
  exact this

theorem cnt_zero {l : Array Bool} {m : Nat} (h : cnt l m = 0) {i : Nat} (hi : i < m) : l.getD i true = true := by
  unfold cnt at h
  have h := List.eq_nil_of_length_eq_zero h
  rw [List.filter_eq_nil_iff] at h
  have := h i (by simpa using hi)
  simpa using this

/-- as long as something is left, something can be carried out -/
theorem ready_some (D : Drawn P r N ops as t) {l : Array Bool} (hsz : l.size = ops.size) : ∀ (d i : Nat), i ≤ d → i < ops.size → l.getD i true = false → Region.ready .any ops l ≠ [] := by
  intro d
  induction d with
  | zero =>
    intro i hi him hl
    have hi0 : i = 0 := by omega
    subst hi0
    intro hnil
    have : (0 : Nat) ∈ Region.ready .any ops l := by
      unfold Region.ready
      simp only [List.mem_filter, List.mem_range, Bool.and_eq_true, Bool.not_eq_true']
      refine ⟨him, hl, ?_⟩
      have hd := D.draw
      simp only [chkDraw, Bool.and_eq_true, List.all_eq_true, List.mem_range] at hd
      have h0 := hd.1.2 0 (by simpa using him)
      have ho : ops.toList[0]? = some ops[0] := by simp [him]
      rw [ho] at h0
      simp only [him, getElem?_pos, Option.map_some, Option.getD_some, Array.all_eq_true_iff_forall_mem]
      intro e he
      have := List.all_eq_true.1 h0 e (by simpa using he)
      simp only [Bool.or_eq_true, Bool.not_eq_true'] at this ⊢
      rcases this with h | h
      · exact .inl h
      · simp [Nat.blt] at h
    rw [hnil] at this; cases this
  | succ d ih =>
    intro i hi him hl hnil
    -- is there one ahead of it?
    by_cases hex : ∃ i', i' < i ∧ l.getD i' true = false
    · obtain ⟨i', h1, h2⟩ := hex
      exact ih i' (by omega) (by omega) h2 hnil
    · have hall : ∀ i', i' < i → l.getD i' false = true := fun i' h1 => by
        have hlt : i' < l.size := by omega
        cases hx : l.getD i' true with
        | false => exact absurd ⟨i', h1, hx⟩ hex
        | true => simpa [hlt] using hx
      have : i ∈ Region.ready .any ops l := by
        unfold Region.ready
        simp only [List.mem_filter, List.mem_range, Bool.and_eq_true, Bool.not_eq_true']
        refine ⟨him, hl, ?_⟩
        have hd := D.draw
        simp only [chkDraw, Bool.and_eq_true, List.all_eq_true, List.mem_range] at hd
        have h0 := hd.1.2 i (by simpa using him)
        have ho : ops.toList[i]? = some ops[i] := by simp [him]
        rw [ho] at h0
        simp only [him, getElem?_pos, Option.map_some, Option.getD_some, Array.all_eq_true_iff_forall_mem]
        intro e he
        have := List.all_eq_true.1 h0 e (by simpa using he)
        simp only [Bool.or_eq_true, Bool.not_eq_true'] at this ⊢
        rcases this with h | h
        · exact .inl h
        · exact .inr (hall _ (by simp [Nat.blt, Nat.ble_eq] at h; omega))
      rw [hnil] at this; cases this

theorem draw_go (D : Drawn P r N ops as t) {ρ0 : Ren} {g0 : Nat → Option AObj} {w0 : World} : ∀ (fuel tape : Nat) (l : Array Bool) (K : Nat → Option AObj) (ρ : Ren) (w : World) (a : Act), l.size = ops.size → cnt l ops.size = fuel → Inv P as t ρ0 g0 w0 (setOf l) K ρ w a → Closed ops.toList (setOf l) → N ≤ a.tmps.size →
    ∃ ρ' w' a', Steps P (lone (b.atR a (.inRegion ops (Region.linearise.go .any ops fuel tape l []) :: k)) cs w) (lone (b.atR a' k) cs w') ∧ EnvR ρ' (t.e as.length) a'.tmps ∧ a'.tmps.size = a.tmps.size ∧ a'.defers = a.defers ∧ X P ρ0 g0 (t.n 0) w0 ρ' (t.h as.length).get (t.n as.length) w' := by
  intro fuel
  induction fuel with
  | zero =>
    intro tape l K ρ w a hsz hcnt I hcl hN
    have hall : ∀ i, i < as.length → setOf l i = true := fun i hi => by
      rw [D.len] at hi
      have h := cnt_zero hcnt hi
      have hlt : i < l.size := by omega
      unfold setOf
      simpa [hlt] using h
    have hK : K = (t.h as.length).get := funext fun id => by
      obtain ⟨m, hm, k1, k2, k3⟩ := I.kk id
      rw [k1]
      refine (tra_same hm fun i h1 h2 hw => ?_).symm
      have := k3 i h1 h2 hw
      rw [hall i h2] at this; cases this
    refine ⟨ρ, w, a, ?_, fun d v hv => ?_, rfl, rfl, hK ▸ I.ext⟩
    · simp only [Region.linearise.go, List.reverse_nil]
      exact .one stepR_region_end
    · rcases tra_env D.tra D.dist d as.length (Nat.le_refl _) with ⟨i, ai, hi, hai, hd, hval⟩ | ⟨hno, hval⟩
      · rw [hval] at hv; cases hv
        exact I.e1 i ai d hai (hall i hi) hd
      · rw [hval] at hv
        exact I.e2 d v (fun i x hx hs => hno i x (by rw [List.getElem?_eq_some_iff] at hx; exact hx.1) hx) hv
  | succ fuel ih =>
    intro tape l K ρ w a hsz hcnt I hcl hN
    simp only [Region.linearise.go]
    change ∃ ρ' w' a', Steps P (lone (b.atR a (.inRegion ops (match (Region.ready .any ops l)[tape % (Region.ready .any ops l).length]? with
      | some i => Region.linearise.go .any ops fuel (tape / (Region.ready .any ops l).length) (l.setIfInBounds i true) [i]
      | none => [].reverse) :: k)) cs w) _ ∧ _
    cases hi : (Region.ready .any ops l)[tape % (Region.ready .any ops l).length]? with
    | none =>
      exfalso
      -- something is left
      have hex : ∃ i, i < ops.size ∧ l.getD i true = false := by
        unfold cnt at hcnt
        cases hf : (List.range ops.size).filter fun i => !l.getD i true with
        | nil => rw [hf] at hcnt; simp at hcnt
        | cons x xs =>
          have : x ∈ (List.range ops.size).filter fun i => !l.getD i true := by rw [hf]; simp
          simp only [List.mem_filter, List.mem_range, Bool.not_eq_true'] at this
          exact ⟨x, this.1, this.2⟩
      obtain ⟨i, h1, h2⟩ := hex
      have hne := ready_some D hsz i i (Nat.le_refl _) h1 h2
      have hpos : 0 < (Region.ready .any ops l).length := List.length_pos_iff.2 hne
      rw [List.getElem?_eq_none_iff] at hi
      have := Nat.mod_lt tape hpos
      omega
    | some i =>
      simp only []
      rw [linearise_go_acc, List.reverse_singleton, List.singleton_append]
      obtain ⟨him, hil, o, ho, hr⟩ := mem_ready' (List.mem_of_getElem? hi)
      have hilt : i < l.size := by omega
      have hSi : setOf l i = false := by unfold setOf; simpa [hilt] using hil
      obtain ⟨K', ρ', w', a', s1, I', s2, s3⟩ := draw_step (b := b) (k := k) (cs := cs) (rest := Region.linearise.go .any ops fuel (tape / (Region.ready .any ops l).length) (l.setIfInBounds i true) []) D I hcl hN ho hSi hr
      rw [← setOf_set hilt] at I'
      have hcl' : Closed ops.toList (setOf (l.setIfInBounds i true)) := by
        rw [setOf_set hilt]
        intro j oj hoj hs e he hb
        by_cases hji : j = i
        · subst hji
          have : oj = o := by have h2 : ops[j]? = some oj := by simpa using hoj
                              rw [ho] at h2; cases h2; rfl
          subst this
          exact addS_old (hr e he hb)
        · rw [addS_ne hji] at hs
          exact addS_old (hcl j oj hoj hs e he hb)
      have hc' := cnt_set (l := l) (m := ops.size) (by omega) him hil
      obtain ⟨ρ2, w2, a2, z1, z2, z3, z4, z5⟩ := ih (tape / (Region.ready .any ops l).length) (l.setIfInBounds i true) K' ρ' w' a' (by simp [hsz]) (by omega) I' hcl' (by omega)
      exact ⟨ρ2, w2, a2, s1.trans z1, z2, by omega, by rw [z4, s3], z5⟩

theorem chkOpers_get {all : List Oper} : ∀ {os : List Oper} {as : List AOper}, chkOpers P N all os as = true → os.length = as.length ∧ ∀ (i : Nat) (o : Oper), os[i]? = some o → ∃ a, as[i]? = some a ∧ chkOper P N all o a = true
  | [], [], _ => ⟨rfl, fun i o h => by simp at h⟩
  | [], _ :: _, h => by simp [chkOpers] at h
  | _ :: _, [], h => by simp [chkOpers] at h
  | o :: os, a :: as, h => by
    simp only [chkOpers, Bool.and_eq_true] at h
    obtain ⟨h1, h2⟩ := chkOpers_get h.2
    refine ⟨by simp [h1], fun i o' hi => ?_⟩
    cases i with
    | zero => simp at hi; subst hi; exact ⟨a, by simp, h.1⟩
    | succ i => simpa using h2 i o' (by simpa using hi)

/-- a region that draws its order -/
theorem region_draw (hgr : GoodRec r) (hcall : SimCall P r) (hround : SimRound P r) {id : Nat} {s s' : St} (hc : chkOpers P N ops.toList ops.toList as = true) (hd : chkDraw ops.toList as = true) (hmix : P.follows .mixedOrders = true) (hx : execOps r as [] s = some s')
    {ρ : Ren} {a : Act} {w : World} (hN : N ≤ a.tmps.size) (he : EnvR ρ s.env a.tmps) (hr : R P ρ s.h.get w) (hdm : Dom s.h s.n) (hf : Fresh ρ s.n s'.n) :
    ∃ a' w' ρ', Steps P (lone (b.atR a (.code (.region id ops true) :: k)) cs w) (lone (b.atR a' k) cs w') ∧ EnvR ρ' s'.env a'.tmps ∧ a'.tmps.size = a.tmps.size ∧ a'.defers = a.defers ∧ s'.marks = s.marks ∧ X P ρ s.h.get s.n w ρ' s'.h.get s'.n w' := by
  obtain ⟨t, t1, t2, t3, t5, t6⟩ := tra_of r as [] s s' hx
  obtain ⟨hlen, hget⟩ := chkOpers_get hc
  have D : Drawn P r N ops as t := ⟨hgr, hcall, hround, t6, hd, fun i o ho => hget i o (by simpa using ho), by simpa using hlen.symm, by rw [t2, t3]; exact hdm⟩
  have hw1 : Ext (St0 P) ρ s.h.get s.n w ρ s.h.get s.n { w with drawn := w.drawn + 1 } := Ext.drew hr rfl rfl rfl rfl
  have hfalse : ∀ i, setOf (Array.replicate ops.size false) i = false := fun i => by
    unfold setOf
    simp only [Array.getD_eq_getD_getElem?, Array.getElem?_replicate]
    split <;> rfl
  have hs'n : s'.n = t.n as.length := by rw [t5]
  have hs'h : s'.h = t.h as.length := by rw [t5]
  have hs'e : s'.env = t.e as.length := by rw [t5]
  have hnone : ∀ id, s.n ≤ id → s.h.get id = none := fun id hid => by
    cases hg : s.h.get id with
    | none => rfl
    | some ob => have := hdm id ob hg; omega
  have I : Inv P as t ρ s.h.get { w with drawn := w.drawn + 1 } (setOf (Array.replicate ops.size false)) s.h.get ρ { w with drawn := w.drawn + 1 } a := {
    kk := fun id => ⟨0, Nat.zero_le _, by rw [t2], fun i hi => by omega, fun i _ _ _ => hfalse i⟩
    fresh := fun i hi _ => by
      have h1 := tra_nmono hgr t6 (i := 0) (j := i) (by omega) (by omega)
      have h2 := tra_nmono hgr t6 (i := i + 1) (j := as.length) (by omega) (Nat.le_refl _)
      rw [t3] at h1
      exact hf.mono h1 (by omega)
    e1 := fun i x d hx hs => by rw [hfalse] at hs; cases hs
    e2 := fun d v _ hv => by rw [t1] at hv; exact he d v hv
    ext := by
      have h1 := tra_nmono hgr t6 (i := 0) (j := as.length) (by omega) (Nat.le_refl _)
      rw [t3] at h1 ⊢
      exact ⟨hw1.rel, fun _ _ => rfl, h1, Nat.le_refl _, fun _ _ _ => rfl, fun _ h => .inl h, fun _ o h => .inl ⟨o, h⟩, rfl, rfl, rfl⟩ }
  have hcl : Closed ops.toList (setOf (Array.replicate ops.size false)) := fun j o _ hs => by rw [hfalse] at hs; cases hs
  have hcnt : cnt (Array.replicate ops.size false) ops.size = ops.size := by
    unfold cnt
    rw [List.filter_eq_self.2]
    · simp
    · intro i hi
      have : i < ops.size := by simpa using hi
      simp [Array.getElem?_replicate, this]
  obtain ⟨ρ', w', a', z1, z2, z3, z4, z5⟩ := draw_go (b := b) (k := k) (cs := cs) D ops.size (w.tape w.drawn (.order b.fn id)) (Array.replicate ops.size false) s.h.get ρ { w with drawn := w.drawn + 1 } a (by simp) hcnt I hcl hN
  refine ⟨a', w', ρ', .head stepR_region_draw ?_, by rw [hs'e]; exact z2, z3, z4, by rw [t5], ?_⟩
  · simp only [Region.schedule, hmix, Bool.true_or, if_true, Region.linearise]
    exact z1
  · rw [hs'h, hs'n]
    rw [t3] at z5
    exact hw1.trans z5
end Go.Proofs.Ytbhgncfbljkdgaa.AI
