/-
  A region that draws its order, on the machine: one operation more; all of them.
-/
import Derived.Test.YtbhgncfbljkdgaaA19
namespace Go.Proofs.Ytbhgncfbljkdgaa.AI
open Go

variable {P : Program} {r : Rec} {as : List AOper} {t : Tra} {N : Nat} {ops : Array Oper} {b : Frame} {k : List Item} {cs : List Frame}

theorem opx_of_aop {e : Env} {h h' : Heap} {n n' : Nat} {op : AOp} {v : Value} (hx : aop e h n op = some (v, h', n')) : opx r e h n op = some (v, h', n') := by
  cases op <;> first | (simp [aop] at hx; done) | (simp only [opx]; exact hx)

def addS (S : Nat → Bool) (j : Nat) : Nat → Bool := fun x => S x || Nat.beq x j

theorem addS_self (S : Nat → Bool) (j : Nat) : addS S j j = true := by simp [addS]
theorem addS_ne {S : Nat → Bool} {i j : Nat} (h : i ≠ j) : addS S j i = S i := by
  have : Nat.beq i j = false := Bool.eq_false_iff.2 fun e => h (eq_of_beq_nat e)
  simp [addS, this]
theorem addS_old {S : Nat → Bool} {i j : Nat} (h : S i = true) : addS S j i = true := by simp [addS, h]

/-- variables and ids, with one operation more -/
theorem inv_env (D : Drawn P r N ops as t) {ρ0 ρ ρ' : Ren} {g0 : Nat → Option AObj} {w0 w : World} {S : Nat → Bool} {K : Nat → Option AObj} {a : Act} (I : Inv P as t ρ0 g0 w0 S K ρ w a)
    {j : Nat} {ao : AOper} (hao : as[j]? = some ao) (hj : S j = false) (hd : ∀ d, ao.dst = some d → d < a.tmps.size) {v' : Value} (hv : VR ρ' (t.v j) v') (hle : Ren.le ρ ρ') (hren : ∀ id, ¬ (t.n j ≤ id ∧ id < t.n (j + 1)) → ρ' id = ρ id) :
    (∀ i, i < as.length → addS S j i = false → Fresh ρ' (t.n i) (t.n (i + 1))) ∧
    (∀ i x d, as[i]? = some x → addS S j i = true → x.dst = some d → ∃ v'', (a.put ao.dst v').tmps[d]? = some v'' ∧ VR ρ' (t.v i) v'') ∧
    (∀ d v, (∀ i x, as[i]? = some x → addS S j i = true → x.dst ≠ some d) → (t.e 0).get d = some v → ∃ v'', (a.put ao.dst v').tmps[d]? = some v'' ∧ VR ρ' v v'') := by
  have hjl : j < as.length := by rw [List.getElem?_eq_some_iff] at hao; exact hao.1
  refine ⟨fun i hi hs => ?_, fun i x d hx hs hxd => ?_, fun d v hno hv0 => ?_⟩
  · have hij : i ≠ j := fun e => by subst e; rw [addS_self] at hs; cases hs
    rw [addS_ne hij] at hs
    refine ⟨fun id h1 h2 => ?_, (I.fresh i hi hs).2.step hren⟩
    rw [hren id ?_]
    · exact (I.fresh i hi hs).1 id h1 h2
    · by_cases hlt : i < j
      · have := tra_nmono D.gr D.tra (i := i + 1) (j := j) (by omega) (by omega)
        omega
      · have := tra_nmono D.gr D.tra (i := j + 1) (j := i) (by omega) (by omega)
        omega
  · by_cases hij : i = j
    · subst hij
      rw [hao] at hx; cases hx
      rw [hxd, put_get a d v' d (hd d hxd)]
      exact ⟨v', by simp, hv⟩
    · rw [addS_ne hij] at hs
      obtain ⟨v0, h1, h2⟩ := I.e1 i x d hx hs hxd
      refine ⟨v0, ?_, h2.mono hle⟩
      cases hdj : ao.dst with
      | none => exact h1
      | some d' =>
        have hne : d ≠ d' := fun e => by
          subst e
          by_cases hlt : i < j
          · exact D.dist i j x ao d hx hao hlt hxd hdj
          · exact D.dist j i ao x d hao hx (by omega) hdj hxd
        rw [put_get a d' v' d (hd d' hdj), if_neg hne]; exact h1
  · obtain ⟨v0, h1, h2⟩ := I.e2 d v (fun i x hx hs => hno i x hx (addS_old hs)) hv0
    refine ⟨v0, ?_, h2.mono hle⟩
    cases hdj : ao.dst with
    | none => exact h1
    | some d' =>
      have hne : d ≠ d' := fun e => by subst e; exact hno j ao hao (addS_self _ _) hdj
      rw [put_get a d' v' d (hd d' hdj), if_neg hne]; exact h1

theorem Rel.sub {C : Stands} {ρ : Ren} {H K : Nat → Option AObj} {w : World} (hK : Rel C ρ K w) (hs : ∀ id o, H id = some o → K id = some o) : Rel C ρ H w :=
  ⟨fun id o e => hK.obj id o (hs id o e), fun i j oi oj si sj gi gj => hK.sep i j oi oj si sj (hs i oi gi) (hs j oj gj)⟩

theorem stillKind_pure {op : AOp} (hk : stillKind op = true) : pureKind op = true := by
  cases op <;> first | rfl | (simp [stillKind, pureKind] at hk; done) | (simpa [stillKind] using hk)

/-- the objects that an operation meets -/
def Ft (f : Foot) (n id : Nat) : Bool := Nat.blt id n && (if f.all then !inCuts f.cuts id else f.ids.any (Nat.beq id))

theorem Ft_lt {f : Foot} {n id : Nat} (h : Ft f n id = true) : id < n := by
  unfold Ft at h
  simp only [Bool.and_eq_true] at h
  have := h.1
  simp [Nat.blt, Nat.ble_eq] at this
  omega

theorem Ft_ids {f : Foot} {n id : Nat} (ha : f.all = false) : Ft f n id = true ↔ id < n ∧ id ∈ f.ids := by
  unfold Ft
  rw [ha]
  simp only [Bool.false_eq_true, if_false, Bool.and_eq_true, List.any_eq_true]
  constructor
  · rintro ⟨h1, x, hx, e⟩
    have := eq_of_beq_nat e; subst this
    exact ⟨by simp [Nat.blt, Nat.ble_eq] at h1; omega, hx⟩
  · rintro ⟨h1, h2⟩
    exact ⟨by simp [Nat.blt, Nat.ble_eq]; omega, id, h2, by simp⟩

theorem Ft_all {f : Foot} {n id : Nat} (ha : f.all = true) : Ft f n id = true ↔ id < n ∧ inCuts f.cuts id = false := by
  unfold Ft
  rw [ha]
  simp only [if_true, Bool.and_eq_true, Bool.not_eq_true']
  constructor
  · rintro ⟨h1, h2⟩
    exact ⟨by simp [Nat.blt, Nat.ble_eq] at h1; omega, h2⟩
  · rintro ⟨h1, h2⟩
    exact ⟨by simp [Nat.blt, Nat.ble_eq]; omega, h2⟩

theorem Ft_nil (n id : Nat) : Ft Foot.nil n id = false := by
  cases h : Ft Foot.nil n id with
  | false => rfl
  | true => have := (Ft_ids (f := Foot.nil) rfl).1 h; simp [Foot.nil] at this

/-- what is known of an operation that is carried out -/
structure Did (r : Rec) (fs : List Foot) (a : AOper) (e : Env) (h : Heap) (n : Nat) (v : Value) (h' : Heap) (n' : Nat) (f : Foot) : Prop where
  form : ∃ H H1 : Heap, (∀ id, H.get id = if Ft f n id = true then h.get id else none) ∧ opx r e H n a.op = some (v, H1, n') ∧ (∀ id, h'.get id = if Ft f n id = true ∨ (n ≤ id ∧ id < n') then H1.get id else h.get id)
  ro : f.ro = true → ∀ id, id < n → h'.get id = h.get id
  lo : n < n' → f.lo = n ∧ f.hi = n'
  tch : touches a = false → ∀ id, Ft f n id = false
  mmk : mayMake a = false → n' = n
  chg : changes a = false → f.ro = true
  par : isSeq a.cls = false → touches a = true → ∃ x, chkPar fs a.par { f with rdop := x } = true
  rd : isRd a = true → h' = h ∧ n' = n ∧ aop e h n a.op = some (v, h, n) ∧ rdKind a.op = true ∧ f.ids = topIds e n a.op ∧ f.all = false ∧ f.rdop = some (constOp e a.op, v)
  chk : isOnRw a = true → chkRe fs a.chk h' n' = true

theorem cutsOf_lt {fs : List Foot} {par : List Nat} {n : Nat} (hfs : ∀ a ∈ fs, a.hi ≤ n) {id : Nat} (h : inCuts (cutsOf fs par) id = true) : id < n := by
  unfold inCuts at h
  obtain ⟨c, hc, h2⟩ := List.any_eq_true.1 h
  unfold cutsOf at hc
  obtain ⟨d, _, hd⟩ := List.mem_flatMap.1 hc
  split at hd
  · rename_i a ha
    simp at hd; subst hd
    have := hfs a (List.mem_of_getElem? ha)
    simp only [Bool.and_eq_true] at h2
    have h3 := h2.2
    simp [Nat.blt, Nat.ble_eq] at h3
    omega
  · simp at hd

theorem step_facts (hgr : GoodRec r) {fs : List Foot} {a : AOper} {e e' : Env} {h h' : Heap} {n n' : Nat} {v : Value} {f : Foot} (hdm : Dom h n) (hfs : ∀ a ∈ fs, a.hi ≤ n) (hk : kindOK a = true) (st : StepAt r fs a e h n v e' h' n' f) :
    (guardV e a.guard = some false ∧ v = undefV ∧ h' = h ∧ n' = n ∧ f = Foot.nil) ∨ (guardV e a.guard = some true ∧ Did r fs a e h n v h' n' f) := by
  have hnone : ∀ id, n ≤ id → h.get id = none := fun id hid => by
    cases hg : h.get id with
    | none => rfl
    | some o => have := hdm id o hg; omega
  obtain ⟨q, h1, h2, h3⟩ := st
  cases q with
  | false =>
    simp only [Bool.false_eq_true, if_false] at h3
    exact .inl ⟨h1, h3⟩
  | true =>
    refine .inr ⟨h1, ?_⟩
    simp only [if_true] at h3
    unfold kindOK at hk
    split at h3
    · -- seq
      rename_i hc
      obtain ⟨x1, x2⟩ := h3
      subst x2
      have g := opx_good hgr x1
      have hF : ∀ id, Ft ⟨false, true, [], [], n, n', none⟩ n id = true ↔ id < n := fun id => by
        rw [Ft_all rfl]; simp [inCuts]
      refine ⟨⟨h, h', fun id => ?_, x1, fun id => ?_⟩, fun e => by simp at e, fun _ => ⟨rfl, rfl⟩, fun e => by simp [touches, hc] at e, fun e => by simp [mayMake, hc] at e, fun e => by simp [changes, hc] at e, fun e => by simp [hc, isSeq] at e, fun e => by simp [isRd, hc] at e, fun e => by simp [isOnRw, hc] at e⟩
      · by_cases hid : id < n
        · rw [if_pos ((hF id).2 hid)]
        · rw [if_neg fun e => hid ((hF id).1 e)]; exact hnone id (by omega)
      · by_cases hid : Ft ⟨false, true, [], [], n, n', none⟩ n id = true ∨ (n ≤ id ∧ id < n')
        · rw [if_pos hid]
        · rw [if_neg hid]
          have hn : ¬ id < n := fun hlt => hid (.inl ((hF id).2 hlt))
          rw [hnone id (by omega)]
          cases hg : h'.get id with
          | none => rfl
          | some o =>
            rcases g.dom id o hg with ⟨o', e'⟩ | hr
            · rw [hnone id (by omega)] at e'; cases e'
            · exact absurd (.inr hr) hid
    · -- still
      rename_i hc
      obtain ⟨x1, x2⟩ := h3
      subst x2
      have hp : pureKind a.op = true := by rw [hc] at hk; exact stillKind_pure hk
      have hs : stillKind a.op = true := by rw [hc] at hk; exact hk
      obtain ⟨y1, y2⟩ := still_frame (K := restr h []) hs x1
      have y3 := pure_heap hp x1
      subst y3; subst y2
      refine ⟨⟨restr h' [], restr h' [], fun id => ?_, opx_of_aop y1, fun id => ?_⟩, fun _ _ _ => rfl, fun e => absurd e (Nat.lt_irrefl _), fun _ => Ft_nil _, fun _ => rfl, fun _ => rfl, fun _ e => by simp [touches, hc] at e, fun e => by simp [isRd, hc] at e, fun e => by simp [isOnRw, hc] at e⟩
      · rw [Ft_nil, restr_get]
        rfl
      · rw [Ft_nil, if_neg (by simp)]
    · -- rd
      rename_i hc
      obtain ⟨x0, x1, x2⟩ := h3
      subst x2
      have hs : rdKind a.op = true := by rw [hc] at hk; exact hk
      obtain ⟨y1, y2, y3⟩ := rd_frame (K := restr h (topIds e n a.op)) hs hdm (fun id hid => by rw [restr_get, if_pos hid]) x1
      subst y2; subst y3
      have hF : ∀ id, Ft ⟨true, false, topIds e n' a.op, [], 0, 0, some (constOp e a.op, v)⟩ n' id = true ↔ id ∈ topIds e n' a.op := fun id => by
        rw [Ft_ids rfl]; exact ⟨fun h => h.2, fun h => ⟨topIds_lt h, h⟩⟩
      refine ⟨⟨restr h' (topIds e n' a.op), restr h' (topIds e n' a.op), fun id => ?_, opx_of_aop y1, fun id => ?_⟩, fun _ _ _ => rfl, fun e => absurd e (Nat.lt_irrefl _), fun e => by simp [touches, hc] at e, fun _ => rfl, fun _ => rfl, fun _ _ => ⟨none, x0⟩, fun _ => ⟨rfl, rfl, x1, hs, rfl, rfl, rfl⟩, fun e => by simp [isOnRw, hc] at e⟩
      · rw [restr_get]; simp only [hF]
      · rw [restr_get]; simp only [hF]
        split
        · rename_i hh
          rcases hh with hh | hh
          · rw [if_pos hh]
          · omega
        · rfl
    · -- mk
      rename_i hc
      obtain ⟨x1, x2⟩ := h3
      subst x2
      have hF : ∀ id, Ft ⟨true, false, [], [], n, n', none⟩ n id = false := fun id => by
        cases hx : Ft ⟨true, false, [], [], n, n', none⟩ n id with
        | false => rfl
        | true => have := (Ft_ids rfl).1 hx; simp at this
      rw [hc] at hk
      simp only [Bool.or_eq_true] at hk
      rcases hk with hk | hk
      · obtain ⟨o, y1, y2, y3⟩ := make_heap hk x1
        refine ⟨⟨restr h [], (restr h []).new n o, fun id => ?_, opx_of_aop (y3 _), fun id => ?_⟩, fun _ id hid => ?_, fun _ => ⟨rfl, rfl⟩, fun _ => hF, fun e => by simp [mayMake, hc] at e, fun _ => rfl, fun _ e => by simp [touches, hc] at e, fun e => by simp [isRd, hc] at e, fun e => by simp [isOnRw, hc] at e⟩
        · rw [hF, restr_get]; simp
        · rw [y1, Heap.get_new, Heap.get_new, hF]
          by_cases hid : id = n
          · subst hid; simp [y2]
          · rw [if_neg hid, if_neg hid, if_neg (by simp; omega)]
        · rw [y1, Heap.get_new, if_neg (by omega)]
      · have hp : pureKind a.op = true := by
          cases hop : a.op <;> rw [hop] at hk <;> first | (cases hk; done) | rfl
        have hl : ∀ g x, a.op ≠ .load g x := fun g x e => by rw [e] at hk; cases hk
        have y1 := pure_frame (K := restr h []) hp hl x1
        have y2 := pure_heap hp x1
        subst y2
        refine ⟨⟨restr h' [], restr h' [], fun id => ?_, opx_of_aop y1, fun id => ?_⟩, fun _ _ _ => rfl, fun _ => ⟨rfl, rfl⟩, fun _ => hF, fun e => by simp [mayMake, hc] at e, fun _ => rfl, fun _ e => by simp [touches, hc] at e, fun e => by simp [isRd, hc] at e, fun e => by simp [isOnRw, hc] at e⟩
        · rw [hF, restr_get]; simp
        · rw [hF]
          split
          · rename_i hh
            simp at hh
            rw [hnone id hh.1, restr_get]; simp
          · rfl
    · -- on
      rename_i hc
      obtain ⟨h0, x1, x2, x3, x4, x6⟩ := h3
      subst x4
      have g := opx_good hgr x1
      have hn := g.nle
      have hF : ∀ id, Ft ⟨false, false, topIds e n a.op, [], n, n', none⟩ n id = true ↔ id ∈ topIds e n a.op := fun id => by
        rw [Ft_ids rfl]; exact ⟨fun h => h.2, fun h => ⟨topIds_lt h, h⟩⟩
      refine ⟨⟨restr h (topIds e n a.op), h0, fun id => ?_, x1, fun id => ?_⟩, fun e => by simp at e, fun _ => ⟨rfl, rfl⟩, fun e => by simp [touches, hc] at e, fun e => by simp [mayMake, hc] at e, fun e => by simp [changes, hc] at e, fun _ _ => ⟨none, x2⟩, fun e => by simp [isRd, hc] at e, fun _ => x6⟩
      · rw [restr_get]; simp only [hF]
      · rw [x3, addIds_get, ovl_get, show n + (n' - n) = n' by omega]
        simp only [hF]
        by_cases hr : n ≤ id ∧ id < n'
        · rw [if_pos hr, if_pos (.inr hr)]
        · rw [if_neg hr]
          by_cases hm : id ∈ topIds e n a.op
          · rw [if_pos hm, if_pos (.inl hm)]
          · rw [if_neg hm, if_neg fun h => h.elim hm hr]
    · -- ro
      rename_i hc
      obtain ⟨h0, x1, x2, x3, x4, x5⟩ := h3
      subst x5
      have g := opx_good hgr x1
      have hn := g.nle
      have hF : ∀ id, Ft ⟨true, true, [], cutsOf fs a.par, n, n', none⟩ n id = true ↔ id < n ∧ inCuts (cutsOf fs a.par) id = false := fun id => Ft_all rfl
      have hcg : ∀ id, (⟨(cutAll h (cutsOf fs a.par)).t, n⟩ : Heap).get id = if inCuts (cutsOf fs a.par) id = true then none else h.get id := fun id => cutAll_get h _ id
      have hrg : ∀ id, h'.get id = if inCuts (cutsOf fs a.par) id = true then h.get id else h0.get id := fun id => by rw [x4]; exact relay_get h0 h _ id
      have hgo := (Good.roc (opx_good hgr x1) x3)
      refine ⟨⟨_, h0, fun id => ?_, x1, fun id => ?_⟩, fun _ id hid => ?_, fun _ => ⟨rfl, rfl⟩, fun e => by simp [touches, hc] at e, fun e => by simp [mayMake, hc] at e, fun _ => rfl, fun _ _ => ⟨none, x2⟩, fun e => by simp [isRd, hc] at e, fun e => by simp [isOnRw, hc] at e⟩
      · rw [hcg]; simp only [hF]
        cases hcu : inCuts (cutsOf fs a.par) id with
        | true => simp
        | false =>
          by_cases hlt : id < n
          · simp [hlt]
          · simp [hlt]; exact hnone id (by omega)
      · rw [hrg]; simp only [hF]
        cases hcu : inCuts (cutsOf fs a.par) id with
        | true => have := cutsOf_lt hfs hcu; simp; intro hh; omega
        | false =>
          by_cases hlt : id < n
          · simp [hlt]
          · by_cases hr : n ≤ id ∧ id < n'
            · simp [hlt, hr]
            · simp only [hlt, false_and, false_or, hr, if_false, Bool.false_eq_true]
              rw [hnone id (by omega)]
              cases hg : h0.get id with
              | none => rfl
              | some o =>
                rcases g.dom id o hg with ⟨o', e'⟩ | hr2
                · rw [hcg, hcu] at e'; simp at e'; rw [hnone id (by omega)] at e'; cases e'
                · exact absurd hr2 hr
      · rw [hrg]
        split
        · rfl
        · rename_i hcu
          rw [g.keep id (by omega) hid, hcg, if_neg hcu]
    · -- rw
      rename_i hc
      obtain ⟨h0, x1, x2, x4, x5, x6⟩ := h3
      subst x5
      have g := opx_good hgr x1
      have hn := g.nle
      have hF : ∀ id, Ft ⟨false, true, [], cutsOf fs a.par, n, n', none⟩ n id = true ↔ id < n ∧ inCuts (cutsOf fs a.par) id = false := fun id => Ft_all rfl
      have hcg : ∀ id, (cutAll h (cutsOf fs a.par)).get id = if inCuts (cutsOf fs a.par) id = true then none else h.get id := fun id => cutAll_get h _ id
      have hrg : ∀ id, h'.get id = if inCuts (cutsOf fs a.par) id = true then h.get id else h0.get id := fun id => by rw [x4]; exact relay_get h0 h _ id
      refine ⟨⟨_, h0, fun id => ?_, x1, fun id => ?_⟩, fun e => by simp at e, fun _ => ⟨rfl, rfl⟩, fun e => by simp [touches, hc] at e, fun e => by simp [mayMake, hc] at e, fun e => by simp [changes, hc] at e, fun _ _ => ⟨none, x2⟩, fun e => by simp [isRd, hc] at e, fun _ => x6⟩
      · rw [hcg]; simp only [hF]
        cases hcu : inCuts (cutsOf fs a.par) id with
        | true => simp
        | false =>
          by_cases hlt : id < n
          · simp [hlt]
          · simp [hlt]; exact hnone id (by omega)
      · rw [hrg]; simp only [hF]
        cases hcu : inCuts (cutsOf fs a.par) id with
        | true => have := cutsOf_lt hfs hcu; simp; intro hh; omega
        | false =>
          by_cases hlt : id < n
          · simp [hlt]
          · by_cases hr : n ≤ id ∧ id < n'
            · simp [hlt, hr]
            · simp only [hlt, false_and, false_or, hr, if_false, Bool.false_eq_true]
              rw [hnone id (by omega)]
              cases hg : h0.get id with
              | none => rfl
              | some o =>
                rcases g.dom id o hg with ⟨o', e'⟩ | hr2
                · rw [hcg, hcu] at e'; simp at e'; rw [hnone id (by omega)] at e'; cases e'
                · exact absurd hr2 hr
end Go.Proofs.Ytbhgncfbljkdgaa.AI
