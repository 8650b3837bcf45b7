/-
  What every run does to the abstract heap: ids grow; what is not written stays. Operations look at their operands alone.
-/
import Derived.Test.YtbhgncfbljkdgaaA13
namespace Go.Proofs.Ytbhgncfbljkdgaa.AI
open Go

structure Good (h : Heap) (n : Nat) (h' : Heap) (n' : Nat) : Prop where
  nle : n ≤ n'
  dom : ∀ id o, h'.get id = some o → (∃ o', h.get id = some o') ∨ (n ≤ id ∧ id < n')
  lo : h'.lo ≤ h.lo
  keep : ∀ id, id < h'.lo → id < n → h'.get id = h.get id
  rw : ∀ id o, h'.get id = some o → rwB o = true ∨ h.get id = some o

theorem Good.refl (h : Heap) (n : Nat) : Good h n h n := ⟨Nat.le_refl _, fun _ o e => .inl ⟨o, e⟩, Nat.le_refl _, fun _ _ _ => rfl, fun _ _ e => .inr e⟩

theorem Good.trans {h h1 h2 : Heap} {n n1 n2 : Nat} (a : Good h n h1 n1) (b : Good h1 n1 h2 n2) : Good h n h2 n2 where
  nle := Nat.le_trans a.nle b.nle
  dom := fun id o e => by
    have h1 := a.nle; have h2 := b.nle
    rcases b.dom id o e with ⟨o', e'⟩ | hr
    · rcases a.dom id o' e' with x | x
      · exact .inl x
      · exact .inr (by omega)
    · exact .inr (by omega)
  lo := Nat.le_trans b.lo a.lo
  keep := fun id h1 h2 => by
    have := a.nle; have := b.lo
    rw [b.keep id h1 (by omega), a.keep id (by omega) h2]
  rw := fun id o e => (b.rw id o e).elim .inl fun e => a.rw id o e

theorem Good.new (h : Heap) (n : Nat) (o : AObj) (hrw : rwB o = true := by rfl) : Good h n (h.new n o) (n + 1) where
  nle := by omega
  dom := fun id x e => by
    rw [Heap.get_new] at e
    split at e
    · exact .inr (by omega)
    · exact .inl ⟨x, e⟩
  lo := Nat.le_refl _
  keep := fun id _ h2 => by rw [Heap.get_new, if_neg (by omega)]
  rw := fun id x e => by
    rw [Heap.get_new] at e
    split at e
    · cases e; exact .inl hrw
    · exact .inr e

theorem Good.set {h : Heap} {n id : Nat} {o o' : AObj} (he : h.get id = some o) (hrw : rwB o' = true := by rfl) : Good h n (h.set id (some o')) n where
  nle := Nat.le_refl _
  dom := fun j x e => by
    rw [Heap.get_set] at e
    split at e
    · rename_i hj; subst hj; exact .inl ⟨o, he⟩
    · exact .inl ⟨x, e⟩
  lo := Nat.min_le_left _ _
  keep := fun j h1 _ => by
    have : j < id := Nat.lt_of_lt_of_le h1 (Nat.min_le_right _ _)
    rw [Heap.get_set, if_neg (by omega)]
  rw := fun j x e => by
    rw [Heap.get_set] at e
    split at e
    · cases e; exact .inl hrw
    · exact .inr e

theorem Good.kill {h : Heap} {n id : Nat} : Good h n (h.set id none) n where
  nle := Nat.le_refl _
  dom := fun j x e => by
    rw [Heap.get_set] at e
    split at e
    · cases e
    · exact .inl ⟨x, e⟩
  lo := Nat.min_le_left _ _
  keep := fun j h1 _ => by
    have : j < id := Nat.lt_of_lt_of_le h1 (Nat.min_le_right _ _)
    rw [Heap.get_set, if_neg (by omega)]
  rw := fun j x e => by
    rw [Heap.get_set] at e
    split at e
    · cases e
    · exact .inr e

theorem Good.later (h : Heap) (n : Nat) : Good h n h (n + 1) :=
  ⟨by omega, fun _ o e => .inl ⟨o, e⟩, Nat.le_refl _, fun _ _ _ => rfl, fun _ _ e => .inr e⟩

theorem storeAt_good {h h' : Heap} {n size : Nat} {a v : Value} (e : storeAt h size a v = some h') : Good h n h' n := by
  unfold storeAt at e
  split at e
  · split at e
    · rename_i hg
      simp only [] at e
      split at e
      · cases e; exact Good.set hg
      · cases e
    · cases e
  · cases e

theorem sliceSl_good {h : Heap} {n n' e len cap : Nat} {base : Option Addr} {lo hi mx : Option (Option Value)} {v : Value} (hs : sliceSl n e base len cap lo hi mx = some (v, n')) : Good h n h n' := by
  unfold sliceSl at hs
  simp only [] at hs
  repeat' split at hs
  all_goals first | (cases hs; done) | (cases hs; first | exact Good.refl _ _ | exact Good.later _ _)

theorem aappend_good {h h' : Heap} {n n' e bytes : Nat} {s x v : Value} (ha : aappend h n e bytes s x = some (v, h', n')) : Good h n h' n' := by
  unfold aappend at ha
  repeat' split at ha
  all_goals first | (cases ha; done) | (cases ha; first | exact Good.refl _ _ | exact Good.new _ _ _ | exact Good.set ‹_› | exact Good.kill.trans (Good.new _ _ _))

theorem acopy_good {h h' : Heap} {n e : Nat} {d s v : Value} (ha : acopy h e d s = some (v, h')) : Good h n h' n := by
  unfold acopy at ha
  simp only [] at ha
  repeat' split at ha
  all_goals first | (cases ha; done) | (cases ha; first | exact Good.refl _ _ | exact Good.set ‹_›)

theorem aop_good {env : Env} {h h' : Heap} {n n' : Nat} {op : AOp} {v : Value} (ha : aop env h n op = some (v, h', n')) : Good h n h' n' := by
  cases op <;> simp only [aop] at ha
  case store size a x =>
    split at ha
    · simp only [Option.map_eq_some_iff] at ha
      obtain ⟨h0, e, q⟩ := ha
      cases q
      exact storeAt_good e
    · cases ha
  case slice k x lo hi mx =>
    repeat' split at ha
    all_goals first | (cases ha; done) | (cases ha; first | exact Good.refl _ _ | exact sliceSl_good ‹_›)
  case append e b s x =>
    split at ha
    · exact aappend_good ha
    · cases ha
  case copy e d s =>
    repeat' split at ha
    all_goals first | (cases ha; done) | (cases ha; exact acopy_good ‹_›)
  all_goals (try simp only [Option.map_eq_some_iff] at ha)
  all_goals (repeat' split at ha)
  all_goals first
    | (cases ha; done)
    | (cases ha; first | exact Good.refl _ _ | exact Good.new _ _ _ | exact Good.set ‹_›)
    | (simp only [Option.map_eq_some_iff] at ha; obtain ⟨_, _, q⟩ := ha; cases q; exact Good.refl _ _)
    | (obtain ⟨_, _, q⟩ := ha; cases q; exact Good.refl _ _)

/-! ### operands -/

def optList {α : Type} : Option α → List α
  | none => []
  | some x => [x]

def opds : AOp → List AOpd
  | .bad | .alloc _ | .makeMap => []
  | .move x | .box x | .load _ x | .nilCheck x | .un _ x | .convInt _ x | .convId x | .convBytes x | .convStr x | .fieldAddr _ x | .field _ _ x | .extract x _ | .len _ x | .clearMap x | .clearSlice _ x => [x]
  | .pick c a b => [c, a, b]
  | .build _ _ ps | .buildSlice _ _ _ ps => ps.map (·.2)
  | .store _ a b | .bin _ a b | .eqFlat _ _ a b | .nilEq _ _ a b | .makeSlice _ _ _ a b | .indexAddr _ _ a b | .indexStr a b | .indexArr _ _ _ a b | .lookup _ _ _ a b | .mapEntry _ _ a b | .append _ _ a b | .copy _ a b | .delete _ a b => [a, b]
  | .minmax _ cs | .call _ cs => cs
  | .makeFunc _ fs cs => fs ++ cs
  | .slice _ x lo hi mx => x :: (optList lo ++ optList hi ++ optList mx)
  | .mapUpdate _ a b c | .entryStore a b c => [a, b, c]
  | .callv f cs => f :: cs

theorem evs_congr {e e' : Env} : ∀ {xs : List AOpd}, (∀ x ∈ xs, ev e x = ev e' x) → evs e xs = evs e' xs
  | [], _ => rfl
  | x :: xs, h => by
    simp only [evs]
    rw [h x (by simp), evs_congr fun y hy => h y (by simp [hy])]

theorem evParts_congr {e e' : Env} : ∀ {xs : List (Nat × AOpd)}, (∀ x ∈ xs.map (·.2), ev e x = ev e' x) → evParts e xs = evParts e' xs
  | [], _ => rfl
  | (i, x) :: xs, h => by
    simp only [evParts]
    rw [h x (by simp), evParts_congr fun y hy => h y (by simp at hy ⊢; exact .inr hy)]

theorem evO_congr {e e' : Env} {x : Option AOpd} (h : ∀ y ∈ optList x, ev e y = ev e' y) : evO e x = evO e' x := by
  cases x with
  | none => rfl
  | some y => simp only [evO, Option.map_some]; rw [h y (by simp [optList])]

theorem aop_congr {e e' : Env} {h : Heap} {n : Nat} {op : AOp} (hh : ∀ x ∈ opds op, ev e x = ev e' x) : aop e h n op = aop e' h n op := by
  cases op <;> simp only [opds] at hh <;> simp only [aop]
  case build z p ps => rw [evParts_congr hh]
  case buildSlice e0 z l ps => rw [evParts_congr hh]
  case makeFunc f fs cs => rw [evs_congr (fun x hx => hh x (by simp [opds, hx])), evs_congr (xs := cs) (fun x hx => hh x (by simp [opds, hx]))]
  case minmax b cs => rw [evs_congr hh]
  case slice k x lo hi mx =>
    rw [hh x (by simp), evO_congr (x := lo) fun y hy => hh y (by simp [hy]), evO_congr (x := hi) fun y hy => hh y (by simp [hy]), evO_congr (x := mx) fun y hy => hh y (by simp [hy])]
  all_goals (try (simp only [List.mem_cons, List.not_mem_nil, or_false, forall_eq_or_imp, forall_eq] at hh))
  all_goals (first
    | rfl
    | (rw [hh])
    | (rw [hh.1, hh.2])
    | (rw [hh.1, hh.2.1, hh.2.2]))

theorem opx_congr {r : Rec} {e e' : Env} {h : Heap} {n : Nat} {op : AOp} (hh : ∀ x ∈ opds op, ev e x = ev e' x) : opx r e h n op = opx r e' h n op := by
  cases op
  case call f cs => simp only [opds] at hh; simp only [opx]; rw [evs_congr hh]
  case callv f cs =>
    simp only [opds] at hh; simp only [opx]
    rw [hh f (by simp), evs_congr fun y hy => hh y (by simp [hy])]
  all_goals (simp only [opx]; exact aop_congr hh)

/-! ### runs -/

structure GoodRec (r : Rec) : Prop where
  call : ∀ {f args h n v h' n'}, r.call f args h n = some (v, h', n') → Good h n h' n'
  code : ∀ {rd c s x s'}, r.code rd c s = some (x, s') → Good s.h s.n s'.h s'.n

theorem round_good {r : Rec} (hr : GoodRec r) {l : Nat} {args : List Value} {h h' : Heap} {n n' : Nat} {v : Value} (e : round r l args h n = some (v, h', n')) : Good h n h' n' := by
  unfold round at e
  split at e
  · rename_i env params assign body hg
    split at e
    · cases e
    · rename_i env' hb
      split at e
      · rename_i s1 h1
        split at e
        · rename_i p q ps as bd hg1
          split at e
          · rename_i x s2 h2
            split at e
            · rename_i st pp q2 ps2 as2 bd2 hg2
              cases e
              exact (hr.code h1).trans ((Good.set hg1).trans ((hr.code h2).trans (Good.set hg2)))
            · cases e
          · cases e
        · cases e
      · cases e
  · cases e

theorem callV_good {r : Rec} (hr : GoodRec r) {f : Value} {args : List Value} {h h' : Heap} {n n' : Nat} {v : Value} (e : callV r f args h n = some (v, h', n')) : Good h n h' n' := by
  unfold callV at e
  split at e
  · exact hr.call e
  · exact round_good hr e
  · cases e

theorem callG_good {r : Rec} (hr : GoodRec r) {f : Value} {args : List Value} {h h' : Heap} {n n' : Nat} {v : Value} (e : callG r f args h n = some (v, h', n')) : Good h n h' n' := by
  unfold callG at e
  split at e
  · exact hr.call e
  · cases e

theorem opx_good {r : Rec} (hr : GoodRec r) {env : Env} {h h' : Heap} {n n' : Nat} {op : AOp} {v : Value} (e : opx r env h n op = some (v, h', n')) : Good h n h' n' := by
  cases op
  case call f cs =>
    simp only [opx] at e
    split at e
    · exact hr.call e
    · cases e
  case callv f cs =>
    simp only [opx] at e
    split at e
    · exact callV_good hr e
    · cases e
  all_goals (simp only [opx] at e; exact aop_good e)

theorem addIds_get (K H : Heap) (a : Nat) : ∀ (c id : Nat), (addIds K H a c).get id = if a ≤ id ∧ id < a + c then H.get id else K.get id
  | 0, id => by simp [addIds]; omega
  | c + 1, id => by
    show ((addIds K H a c).t.put (a + c) (H.get (a + c))).get id = _
    rw [Tr.get_put]
    have ih := addIds_get K H a c id
    by_cases h : id = a + c
    · subst h; simp
    · rw [if_neg h]
      show (addIds K H a c).get id = _
      rw [ih]
      by_cases h2 : a ≤ id ∧ id < a + c
      · rw [if_pos h2, if_pos (by omega)]
      · rw [if_neg h2, if_neg (by omega)]

theorem cutIds_get (K : Heap) (a : Nat) : ∀ (c id : Nat), (cutIds K a c).get id = if a ≤ id ∧ id < a + c then none else K.get id
  | 0, id => by simp [cutIds]; omega
  | c + 1, id => by
    show ((cutIds K a c).t.put (a + c) none).get id = _
    rw [Tr.get_put]
    have ih := cutIds_get K a c id
    by_cases h : id = a + c
    · subst h; simp
    · rw [if_neg h]
      show (cutIds K a c).get id = _
      rw [ih]
      by_cases h2 : a ≤ id ∧ id < a + c
      · rw [if_pos h2, if_pos (by omega)]
      · rw [if_neg h2, if_neg (by omega)]

theorem addIds_lo (K H : Heap) (a : Nat) : ∀ c, (addIds K H a c).lo = K.lo
  | 0 => rfl
  | _ + 1 => rfl

theorem cutIds_lo (K : Heap) (a : Nat) : ∀ c, (cutIds K a c).lo = K.lo
  | 0 => rfl
  | _ + 1 => rfl

theorem inCuts_cons (a b : Nat) (r : List (Nat × Nat)) (id : Nat) : inCuts ((a, b) :: r) id = true ↔ (a ≤ id ∧ id < a + (b - a)) ∨ inCuts r id = true := by
  simp only [inCuts, List.any_cons, Bool.or_eq_true, Bool.and_eq_true, Nat.ble_eq]
  have : Nat.blt id b = true ↔ id < b := by simp [Nat.blt, Nat.ble_eq]; omega
  rw [this]
  constructor
  · rintro (⟨h1, h2⟩ | h)
    · exact .inl (by omega)
    · exact .inr h
  · rintro (⟨h1, h2⟩ | h)
    · exact .inl (by omega)
    · exact .inr h

theorem cutAll_get (h : Heap) : ∀ (cuts : List (Nat × Nat)) (id : Nat), (cutAll h cuts).get id = if inCuts cuts id = true then none else h.get id
  | [], id => by simp [cutAll, inCuts]
  | (a, b) :: r, id => by
    simp only [cutAll]
    rw [cutIds_get, cutAll_get h r id]
    by_cases h1 : a ≤ id ∧ id < a + (b - a)
    · rw [if_pos h1, if_pos ((inCuts_cons a b r id).2 (.inl h1))]
    · rw [if_neg h1]
      by_cases h2 : inCuts r id = true
      · rw [if_pos h2, if_pos ((inCuts_cons a b r id).2 (.inr h2))]
      · rw [if_neg h2, if_neg fun e => ((inCuts_cons a b r id).1 e).elim h1 h2]

theorem cutAll_lo (h : Heap) : ∀ (cuts : List (Nat × Nat)), (cutAll h cuts).lo = h.lo
  | [] => rfl
  | (a, b) :: r => by rw [cutAll, cutIds_lo, cutAll_lo h r]

theorem relay_get (h1 h : Heap) : ∀ (cuts : List (Nat × Nat)) (id : Nat), (relay h1 h cuts).get id = if inCuts cuts id = true then h.get id else h1.get id
  | [], id => by simp [relay, inCuts]
  | (a, b) :: r, id => by
    simp only [relay]
    rw [addIds_get, relay_get h1 h r id]
    by_cases h3 : a ≤ id ∧ id < a + (b - a)
    · rw [if_pos h3, if_pos ((inCuts_cons a b r id).2 (.inl h3))]
    · rw [if_neg h3]
      by_cases h2 : inCuts r id = true
      · rw [if_pos h2, if_pos ((inCuts_cons a b r id).2 (.inr h2))]
      · rw [if_neg h2, if_neg fun e => ((inCuts_cons a b r id).1 e).elim h3 h2]

theorem relay_lo (h1 h : Heap) : ∀ (cuts : List (Nat × Nat)), (relay h1 h cuts).lo = h1.lo
  | [] => rfl
  | (a, b) :: r => by rw [relay, addIds_lo, relay_lo h1 h r]

theorem restr_get (h : Heap) : ∀ (ids : List Nat) (id : Nat), (restr h ids).get id = if id ∈ ids then h.get id else none
  | [], id => by simp [restr, Heap.get, Tr.get]
  | i :: r, id => by
    show ((restr h r).t.put i (h.get i)).get id = _
    rw [Tr.get_put]
    have ih := restr_get h r id
    by_cases h1 : id = i
    · subst h1; simp
    · rw [if_neg h1]
      show (restr h r).get id = _
      rw [ih]; simp [h1]

theorem restr_lo (h : Heap) : ∀ (ids : List Nat), (restr h ids).lo = h.lo
  | [] => rfl
  | _ :: _ => rfl

theorem ovl_get (h h1 : Heap) : ∀ (ids : List Nat) (id : Nat), (ovl h h1 ids).get id = if id ∈ ids then h1.get id else h.get id
  | [], id => by simp [ovl, Heap.get]
  | i :: r, id => by
    show ((ovl h h1 r).t.put i (h1.get i)).get id = _
    rw [Tr.get_put]
    have ih := ovl_get h h1 r id
    by_cases h2 : id = i
    · subst h2; simp
    · rw [if_neg h2]
      show (ovl h h1 r).get id = _
      rw [ih]; simp [h2]

theorem ovl_lo (h h1 : Heap) : ∀ (ids : List Nat), (ovl h h1 ids).lo = h1.lo
  | [] => rfl
  | _ :: _ => rfl

theorem topIds_lt {env : Env} {n : Nat} {op : AOp} {id : Nat} (h : id ∈ topIds env n op) : id < n := by
  unfold topIds at h
  have := (List.mem_filter.1 h).2
  simp [Nat.blt, Nat.ble_eq] at this
  omega

theorem Good.on {h h1 : Heap} {n n1 : Nat} {ids : List Nat} (hids : ∀ id ∈ ids, id < n) (g : Good (restr h ids) n h1 n1) : Good h n (addIds (ovl h h1 ids) h1 n (n1 - n)) n1 where
  nle := g.nle
  dom := fun id o e => by
    have hn := g.nle
    rw [addIds_get, ovl_get] at e
    split at e
    · exact .inr (by omega)
    · split at e
      · rename_i hm
        rcases g.dom id o e with ⟨o', e'⟩ | hr
        · rw [restr_get, if_pos hm] at e'; exact .inl ⟨o', e'⟩
        · exact .inr hr
      · exact .inl ⟨o, e⟩
  lo := by rw [addIds_lo, ovl_lo]; have := g.lo; rwa [restr_lo] at this
  keep := fun id h2 h3 => by
    rw [addIds_lo, ovl_lo] at h2
    rw [addIds_get, if_neg (by omega), ovl_get]
    split
    · rename_i hm
      rw [g.keep id h2 h3, restr_get, if_pos hm]
    · rfl
  rw := fun id o e => by
    rw [addIds_get, ovl_get] at e
    have key : h1.get id = some o → rwB o = true ∨ h.get id = some o := fun e => by
      rcases g.rw id o e with h2 | h2
      · exact .inl h2
      · rw [restr_get] at h2
        split at h2
        · exact .inr h2
        · cases h2
    split at e
    · exact key e
    · split at e
      · exact key e
      · exact .inr e

theorem Good.rwc {h h1 : Heap} {n n1 : Nat} {cuts : List (Nat × Nat)} (g : Good (cutAll h cuts) n h1 n1) : Good h n (relay h1 h cuts) n1 where
  nle := g.nle
  dom := fun id o e => by
    rw [relay_get] at e
    split at e
    · exact .inl ⟨o, e⟩
    · rcases g.dom id o e with ⟨o', e'⟩ | hr
      · rw [cutAll_get] at e'
        split at e'
        · cases e'
        · exact .inl ⟨o', e'⟩
      · exact .inr hr
  lo := by rw [relay_lo]; have := g.lo; rwa [cutAll_lo] at this
  keep := fun id h2 h3 => by
    rw [relay_lo] at h2
    rw [relay_get]
    split
    · rfl
    · rename_i hc
      rw [g.keep id h2 h3, cutAll_get, if_neg hc]
  rw := fun id o e => by
    rw [relay_get] at e
    split at e
    · exact .inr e
    · rcases g.rw id o e with h2 | h2
      · exact .inl h2
      · rw [cutAll_get] at h2
        split at h2
        · cases h2
        · exact .inr h2

theorem Good.roc {h h1 : Heap} {n n1 : Nat} {cuts : List (Nat × Nat)} (g : Good ⟨(cutAll h cuts).t, n⟩ n h1 n1) (hl : n ≤ h1.lo) : Good h n ⟨(relay h1 h cuts).t, h.lo⟩ n1 where
  nle := g.nle
  dom := fun id o e => by
    change (relay h1 h cuts).get id = some o at e
    rw [relay_get] at e
    split at e
    · exact .inl ⟨o, e⟩
    · rcases g.dom id o e with ⟨o', e'⟩ | hr
      · change (cutAll h cuts).get id = some o' at e'
        rw [cutAll_get] at e'
        split at e'
        · cases e'
        · exact .inl ⟨o', e'⟩
      · exact .inr hr
  lo := Nat.le_refl _
  keep := fun id h2 h3 => by
    change (relay h1 h cuts).get id = _
    rw [relay_get]
    split
    · rfl
    · rename_i hc
      rw [g.keep id (by omega) h3]
      change (cutAll h cuts).get id = _
      rw [cutAll_get, if_neg hc]
  rw := fun id o e => by
    change (relay h1 h cuts).get id = some o at e
    rw [relay_get] at e
    split at e
    · exact .inr e
    · rcases g.rw id o e with h2 | h2
      · exact .inl h2
      · change (cutAll h cuts).get id = some o at h2
        rw [cutAll_get] at h2
        split at h2
        · cases h2
        · exact .inr h2

theorem execOps_good {r : Rec} (hr : GoodRec r) : ∀ {ops : List AOper} {fs : List Foot} {s s' : St}, execOps r ops fs s = some s' → Good s.h s.n s'.h s'.n
  | [], fs, s, s', e => by simp only [execOps] at e; cases e; exact Good.refl _ _
  | o :: ops, fs, s, s', e => by
    simp only [execOps] at e
    split at e
    · cases e
    · exact execOps_good (s := ⟨putDst s.env o.dst undefV, s.h, s.n, s.marks⟩) hr e
    · split at e
      · split at e
        · rename_i v h n h1
          exact (opx_good hr h1).trans (execOps_good hr e)
        · cases e
      · split at e
        · rename_i v h n h1
          exact (aop_good h1).trans (execOps_good hr e)
        · cases e
      · split at e
        · cases e
        · split at e
          · rename_i v h n h1
            exact (aop_good h1).trans (execOps_good hr e)
          · cases e
      · split at e
        · rename_i v h n h1
          exact (aop_good h1).trans (execOps_good hr e)
        · cases e
      · split at e
        · rename_i v h n h1
          split at e
          · cases e
          · exact (Good.on (fun id hid => topIds_lt hid) (opx_good hr h1)).trans (execOps_good hr e)
        · cases e
      · split at e
        · rename_i v h n h1
          split at e
          · cases e
          · split at e
            · rename_i hlo
              rw [Nat.ble_eq] at hlo
              exact (Good.roc (opx_good hr h1) hlo).trans (execOps_good hr e)
            · cases e
        · cases e
      · split at e
        · rename_i v h n h1
          split at e
          · cases e
          · exact (Good.rwc (opx_good hr h1)).trans (execOps_good hr e)
        · cases e

theorem Good.gc (h : Heap) (n : Nat) (ids : List Nat) : Good h n ⟨(restr h ids).t, 0⟩ n where
  nle := Nat.le_refl _
  dom := fun id o e => by
    change (restr h ids).get id = some o at e
    rw [restr_get] at e
    split at e
    · exact .inl ⟨o, e⟩
    · cases e
  lo := Nat.zero_le _
  keep := fun id h1 _ => absurd h1 (Nat.not_lt_zero _)
  rw := fun id o e => by
    change (restr h ids).get id = some o at e
    rw [restr_get] at e
    split at e
    · exact .inr e
    · cases e

theorem exec_good {r : Rec} (hr : GoodRec r) {rd : Option Nat} : ∀ {c : ACode} {s s' : St} {x : AExit}, exec r rd c s = some (x, s') → Good s.h s.n s'.h s'.n
  | .skip, s, s', x, e => by simp only [exec] at e; cases e; exact Good.refl _ _
  | .region ops, s, s', x, e => by
    simp only [exec, Option.map_eq_some_iff] at e
    obtain ⟨s1, h1, q⟩ := e
    cases q
    exact execOps_good hr h1
  | .seq a b, s, s', x, e => by
    simp only [exec] at e
    split at e
    · rename_i s1 h1
      exact (exec_good hr h1).trans (exec_good hr e)
    · rename_i h1 h2
      exact exec_good hr e
  | .cond c a b, s, s', x, e => by
    simp only [exec] at e
    split at e
    · exact exec_good hr e
    · exact exec_good hr e
    · cases e
  | .block id b, s, s', x, e => by
    simp only [exec] at e
    split at e
    · rename_i i s1 h1
      split at e <;> (cases e; exact exec_good hr h1)
    · exact exec_good hr e
  | .loop b, s, s', x, e => by
    simp only [exec] at e
    split at e
    · rename_i s1 h1
      exact (exec_good hr h1).trans (hr.code e)
    · exact exec_good hr e
  | .rangeFunc f ps as bd, s, s', x, e => by
    simp only [exec] at e
    split at e
    · cases e
    · rename_i fv hf
      split at e
      · cases e
      split at e
      · rename_i v h n hc
        have g1 := callG_good hr hc
        have g0 : Good s.h s.n ((enterSt rd s).h.new (enterSt rd s).n (.loop .ready none s.env ps as bd)) ((enterSt rd s).n + 1) := by
          cases rd with
          | none => exact (Good.new _ _ _).trans (Good.new _ _ _)
          | some l => exact Good.new _ _ _
        split at e
        · cases e
        · rename_i hg
          cases e
          exact g0.trans (g1.trans (Good.set hg))
        · cases e
      · cases e
  | .exit id, s, s', x, e => by simp only [exec] at e; cases e; exact Good.refl _ _
  | .ret, s, s', x, e => by simp only [exec] at e; cases e; exact Good.refl _ _
  | .keep ts c, s, s', x, e => by
    simp only [exec] at e
    exact exec_good (s := { s with env := s.env.keep ts }) hr e
  | .scope c, s, s', x, e => by
    simp only [exec] at e
    exact exec_good hr e
  | .gc ids c, s, s', x, e => by
    simp only [exec] at e
    exact (Good.gc s.h s.n ids).trans (exec_good (s := { s with h := ⟨(restr s.h ids).t, 0⟩ }) hr e)

theorem takeMarks_good : ∀ {ms : List Nat} {h h' : Heap} {n : Nat}, takeMarks ms h = some h' → Good h n h' n
  | [], h, h', n, e => by simp only [takeMarks] at e; cases e; exact Good.refl _ _
  | m :: ms, h, h', n, e => by
    simp only [takeMarks] at e
    split at e
    · rename_i hg
      exact (Good.set hg).trans (takeMarks_good e)
    · cases e

theorem execCall_good {AP : FuncId → Option AFunc} {r : Rec} (hr : GoodRec r) {f : FuncId} {args : List Value} {h h' : Heap} {n n' : Nat} {v : Value} (e : execCall AP r f args h n = some (v, h', n')) : Good h n h' n' := by
  unfold execCall at e
  split at e
  · cases e
  · split at e
    · cases e
    · split at e
      · rename_i s h1
        split at e
        · rename_i h2 hm
          split at e
          · cases e; exact (exec_good hr h1).trans (takeMarks_good hm)
          · cases e
        · cases e
      · rename_i s h1
        split at e
        · rename_i h2 hm
          split at e
          · cases e; exact (exec_good hr h1).trans (takeMarks_good hm)
          · cases e
        · cases e
      · cases e

theorem runK_good (AP : FuncId → Option AFunc) : ∀ k, GoodRec (runK AP k)
  | 0 => ⟨fun e => by simp [runK] at e, fun e => by simp [runK] at e⟩
  | k + 1 => ⟨fun e => execCall_good (runK_good AP k) e, fun e => exec_good (runK_good AP k) e⟩
end Go.Proofs.Ytbhgncfbljkdgaa.AI
