/-
  A region that draws its order: plain facts of the run in the order of the text.
-/
import Derived.Test.YtbhgncfbljkdgaaA16
namespace Go.Proofs.Ytbhgncfbljkdgaa.AI
open Go

/-! ### one step of the run in the order of the text -/

def StepAt (r : Rec) (fs : List Foot) (a : AOper) (e : Env) (h : Heap) (n : Nat) (v : Value) (e' : Env) (h' : Heap) (n' : Nat) (f : Foot) : Prop :=
  ∃ q, guardV e a.guard = some q ∧ e' = putDst e a.dst v ∧
    (if q = true then (match a.cls with
      | .seq => opx r e h n a.op = some (v, h', n') ∧ f = ⟨false, true, [], [], n, n', none⟩
      | .still => aop e h n a.op = some (v, h', n') ∧ f = Foot.nil
      | .rd => chkPar fs a.par ⟨true, false, topIds e n a.op, [], 0, 0, none⟩ = true ∧ aop e h n a.op = some (v, h', n') ∧ f = ⟨true, false, topIds e n a.op, [], 0, 0, some (constOp e a.op, v)⟩
      | .mk => aop e h n a.op = some (v, h', n') ∧ f = ⟨true, false, [], [], n, n', none⟩
      | .on => ∃ h1, opx r e (restr h (topIds e n a.op)) n a.op = some (v, h1, n') ∧ chkPar fs a.par ⟨false, false, topIds e n a.op, [], n, n', none⟩ = true ∧ h' = addIds (ovl h h1 (topIds e n a.op)) h1 n (n' - n) ∧ f = ⟨false, false, topIds e n a.op, [], n, n', none⟩ ∧ chkRe fs a.chk h' n' = true
      | .ro => ∃ h1, opx r e ⟨(cutAll h (cutsOf fs a.par)).t, n⟩ n a.op = some (v, h1, n') ∧ chkPar fs a.par ⟨true, true, [], cutsOf fs a.par, n, n', none⟩ = true ∧ n ≤ h1.lo ∧ h' = ⟨(relay h1 h (cutsOf fs a.par)).t, h.lo⟩ ∧ f = ⟨true, true, [], cutsOf fs a.par, n, n', none⟩
      | .rw => ∃ h1, opx r e (cutAll h (cutsOf fs a.par)) n a.op = some (v, h1, n') ∧ chkPar fs a.par ⟨false, true, [], cutsOf fs a.par, n, n', none⟩ = true ∧ h' = relay h1 h (cutsOf fs a.par) ∧ f = ⟨false, true, [], cutsOf fs a.par, n, n', none⟩ ∧ chkRe fs a.chk h' n' = true)
    else v = undefV ∧ h' = h ∧ n' = n ∧ f = Foot.nil)

structure Tra where
  e : Nat → Env
  h : Nat → Heap
  n : Nat → Nat
  v : Nat → Value
  f : Nat → Foot

def ncons {α : Type} (x : α) (f : Nat → α) : Nat → α
  | 0 => x
  | i + 1 => f i

def Tra.cons (e : Env) (h : Heap) (n : Nat) (v : Value) (f : Foot) (t : Tra) : Tra :=
  ⟨ncons e t.e, ncons h t.h, ncons n t.n, ncons v t.v, ncons f t.f⟩

/-- what the operations ahead have met -/
def fsAt (fs0 : List Foot) (f : Nat → Foot) : Nat → List Foot
  | 0 => fs0
  | i + 1 => f i :: fsAt fs0 f i

theorem fsAt_cons (fs0 : List Foot) (x : Foot) (f : Nat → Foot) : ∀ i, fsAt fs0 (ncons x f) (i + 1) = fsAt (x :: fs0) f i
  | 0 => rfl
  | i + 1 => by
    show ncons x f (i + 1) :: fsAt fs0 (ncons x f) (i + 1) = f i :: fsAt (x :: fs0) f i
    rw [fsAt_cons fs0 x f i]; rfl

theorem fsAt_get (f : Nat → Foot) : ∀ (i d : Nat) (a : Foot), (fsAt [] f i)[d]? = some a → d < i ∧ a = f (i - 1 - d)
  | 0, d, a, h => by simp [fsAt] at h
  | i + 1, 0, a, h => by simp [fsAt] at h; exact ⟨by omega, by simp [h]⟩
  | i + 1, d + 1, a, h => by
    simp only [fsAt, List.getElem?_cons_succ] at h
    obtain ⟨h1, h2⟩ := fsAt_get f i d a h
    exact ⟨by omega, by rw [h2, show i - 1 - d = i + 1 - 1 - (d + 1) by omega]⟩

def TraOf (r : Rec) (as : List AOper) (fs0 : List Foot) (t : Tra) : Prop := ∀ i a, as[i]? = some a → StepAt r (fsAt fs0 t.f i) a (t.e i) (t.h i) (t.n i) (t.v i) (t.e (i + 1)) (t.h (i + 1)) (t.n (i + 1)) (t.f i)

theorem tra_of (r : Rec) : ∀ (as : List AOper) (fs0 : List Foot) (s s' : St), execOps r as fs0 s = some s' →
    ∃ t : Tra, t.e 0 = s.env ∧ t.h 0 = s.h ∧ t.n 0 = s.n ∧ s' = ⟨t.e as.length, t.h as.length, t.n as.length, s.marks⟩ ∧ TraOf r as fs0 t
  | [], fs0, s, s', h => by
    simp only [execOps] at h
    cases h
    exact ⟨⟨fun _ => s.env, fun _ => s.h, fun _ => s.n, fun _ => undefV, fun _ => Foot.nil⟩, rfl, rfl, rfl, rfl, fun i a hi => by simp at hi⟩
  | a :: as, fs0, s, s', h => by
    have go : ∀ (v : Value) (h1 : Heap) (n1 : Nat) (f : Foot), execOps r as (f :: fs0) ⟨putDst s.env a.dst v, h1, n1, s.marks⟩ = some s' → StepAt r fs0 a s.env s.h s.n v (putDst s.env a.dst v) h1 n1 f →
        ∃ t : Tra, t.e 0 = s.env ∧ t.h 0 = s.h ∧ t.n 0 = s.n ∧ s' = ⟨t.e (a :: as).length, t.h (a :: as).length, t.n (a :: as).length, s.marks⟩ ∧ TraOf r (a :: as) fs0 t := by
      intro v h1 n1 f hx hst
      obtain ⟨t, t1, t2, t3, t5, t6⟩ := tra_of r as (f :: fs0) _ s' hx
      refine ⟨Tra.cons s.env s.h s.n v f t, rfl, rfl, rfl, t5, fun i b hi => ?_⟩
      cases i with
      | zero =>
        simp at hi; subst hi
        show StepAt r fs0 a s.env s.h s.n v (t.e 0) (t.h 0) (t.n 0) f
        rw [t1, t2, t3]; exact hst
      | succ i =>
        have := t6 i b (by simpa using hi)
        rw [← fsAt_cons] at this
        exact this
    simp only [execOps] at h
    split at h
    · cases h
    · rename_i hg
      exact go undefV s.h s.n Foot.nil h ⟨false, hg, rfl, by simp⟩
    · rename_i hg
      split at h
      · rename_i hc
        split at h
        · rename_i v h1 n1 hx
          exact go v h1 n1 _ h ⟨true, hg, rfl, by simp only [if_true, hc]; exact ⟨hx, trivial⟩⟩
        · cases h
      · rename_i hc
        split at h
        · rename_i v h1 n1 hx
          exact go v h1 n1 _ h ⟨true, hg, rfl, by simp only [if_true, hc]; exact ⟨hx, trivial⟩⟩
        · cases h
      · rename_i hc
        split at h
        · cases h
        rename_i hp
        have hp := by simpa using hp
        split at h
        · rename_i v h1 n1 hx
          exact go v h1 n1 _ h ⟨true, hg, rfl, by simp only [if_true, hc]; exact ⟨hp, hx, trivial⟩⟩
        · cases h
      · rename_i hc
        split at h
        · rename_i v h1 n1 hx
          exact go v h1 n1 _ h ⟨true, hg, rfl, by simp only [if_true, hc]; exact ⟨hx, trivial⟩⟩
        · cases h
      · rename_i hc
        split at h
        · rename_i v h1 n1 hx
          split at h
          · cases h
          rename_i hp
          have hp := by simpa using hp
          exact go v _ n1 _ h ⟨true, hg, rfl, by simp only [if_true, hc]; refine ⟨h1, hx, hp.1, ?_⟩; simp [hp.2]⟩
        · cases h
      · rename_i hc
        split at h
        · rename_i v h1 n1 hx
          split at h
          · cases h
          rename_i hp
          have hp := by simpa using hp
          split at h
          · rename_i hlo
            rw [Nat.ble_eq] at hlo
            exact go v _ n1 _ h ⟨true, hg, rfl, by simp only [if_true, hc]; exact ⟨h1, hx, hp, hlo, rfl, trivial⟩⟩
          · cases h
        · cases h
      · rename_i hc
        split at h
        · rename_i v h1 n1 hx
          split at h
          · cases h
          rename_i hp
          have hp := by simpa using hp
          exact go v _ n1 _ h ⟨true, hg, rfl, by simp only [if_true, hc]; refine ⟨h1, hx, hp.1, ?_⟩; simp [hp.2]⟩
        · cases h

/-- operations of a part: pure ones leave the heap, making ones add one object -/
theorem pure_heap {env : Env} {h h' : Heap} {n n' : Nat} {op : AOp} {v : Value} (hk : pureKind op = true) (ha : aop env h n op = some (v, h', n')) : h' = h := by
  cases op <;> first | (simp [pureKind] at hk; done) | skip
  all_goals simp only [aop] at ha
  case slice k x lo hi mx =>
    repeat' split at ha
    all_goals first | (cases ha; done) | (cases ha; rfl)
  case len k x =>
    repeat' split at ha
    all_goals first | (cases ha; done) | (cases ha; rfl)
  all_goals (try simp only [Option.map_eq_some_iff] at ha)
  all_goals (repeat' split at ha)
  all_goals first
    | (cases ha; done)
    | (cases ha; rfl)
    | (simp only [Option.map_eq_some_iff] at ha; obtain ⟨_, _, q⟩ := ha; cases q; rfl)
    | (obtain ⟨_, _, q⟩ := ha; cases q; rfl)

theorem make_heap {env : Env} {h h' : Heap} {n n' : Nat} {op : AOp} {v : Value} (hk : makeKind op = true) (ha : aop env h n op = some (v, h', n')) : ∃ o, h' = h.new n o ∧ n' = n + 1 ∧ ∀ K, aop env K n op = some (v, K.new n o, n') := by
  cases op <;> first | (simp [makeKind] at hk; done) | skip
  all_goals simp only [aop] at ha ⊢
  case alloc z => cases ha; exact ⟨_, rfl, rfl, fun _ => rfl⟩
  case makeMap => cases ha; exact ⟨_, rfl, rfl, fun _ => rfl⟩
  all_goals (repeat' split at ha)
  all_goals first | (cases ha; done) | (cases ha; exact ⟨_, rfl, rfl, fun K => by simp_all⟩)

/-- a pure operation on another heap -/
theorem pure_frame {env : Env} {h h' K : Heap} {n n' : Nat} {op : AOp} {v : Value} (hk : pureKind op = true) (hl : ∀ g x, op ≠ .load g x) (ha : aop env h n op = some (v, h', n')) : aop env K n op = some (v, K, n') := by
  cases op <;> first | (simp [pureKind] at hk; done) | skip
  all_goals simp only [aop] at ha ⊢
  case load g x => exact absurd rfl (hl g x)
  case slice k x lo hi mx =>
    repeat' split at ha
    all_goals first | (cases ha; done) | (cases ha; simp_all)
  case len k x =>
    cases k <;> first | (simp [pureKind] at hk; done) | skip
    all_goals (repeat' split at ha)
    all_goals first | (cases ha; done) | (cases ha; simp_all)
  all_goals (try simp only [Option.map_eq_some_iff] at ha ⊢)
  all_goals (repeat' split at ha)
  all_goals first
    | (cases ha; done)
    | (cases ha; simp_all; done)
    | (simp only [Option.map_eq_some_iff] at ha; obtain ⟨_, _, q⟩ := ha; cases q; simp_all; done)
    | (obtain ⟨_, _, q⟩ := ha; cases q; simp_all; done)

theorem mem_topIds {env : Env} {n : Nat} {op : AOp} {x : AOpd} {v : Value} {id : Nat} (hx : x ∈ opdsOf op) (hv : ev env x = some v) (hi : id ∈ idsOf v) (hn : id < n) : id ∈ topIds env n op := by
  unfold topIds
  refine List.mem_filter.2 ⟨List.mem_flatMap.2 ⟨x, hx, by rw [hv]; exact hi⟩, ?_⟩
  simp [Nat.blt, Nat.ble_eq]; omega

theorem loadAt_congr {h K : Heap} {g : Option Nat} {p : Value} (hK : ∀ id ∈ idsOf p, K.get id = h.get id) : loadAt K g p = loadAt h g p := by
  unfold loadAt
  split
  · rw [hK _ (by simp [idsOf])]
  · rfl

theorem mapAt_congr {h K : Heap} {p : Value} (hK : ∀ id ∈ idsOf p, K.get id = h.get id) : mapAt K p = mapAt h p := by
  unfold mapAt
  split
  · rfl
  · rw [hK _ (by simp [idsOf])]
  · rfl

theorem mapAt_lt {h : Heap} {n : Nat} {mv : Value} {es : List MapEntry} {c : Nat} (hdm : ∀ id o, h.get id = some o → id < n) (hm : mapAt h mv = some (es, c)) : ∀ id ∈ idsOf mv, id < n := by
  unfold mapAt at hm
  split at hm
  · intro i hi; simp [idsOf] at hi
  · rename_i j
    intro i hi
    simp [idsOf] at hi; subst hi
    cases hg : h.get i with
    | none => rw [hg] at hm; cases hm
    | some o => exact hdm i o hg
  · cases hm

/-- an operation that reads what its operands point to, on another heap that is alike there -/
theorem rd_frame {env : Env} {h h' K : Heap} {n n' : Nat} {op : AOp} {v : Value} (hk : rdKind op = true) (hdm : ∀ id o, h.get id = some o → id < n) (hKz : ∀ id ∈ topIds env n op, K.get id = h.get id) (ha : aop env h n op = some (v, h', n')) :
    aop env K n op = some (v, K, n) ∧ h' = h ∧ n' = n := by
  have fr : ∀ x ∈ opdsOf op, ∀ p, ev env x = some p → ∀ id ∈ idsOf p, id < n → K.get id = h.get id := fun x hx p hp id hid hn => hKz id (mem_topIds hx hp hid hn)
  cases op <;> first | (simp [rdKind] at hk; done) | skip
  case load g x =>
    simp only [aop] at ha ⊢
    split at ha
    · rename_i p hp
      simp only [Option.map_eq_some_iff] at ha ⊢
      obtain ⟨v0, e1, e2⟩ := ha
      cases e2
      refine ⟨⟨v, ?_, rfl⟩, rfl, rfl⟩
      have hlt : ∀ id ∈ idsOf p, id < n := by
        unfold loadAt at e1
        split at e1
        · rename_i id off
          intro j hj
          simp [idsOf] at hj; subst hj
          cases hg : h.get j with
          | none => rw [hg] at e1; cases e1
          | some o => exact hdm j o hg
        · cases e1
      rw [loadAt_congr fun id hid => fr x (by simp [opdsOf]) p hp id hid (hlt id hid)]
      exact e1
    · cases ha
  case len k x =>
    cases k <;> first | (simp [rdKind] at hk; done) | skip
    cases hmv : ev env x with
    | none => simp only [aop, hmv] at ha; cases ha
    | some mv =>
    simp only [aop, hmv] at ha ⊢
    split at ha
    · rename_i es c hm
      cases ha
      have hlt : ∀ id ∈ idsOf mv, id < n := mapAt_lt hdm hm
      have := mapAt_congr (h := h) (K := K) (p := mv) fun id hid => fr x (by simp [opdsOf]) mv hmv id hid (hlt id hid)
      rw [hm] at this
      simp [this]
    · cases ha
  case lookup key zero ok m k =>
    simp only [aop] at ha ⊢
    split at ha
    · rename_i mv kv hmv hkv
      split at ha
      · rename_i es c hm
        have hlt : ∀ id ∈ idsOf mv, id < n := mapAt_lt hdm hm
        have hmK := mapAt_congr (h := h) (K := K) (p := mv) fun id hid => fr m (by simp [opdsOf]) mv hmv id hid (hlt id hid)
        rw [hm] at hmK
        simp only [hmv, hkv, hmK]
        split at ha
        · cases ha
        · rename_i hko
          simp only [hko]
          split at ha
          · rename_i i hi
            split at ha
            · rename_i en hen
              cases ha
              simp [hi, hen]
            · cases ha
          · rename_i hi
            cases ha
            simp [hi]
          · cases ha
      · cases ha
    · cases ha

/-- a still operation on whatever heap -/
theorem still_frame {env : Env} {h h' K : Heap} {n n' : Nat} {op : AOp} {v : Value} (hk : stillKind op = true) (ha : aop env h n op = some (v, h', n')) : aop env K n op = some (v, K, n') ∧ n' = n := by
  have hp : pureKind op = true := by cases op <;> first | rfl | (simp [stillKind, pureKind] at hk; done) | (simpa [stillKind] using hk)
  have key : n' = n := by
    cases op <;> first | (simp [stillKind, pureKind] at hk; done) | skip
    all_goals simp only [aop] at ha
    all_goals (try simp only [Option.map_eq_some_iff] at ha)
    all_goals (repeat' split at ha)
    all_goals first
      | (cases ha; done)
      | (cases ha; rfl)
      | (simp only [Option.map_eq_some_iff] at ha; obtain ⟨_, _, q⟩ := ha; cases q; rfl)
      | (obtain ⟨_, _, q⟩ := ha; cases q; rfl)
  refine ⟨?_, key⟩
  exact pure_frame hp (fun g x e => by subst e; simp [stillKind] at hk) ha

theorem keep_get (e : Env) (ts : List Nat) (t : Nat) : (e.keep ts).get t = if t ∈ ts then e.get t else none := by
  induction ts with
  | nil => rfl
  | cons u us ih =>
    simp only [Env.keep]
    split
    · rename_i v hv
      simp only [Env.get]
      by_cases h : u = t
      · subst h; simp [hv]
      · have h' : ¬ t = u := fun e => h e.symm
        have : Nat.beq u t = false := Bool.eq_false_iff.2 fun e => h (eq_of_beq_nat e)
        simp [this, ih, h']
    · rename_i hv
      rw [ih]
      by_cases h : t = u
      · subst h
        by_cases hm : t ∈ us
        · simp [hm]
        · simp [hm, hv]
      · simp [h]

variable {C : Stands}

/-- an extension of a part of the heap is one of the whole -/
theorem Ext.over {ρ ρ' : Ren} {H H' K K' : Nat → Option AObj} {F : Nat → Prop} {n n' : Nat} {w w' : World} (hK : Rel C ρ K w) (hf : Fresh ρ n n') (hsub : ∀ id o, H id = some o → F id ∧ K id = some o) (hx : Ext C ρ H n w ρ' H' n' w')
    (hF : ∀ id, F id → id < n) (hin : ∀ id, F id ∨ (n ≤ id ∧ id < n') → K' id = H' id) (hout : ∀ id, ¬ (F id ∨ (n ≤ id ∧ id < n')) → K' id = K id)
    (hro : ∀ id o, H' id = some o → rwB o = true ∨ H id = some o) : Ext C ρ K n w ρ' K' n' w' := by
  have hle := hx.le hf
  have ownK : ∀ b, Own ρ H b → Own ρ K b := fun b ⟨j, oj, sj, g1, g2, g3, g4⟩ => ⟨j, oj, sj, (hsub j oj g1).2, g2, g3, g4⟩
  have split : ∀ id o, K' id = some o → ((F id ∨ (n ≤ id ∧ id < n')) ∧ H' id = some o) ∨ (¬ (F id ∨ (n ≤ id ∧ id < n')) ∧ K id = some o) := by
    intro id o e
    by_cases h : F id ∨ (n ≤ id ∧ id < n')
    · rw [hin id h] at e; exact .inl ⟨h, e⟩
    · rw [hout id h] at e; exact .inr ⟨h, e⟩
  have keepObj : ∀ id o, K id = some o → ¬ (F id ∨ (n ≤ id ∧ id < n')) → ∃ s, ρ' id = some s ∧ ObjR C ρ' s w' o := by
    intro id o e hid
    obtain ⟨s, hs, ho⟩ := hK.obj id o e
    have hs' : ρ' id = some s := hle id s hs
    refine ⟨s, hs', ho.keep hle (hx.frame _ (hK.lt e hs) fun ⟨j, oj, sj, g1, g2, g3, g4⟩ => ?_)⟩
    obtain ⟨hj1, hj2⟩ := hsub j oj g1
    have hne : j ≠ id := fun h => by subst h; exact hid (.inl hj1)
    exact hK.sep j id oj o sj s hj2 e hne g3 hs g2 g4
  -- a changed object and one of the rest do not share a block
  have apart : ∀ i j oi oj si sj, H' i = some oi → rwB oi = true → ρ' i = some si → K j = some oj → ¬ (F j ∨ (n ≤ j ∧ j < n')) → ρ' j = some sj → si.b ≠ sj.b := by
    intro i j oi oj si sj gi hrw hi gj hj hsj
    have hsj0 : ρ j = some sj := by rw [← hx.ren j fun h => hj (.inr h)]; exact hsj
    rcases hx.own si.b ⟨i, oi, si, gi, hrw, hi, rfl⟩ with ⟨k, ok, sk, g1, g2, g3, g4⟩ | hle2
    · obtain ⟨hk1, hk2⟩ := hsub k ok g1
      have hne : k ≠ j := fun h => by subst h; exact hj (.inl hk1)
      rw [← g4]
      exact hK.sep k j ok oj sk sj hk2 gj hne g3 hsj0 g2
    · have := hK.lt gj hsj0; omega
  exact {
    rel := {
      obj := fun id o e => by
        rcases split id o e with ⟨_, h3⟩ | ⟨h1, h2⟩
        · exact hx.rel.obj id o h3
        · exact keepObj id o h2 h1
      sep := fun i j oi oj si sj gi gj hij hi hj hrw => by
        rcases split i oi gi with ⟨a1, a3⟩ | ⟨a1, a2⟩
        · rcases split j oj gj with ⟨b1, b3⟩ | ⟨b1, b2⟩
          · exact hx.rel.sep i j oi oj si sj a3 b3 hij hi hj hrw
          · exact apart i j oi oj si sj a3 hrw hi b2 b1 hj
        · have hi0 : ρ i = some si := by rw [← hx.ren i fun h => a1 (.inr h)]; exact hi
          rcases split j oj gj with ⟨b1, b3⟩ | ⟨b1, b2⟩
          · rcases hro j oj b3 with hr | hr
            · exact Ne.symm (apart j i oj oi sj si b3 hr hj a2 a1 hi)
            · obtain ⟨hj1, hj2⟩ := hsub j oj hr
              have := hF j hj1
              have hj0 : ρ j = some sj := by rw [← hx.ren j (by omega)]; exact hj
              exact hK.sep i j oi oj si sj a2 hj2 hij hi0 hj0 hrw
          · have hj0 : ρ j = some sj := by rw [← hx.ren j fun h => b1 (.inr h)]; exact hj
            exact hK.sep i j oi oj si sj a2 b2 hij hi0 hj0 hrw }
    ren := hx.ren
    nle := hx.nle
    size := hx.size
    frame := fun b hb hno => hx.frame b hb fun h => hno (ownK b h)
    own := fun b ⟨id, o, s, e, hrw, hs, hb⟩ => by
      rcases split id o e with ⟨h1, h3⟩ | ⟨h1, h2⟩
      · exact (hx.own b ⟨id, o, s, h3, hrw, hs, hb⟩).imp (ownK b) (fun h => h)
      · have hs0 : ρ id = some s := by rw [← hx.ren id fun h => h1 (.inr h)]; exact hs
        exact .inl ⟨id, o, s, h2, hrw, hs0, hb⟩
    dom := fun id o e => by
      rcases split id o e with ⟨h1, h3⟩ | ⟨h1, h2⟩
      · rcases hx.dom id o h3 with ⟨o', e'⟩ | hr
        · exact .inl ⟨o', (hsub id o' e').2⟩
        · exact .inr hr
      · exact .inl ⟨o, h2⟩
    os := hx.os
    output := hx.output
    tape := hx.tape }
end Go.Proofs.Ytbhgncfbljkdgaa.AI
