/-
  Weakest preconditions of the interpreter, as equations for 'simp'.
-/
import Derived.Test.YtbhgncfbljkdgaaA30
namespace Go.Proofs.Ytbhgncfbljkdgaa.AI
open Go
universe u

/-- for simp: not by unfolding -/
theorem nr {α : Sort _} {a b : α} (h : a = b) : a = b := h
theorem nri {a b : Prop} (h : a ↔ b) : a ↔ b := h

/-- what is marked so is left alone by simp (its place is fixed) -/
class Dep {α : Sort u} (a : α) : Type
instance instDep {α : Sort u} (a : α) : Dep a := {}

def WP (r : Rec) (rd : Option Nat) (c : ACode) (s : St) (Q : AExit → St → Prop) [Dep c] [Dep s] [Dep Q] : Prop := ∃ e s', exec r rd c s = some (e, s') ∧ Q e s'
def WPo (r : Rec) (ops : List AOper) (fs : List Foot) (s : St) (Q : St → Prop) [Dep ops] [Dep fs] [Dep s] [Dep Q] : Prop := ∃ s', execOps r ops fs s = some s' ∧ Q s'
def WPv (x : Option (Value × Heap × Nat)) (Q : Value → Heap → Nat → Prop) [Dep Q] : Prop := ∃ v h n, x = some (v, h, n) ∧ Q v h n

theorem WPv_some {v : Value} {h : Heap} {n : Nat} {Q : Value → Heap → Nat → Prop} : WPv (some (v, h, n)) Q ↔ Q v h n := by
  unfold WPv
  constructor
  · rintro ⟨_, _, _, e, q⟩; cases e; exact q
  · intro q; exact ⟨v, h, n, rfl, q⟩

theorem WPv_mono {x : Option (Value × Heap × Nat)} {Q Q' : Value → Heap → Nat → Prop} (h : WPv x Q) (hq : ∀ v h n, Q v h n → Q' v h n) : WPv x Q' :=
  let ⟨v, h', n, e, q⟩ := h; ⟨v, h', n, e, hq _ _ _ q⟩
theorem WP_mono {r : Rec} {rd : Option Nat} {c : ACode} {s : St} {Q Q' : AExit → St → Prop} (h : WP r rd c s Q) (hq : ∀ e s, Q e s → Q' e s) : WP r rd c s Q' :=
  let ⟨v, h', e, q⟩ := h; ⟨v, h', e, hq _ _ q⟩


section
variable {r : Rec} {rd : Option Nat} {Q : AExit → St → Prop} {s : St}

theorem iw_skip : WP r rd .skip s Q ↔ Q .normal s := by
  unfold WP; rw [exec]; exact ⟨fun ⟨_, _, e, q⟩ => by cases e; exact q, fun q => ⟨_, _, rfl, q⟩⟩
theorem iw_exit {i : Nat} : WP r rd (.exit i) s Q ↔ Q (.exit i) s := by
  unfold WP; rw [exec]; exact ⟨fun ⟨_, _, e, q⟩ => by cases e; exact q, fun q => ⟨_, _, rfl, q⟩⟩
theorem iw_ret : WP r rd .ret s Q ↔ Q .ret s := by
  unfold WP; rw [exec]; exact ⟨fun ⟨_, _, e, q⟩ => by cases e; exact q, fun q => ⟨_, _, rfl, q⟩⟩
theorem iw_region {ops : List AOper} : WP r rd (.region ops) s Q ↔ WPo r ops [] s (Q .normal) := by
  unfold WP; rw [exec]
  constructor
  · rintro ⟨_, _, e, q⟩
    rw [Option.map_eq_some_iff] at e
    obtain ⟨s2, e1, e2⟩ := e
    cases e2
    exact ⟨_, e1, q⟩
  · rintro ⟨s1, e1, q⟩
    exact ⟨_, _, by rw [e1]; rfl, q⟩

/-- what is asked behind the first part -/
def thenQ (r : Rec) (rd : Option Nat) (b : ACode) (Q : AExit → St → Prop) [Dep b] [Dep Q] : AExit → St → Prop := fun x s => match x with
  | .normal => WP r rd b s Q
  | x => Q x s
theorem thenQ_normal {b : ACode} : thenQ r rd b Q .normal s ↔ WP r rd b s Q := nri Iff.rfl
theorem thenQ_exit {b : ACode} {i : Nat} : thenQ r rd b Q (.exit i) s ↔ Q (.exit i) s := nri Iff.rfl
theorem thenQ_ret {b : ACode} : thenQ r rd b Q .ret s ↔ Q .ret s := nri Iff.rfl

theorem iw_seq {a b : ACode} : WP r rd (.seq a b) s Q ↔ WP r rd a s (thenQ r rd b Q) := by
  unfold WP; rw [exec]
  constructor
  · rintro ⟨x, s', e, q⟩
    split at e
    · rename_i e1
      exact ⟨_, _, e1, x, s', e, q⟩
    · rename_i hn
      refine ⟨x, s', e, ?_⟩
      cases x
      · exact absurd e (hn _)
      · exact q
      · exact q
  · rintro ⟨x, s', e, q⟩
    cases x
    · obtain ⟨y, s2, e2, q2⟩ := q
      exact ⟨y, s2, by rw [e]; exact e2, q2⟩
    · exact ⟨_, _, by rw [e], q⟩
    · exact ⟨_, _, by rw [e], q⟩

/-- by a condition's value -/
def condQ (v : Option Value) (a b : Prop) [Dep a] [Dep b] : Prop := match v with
  | some (.bool true) => a
  | some (.bool false) => b
  | _ => False
theorem condQ_some {c : Bool} {a b : Prop} : condQ (some (.bool c)) a b ↔ (c = true → a) ∧ (c = false → b) := by
  cases c <;> simp [condQ]
theorem condQ_true {a b : Prop} : condQ (some (.bool true)) a b ↔ a := nri Iff.rfl
theorem condQ_false {a b : Prop} : condQ (some (.bool false)) a b ↔ b := nri Iff.rfl

theorem iw_cond {c : AOpd} {a b : ACode} : WP r rd (.cond c a b) s Q ↔ condQ (ev s.env c) (WP r rd a s Q) (WP r rd b s Q) := by
  unfold WP; rw [exec]
  split
  · rename_i h; simp only [h, condQ]
  · rename_i h; simp only [h, condQ]
  · rename_i h1 h2
    constructor
    · rintro ⟨_, _, e, _⟩; cases e
    · intro h
      unfold condQ at h
      split at h
      · rename_i h3; exact absurd h3 h1
      · rename_i h3; exact absurd h3 h2
      · exact h.elim

def blockQ (id : Nat) (Q : AExit → St → Prop) [Dep Q] : AExit → St → Prop := fun x s => match x with
  | .exit i => bif Nat.beq i id then Q .normal s else Q (.exit i) s
  | x => Q x s
theorem blockQ_normal {id : Nat} : blockQ id Q .normal s ↔ Q .normal s := nri Iff.rfl
theorem blockQ_ret {id : Nat} : blockQ id Q .ret s ↔ Q .ret s := nri Iff.rfl
theorem blockQ_exit {id i : Nat} : blockQ id Q (.exit i) s ↔ if i = id then Q .normal s else Q (.exit i) s := by
  unfold blockQ
  by_cases h : i = id
  · subst h; simp
  · have : Nat.beq i id = false := by
      cases hb : Nat.beq i id with
      | false => rfl
      | true => exact absurd (Nat.eq_of_beq_eq_true hb) h
    simp [this, h]

theorem iw_block {id : Nat} {b : ACode} : WP r rd (.block id b) s Q ↔ WP r rd b s (blockQ id Q) := by
  unfold WP; rw [exec]
  constructor
  · rintro ⟨x, s', e, q⟩
    split at e
    · rename_i i s1 e1
      refine ⟨_, _, e1, ?_⟩
      split at e <;> (rename_i hb; cases e)
      · simp only [blockQ, hb, cond_true]; exact q
      · simp only [blockQ, hb, cond_false]; exact q
    · rename_i hn
      refine ⟨x, s', e, ?_⟩
      cases x
      · exact q
      · exact absurd e (hn _ _)
      · exact q
  · rintro ⟨x, s', e, q⟩
    rw [e]
    cases x
    · exact ⟨_, _, rfl, q⟩
    · rename_i i
      simp only [blockQ] at q
      cases hb : Nat.beq i id
      · rw [hb] at q; exact ⟨_, _, by simp [hb], q⟩
      · rw [hb] at q; exact ⟨_, _, by simp [hb], q⟩
    · exact ⟨_, _, rfl, q⟩

theorem iw_keep {ts : List Nat} {c : ACode} : WP r rd (.keep ts c) s Q ↔ WP r rd c ⟨s.env.keep ts, s.h, s.n, s.marks⟩ Q := by unfold WP; rw [exec]
theorem iw_scope {c : ACode} : WP r rd (.scope c) s Q ↔ WP r rd c s Q := by unfold WP; rw [exec]

/-! ### Operations -/

variable {P : St → Prop} {d : Option Nat} {op : AOp} {fs : List Foot} {rest : List AOper} {p c : List Nat} {e : Env} {h : Heap} {n : Nat} {m : List Nat}

theorem iwo_nil : WPo r [] fs s P ↔ P s := by
  unfold WPo; rw [execOps]; exact ⟨fun ⟨_, e, q⟩ => by cases e; exact q, fun q => ⟨_, rfl, q⟩⟩

theorem iwo_seq : WPo r (⟨d, op, none, .seq, p, c⟩ :: rest) fs ⟨e, h, n, m⟩ P ↔ WPv (opx r e h n op) fun v h' n' => WPo r rest (⟨false, true, [], [], n, n', none⟩ :: fs) ⟨putDst e d v, h', n', m⟩ P := by
  unfold WPo; rw [execOps]
  simp only [guardV]
  constructor
  · rintro ⟨s', e1, q⟩
    split at e1
    · rename_i v h' n' e2; exact ⟨v, h', n', e2, s', e1, q⟩
    · cases e1
  · rintro ⟨v, h', n', e2, s', e1, q⟩
    exact ⟨s', by rw [e2]; exact e1, q⟩

theorem iwo_still : WPo r (⟨d, op, none, .still, p, c⟩ :: rest) fs ⟨e, h, n, m⟩ P ↔ WPv (aop e h n op) fun v h' n' => WPo r rest (Foot.nil :: fs) ⟨putDst e d v, h', n', m⟩ P := by
  unfold WPo; rw [execOps]
  simp only [guardV]
  constructor
  · rintro ⟨s', e1, q⟩
    split at e1
    · rename_i v h' n' e2; exact ⟨v, h', n', e2, s', e1, q⟩
    · cases e1
  · rintro ⟨v, h', n', e2, s', e1, q⟩
    exact ⟨s', by rw [e2]; exact e1, q⟩

theorem iwo_mk : WPo r (⟨d, op, none, .mk, p, c⟩ :: rest) fs ⟨e, h, n, m⟩ P ↔ WPv (aop e h n op) fun v h' n' => WPo r rest (⟨true, false, [], [], n, n', none⟩ :: fs) ⟨putDst e d v, h', n', m⟩ P := by
  unfold WPo; rw [execOps]
  simp only [guardV]
  constructor
  · rintro ⟨s', e1, q⟩
    split at e1
    · rename_i v h' n' e2; exact ⟨v, h', n', e2, s', e1, q⟩
    · cases e1
  · rintro ⟨v, h', n', e2, s', e1, q⟩
    exact ⟨s', by rw [e2]; exact e1, q⟩

theorem iwo_rd : WPo r (⟨d, op, none, .rd, p, c⟩ :: rest) fs ⟨e, h, n, m⟩ P ↔ chkPar fs p ⟨true, false, topIds e n op, [], 0, 0, none⟩ = true ∧ WPv (aop e h n op) fun v h' n' => WPo r rest (⟨true, false, topIds e n op, [], 0, 0, some (constOp e op, v)⟩ :: fs) ⟨putDst e d v, h', n', m⟩ P := by
  unfold WPo; rw [execOps]
  simp only [guardV]
  constructor
  · rintro ⟨s', e1, q⟩
    split at e1
    · cases e1
    · rename_i hp
      split at e1
      · rename_i v h' n' e2; exact ⟨by simpa using hp, v, h', n', e2, s', e1, q⟩
      · cases e1
  · rintro ⟨hp, v, h', n', e2, s', e1, q⟩
    exact ⟨s', by rw [hp, e2]; exact e1, q⟩

theorem iwo_rd0 : WPo r (⟨d, op, none, .rd, [], c⟩ :: rest) fs ⟨e, h, n, m⟩ P ↔ WPv (aop e h n op) fun v h' n' => WPo r rest (⟨true, false, topIds e n op, [], 0, 0, some (constOp e op, v)⟩ :: fs) ⟨putDst e d v, h', n', m⟩ P := by
  rw [iwo_rd]; simp [chkPar]

/-- another mark of what was changed -/
def relo (h : Heap) (lo : Nat) : Heap := ⟨h.t, lo⟩
theorem relo_get {h : Heap} {lo id : Nat} : (relo h lo).get id = h.get id := nr rfl
theorem relo_lo {h : Heap} {lo : Nat} : (relo h lo).lo = lo := nr rfl
theorem relo_back {h : Heap} {lo : Nat} : relo (relo h lo) h.lo = h := nr rfl
theorem relo_relo {h : Heap} {a b : Nat} : relo (relo h a) b = relo h b := nr rfl

/-- a call that changes nothing, of which no operation ahead is to be kept away -/
theorem iwo_ro0 : WPo r (⟨d, op, none, .ro, [], c⟩ :: rest) fs ⟨e, h, n, m⟩ P ↔ WPv (opx r e (relo h n) n op) fun v h' n' => n ≤ h'.lo ∧ WPo r rest (⟨true, true, [], [], n, n', none⟩ :: fs) ⟨putDst e d v, relo h' h.lo, n', m⟩ P := by
  unfold WPo; rw [execOps]
  simp only [guardV]
  constructor
  · rintro ⟨s', e1, q⟩
    split at e1
    · rename_i v h' n' e2
      split at e1
      · cases e1
      · split at e1
        · rename_i hlo
          exact ⟨v, h', n', e2, by simpa [Nat.ble_eq] using hlo, s', e1, q⟩
        · cases e1
    · cases e1
  · rintro ⟨v, h', n', e2, hlo, s', e1, q⟩
    have e2' : opx r e ⟨(cutAll h (cutsOf fs [])).t, n⟩ n op = some (v, h', n') := e2
    have hb : Nat.ble n h'.lo = true := by rw [Nat.ble_eq]; exact hlo
    exact ⟨s', by rw [e2']; simp only [chkPar, List.all_nil, Bool.not_true, Bool.false_eq_true, if_false, hb, if_true]; exact e1, q⟩

/-- an operation that hangs on a guard -/
def guardQ' (g : Option Bool) (yes no : Prop) [Dep yes] [Dep no] : Prop := match g with
  | some true => yes
  | some false => no
  | none => False
theorem guardQ'_true {y n : Prop} : guardQ' (some true) y n ↔ y := nri Iff.rfl
theorem guardQ'_false {y n : Prop} : guardQ' (some false) y n ↔ n := nri Iff.rfl
theorem guardQ'_eqf {b : Bool} {y n : Prop} : guardQ' (some (b == false)) y n ↔ (b = false → y) ∧ (b = true → n) := by cases b <;> simp [guardQ']
theorem guardQ'_eqt {b : Bool} {y n : Prop} : guardQ' (some (b == true)) y n ↔ (b = true → y) ∧ (b = false → n) := by cases b <;> simp [guardQ']
theorem guardQ'_some {b : Bool} {y n : Prop} : guardQ' (some b) y n ↔ (b = true → y) ∧ (b = false → n) := by cases b <;> simp [guardQ']

theorem iwo_guard {t : Nat} {b : Bool} {k : Cls} : WPo r (⟨d, op, some (t, b), k, p, c⟩ :: rest) fs ⟨e, h, n, m⟩ P ↔
    guardQ' (guardV e (some (t, b))) (WPo r (⟨d, op, none, k, p, c⟩ :: rest) fs ⟨e, h, n, m⟩ P) (WPo r rest (Foot.nil :: fs) ⟨putDst e d undefV, h, n, m⟩ P) := by
  cases hg : guardV e (some (t, b)) with
  | none =>
    simp only [guardQ', iff_false]
    rintro ⟨s', e1, q⟩
    rw [execOps] at e1
    simp only [hg] at e1
    cases e1
  | some x =>
    cases x with
    | false =>
      simp only [guardQ']
      unfold WPo; rw [execOps]
      simp only [hg]
    | true =>
      simp only [guardQ']
      unfold WPo; rw [execOps, execOps]
      simp only [hg]
      rfl

theorem guardV_bool {e : Env} {t : Nat} {b x : Bool} (h : e.get t = some (.bool x)) : guardV e (some (t, b)) = some (x == b) := by
  simp only [guardV, h]
theorem guardV_undef {e : Env} {t : Nat} {b : Bool} (h : e.get t = some undefV) : guardV e (some (t, b)) = some false := by
  simp only [guardV, h, undefV]; rfl
end

/-! ### Calls -/

theorem iw_call {AP : FuncId → Option AFunc} {O : Ora} {f : FuncId} {np : Nat} {res : List ARes} {body : ACode} (hO : O f = none) (hA : AP f = some ⟨np, res, body⟩) {args : List Value} {h : Heap} {n : Nat} (hl : args.length = np) {Q : Value → Heap → Nat → Prop}
    (hw : WP (RO AP O) none body ⟨numbered 0 args, h, n, []⟩ fun x s => (match x with | .exit _ => False | _ => True) ∧ ∃ h1, takeMarks s.marks s.h = some h1 ∧ ∃ vs, ressOf s.env h1 res = some vs ∧ Q (tupleOf vs) h1 s.n) : WPv ((RO AP O).call f args h n) Q := by
  obtain ⟨x, s, e, hx, h1, e1, vs, e2, q⟩ := hw
  refine ⟨_, _, _, RO_call hO ?_, q⟩
  unfold execCall
  have hb : Nat.beq args.length np = true := by rw [hl]; simp
  simp only [hA, hb, e]
  cases x
  · simp [e1, e2]
  · exact hx.elim
  · simp [e1, e2]
end Go.Proofs.Ytbhgncfbljkdgaa.AI
