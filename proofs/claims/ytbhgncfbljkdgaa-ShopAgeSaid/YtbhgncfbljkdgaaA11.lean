/-
  Each operation that is no call does on a world what the abstract one does on the abstract heap: operation by operation.
-/
import Derived.Test.YtbhgncfbljkdgaaA10
namespace Go.Proofs.Ytbhgncfbljkdgaa.AI
open Go

variable {P : Program} {C : Stands} {ρ : Ren} {n n' : Nat} {w : World} {o : Oper} {env : Env} {h h' : Heap} {v : Value} {a : Act}

def callKind : AOp → Bool
  | .bad | .len .. | .append .. | .copy .. | .clearMap .. | .clearSlice .. | .delete .. | .minmax .. | .call .. | .callv .. => true
  | _ => false

theorem chk_notCall {c : Call} {x : AOp} (hk : callKind x = false) : chkOp P (.call c) x = false := by
  obtain ⟨callee, args, ts⟩ := c
  cases callee with
  | value f => cases f <;> cases x <;> first | (simp [callKind] at hk; done) | rfl
  | invoke r m => cases x <;> first | (simp [callKind] at hk; done) | rfl
  | builtin b => cases x <;> first | (simp [callKind] at hk; done) | (simp [chkOp, chkBuiltin])

/-- what is asked of an operation -/
def Sound (C : Stands) (P : Program) (x : AOp) : Prop := ∀ {ρ : Ren} {n n' : Nat} {w : World} {o : Oper} {env : Env} {h h' : Heap} {v : Value} {a : Act}, chkOp P o.op x = true → EnvR ρ env a.tmps → Rel C ρ h.get w → Fresh ρ n n' →
    aop env h n x = some (v, h', n') → OpDoes C P (execOp a.eval o) ρ h.get n w v h'.get n'

theorem OpDoes.unit {ρ : Ren} {g : Nat → Option AObj} {n n' : Nat} {w w' : World} {g' : Nat → Option AObj} {s : Sem Next} (hs : s.run P w = .ok .skip w') (hx : Ext C ρ g n w ρ g' n' w') : OpDoes C P s ρ g n w undefV g' n' :=
  ⟨.skip, undef, w', ρ, hs, .inr ⟨rfl, rfl⟩, VR.of_plain rfl, hx⟩

theorem OpDoes.of {ρ ρ' : Ren} {g : Nat → Option AObj} {n n' : Nat} {w w' : World} {g' : Nat → Option AObj} {s : Sem Next} {v v' : Value} (hs : s.run P w = .ok (.value v') w') (hv : VR ρ' v v') (hx : Ext C ρ g n w ρ' g' n' w') : OpDoes C P s ρ g n w v g' n' :=
  ⟨_, v', w', ρ', hs, .inl rfl, hv, hx⟩

theorem s_move {x : AOpd} : Sound C P (.move x) := by
  intro ρ n n' w o env h h' v a hc he hr hf hx
  obtain ⟨dst, op, type, pos, after, guard⟩ := o
  simp only at hc
  simp only [aop, Option.map_eq_some_iff] at hx
  obtain ⟨v0, hv, e⟩ := hx
  cases e
  cases op <;> first | (cases hc; done) | (rw [chk_notCall rfl] at hc; cases hc; done) | skip
  all_goals exact OpDoes.val hr rfl (chkOpd_sound he hc hv)

theorem s_pick {c x y : AOpd} : Sound C P (.pick c x y) := by
  intro ρ n n' w o env h h' v a hc he hr hf hx
  obtain ⟨dst, op, type, pos, after, guard⟩ := o
  simp only at hc
  simp only [aop] at hx
  cases op <;> first | (cases hc; done) | (rw [chk_notCall rfl] at hc; cases hc; done) | skip
  simp only [chkOp, Bool.and_eq_true] at hc
  obtain ⟨⟨h1, h2⟩, h3⟩ := hc
  split at hx
  · rename_i hcv
    have hb := (chkOpd_sound he h1 hcv).bool_inv
    simp only [Option.map_eq_some_iff] at hx
    obtain ⟨v0, hv, e⟩ := hx
    cases e
    exact OpDoes.val hr (by simp [execOp, hb, asBool]) (chkOpd_sound he h2 hv)
  · rename_i hcv
    have hb := (chkOpd_sound he h1 hcv).bool_inv
    simp only [Option.map_eq_some_iff] at hx
    obtain ⟨v0, hv, e⟩ := hx
    cases e
    exact OpDoes.val hr (by simp [execOp, hb, asBool]) (chkOpd_sound he h3 hv)
  · cases hx

theorem s_alloc {zero : List Value} : Sound C P (.alloc zero) := by
  intro ρ n n' w o env h h' v a hc he hr hf hx
  obtain ⟨dst, op, type, pos, after, guard⟩ := o
  simp only at hc
  simp only [aop] at hx
  cases hx
  cases op <;> first | (cases hc; done) | (rw [chk_notCall rfl] at hc; cases hc; done) | skip
  rename_i t
  obtain ⟨z, z1, z2, z3⟩ := chkZero_sound hc w
  have hfn : ρ n = none := hf.1 n (Nat.le_refl _) (by omega)
  refine OpDoes.of (v' := .pointer (some ⟨w.heap.size, 0, none⟩)) (w' := { w with heap := w.heap.push (.cells z.cells t) }) ?_ (.ptr (setRen_eq _ _ ⟨w.heap.size, 0, z.cells.size⟩)) (new_cells (el := t) hr hfn (by rw [z2]; exact LR.of_pure z3) rfl (fun _ => Heap.get_new _ _ _ _))
  simp [execOp, Instr.alloc, z1, newVar, newRow]

theorem s_box {x : AOpd} : Sound C P (.box x) := by
  intro ρ n n' w o env h h' v a hc he hr hf hx
  obtain ⟨dst, op, type, pos, after, guard⟩ := o
  simp only at hc
  simp only [aop] at hx
  split at hx
  · rename_i v0 hv
    cases hx
    cases op <;> first | (cases hc; done) | (rw [chk_notCall rfl] at hc; cases hc; done) | skip
    rename_i t y
    have hvr := chkOpd_sound he hc hv
    have hfn : ρ n = none := hf.1 n (Nat.le_refl _) (by omega)
    refine OpDoes.of (v' := .pointer (some ⟨w.heap.size, 0, none⟩)) (w' := { w with heap := w.heap.push (.cells (a.eval y).cells t) }) ?_ (.ptr (setRen_eq _ _ ⟨w.heap.size, 0, (a.eval y).cells.size⟩)) (new_cells (el := t) hr hfn hvr.cells.toList rfl (fun _ => Heap.get_new _ _ _ _))
    simp [execOp, Instr.box, newVar, newRow]
  · cases hx

theorem s_build {zero : List Value} {pl : APlace} {parts : List (Nat × AOpd)} : Sound C P (.build zero pl parts) := by
  intro ρ n n' w o env h h' v a hc he hr hf hx
  obtain ⟨dst, op, type, pos, after, guard⟩ := o
  simp only at hc
  simp only [aop] at hx
  split at hx
  · rename_i ps hps
    split at hx
    · rename_i cs hcs
      cases hx
      cases op <;> first | (cases hc; done) | (rw [chk_notCall rfl] at hc; cases hc; done) | skip
      simp only [chkOp, Bool.and_eq_true] at hc
      rename_i t ps'
      obtain ⟨cs', e1, e2⟩ := build_sound (P := P) (w := w) (ps' := ps'.map fun p => (p.1, a.eval p.2)) hc.1.1 hc.1.2 (by simpa using chkParts_sound he hc.2 hps) hcs
      exact OpDoes.val hr (v' := .agg cs') (by simp only [execOp, Sem.run_bind]; rw [show (ps'.map fun (i, x) => (i, a.eval x)) = ps'.map fun p => (p.1, a.eval p.2) from rfl, e1]; rfl) (.agg e2.1 e2.2)
    · cases hx
  · cases hx

theorem s_buildSlice {e : Nat} {zero : List Value} {len : Nat} {parts : List (Nat × AOpd)} : Sound C P (.buildSlice e zero len parts) := by
  intro ρ n n' w o env h h' v a hc he hr hf hx
  obtain ⟨dst, op, type, pos, after, guard⟩ := o
  simp only at hc
  simp only [aop] at hx
  split at hx
  · rename_i ps hps
    split at hx
    · rename_i cs hcs
      cases hx
      cases op <;> first | (cases hc; done) | (rw [chk_notCall rfl] at hc; cases hc; done) | skip
      simp only [chkOp, Bool.and_eq_true] at hc
      rename_i t l ps'
      obtain ⟨⟨⟨h1, h2⟩, h3⟩, h4⟩ := hc
      have h1 := eq_of_beq_nat h1; subst h1
      simp only [Bool.and_eq_true, Nat.ble_eq] at h2
      obtain ⟨h2, h2'⟩ := h2
      split at h4
      · rename_i el hel
        simp only [Bool.and_eq_true] at h4
        have hlen : isOpen l = false := by
          unfold isOpen; rw [Bool.eq_false_iff, Ne, Nat.ble_eq]; omega
        obtain ⟨v', w', ρ', e1, e2, e3⟩ := buildSlice_sound (P := P) (n := n) hel h4.1.1 (eq_of_beq_nat h4.1.2) h4.2 h2 hlen hr (hf.1 n (Nat.le_refl _) (by omega)) (ps' := ps'.map fun p => (p.1, a.eval p.2)) (by simpa using chkParts_sound he h3 hps) hcs
        exact OpDoes.of (by simp only [execOp, Sem.run_bind]; rw [show (ps'.map fun (i, x) => (i, a.eval x)) = ps'.map fun p => (p.1, a.eval p.2) from rfl, e1]; rfl) e2 e3
      · cases h4
    · cases hx
  · cases hx

theorem s_load {agg : Option Nat} {x : AOpd} : Sound C P (.load agg x) := by
  intro ρ n n' w o env h h' v a hc he hr hf hx
  obtain ⟨dst, op, type, pos, after, guard⟩ := o
  simp only at hc
  simp only [aop] at hx
  split at hx
  · rename_i p hp
    simp only [Option.map_eq_some_iff] at hx
    obtain ⟨v0, hl, e⟩ := hx
    cases e
    cases op <;> first | (cases hc; done) | (rw [chk_notCall rfl] at hc; cases hc; done) | skip
    simp only [chkOp, Bool.and_eq_true] at hc
    obtain ⟨v', e1, e2⟩ := load_sound (P := P) hc.1 hr (chkOpd_sound he hc.2 hp) hl
    exact OpDoes.val hr (by simp only [execOp, Sem.run_bind, e1]; rfl) e2
  · cases hx

theorem s_store {size : Nat} {x y : AOpd} : Sound C P (.store size x y) := by
  intro ρ n n' w o env h h' v a hc he hr hf hx
  obtain ⟨dst, op, type, pos, after, guard⟩ := o
  simp only at hc
  simp only [aop] at hx
  split at hx
  · rename_i p q hp hq
    simp only [Option.map_eq_some_iff] at hx
    obtain ⟨h0, hl, e⟩ := hx
    cases e
    cases op <;> first | (cases hc; done) | (rw [chk_notCall rfl] at hc; cases hc; done) | skip
    simp only [chkOp, Bool.and_eq_true] at hc
    obtain ⟨w', e1, e2⟩ := store_sound (P := P) (n := n) hc.1.1 hr (chkOpd_sound he hc.1.2 hp) (chkOpd_sound he hc.2 hq) hl
    exact OpDoes.unit (by simp only [execOp, Sem.run_bind, e1]; rfl) e2
  · cases hx

theorem s_nilCheck {x : AOpd} : Sound C P (.nilCheck x) := by
  intro ρ n n' w o env h h' v a hc he hr hf hx
  obtain ⟨dst, op, type, pos, after, guard⟩ := o
  simp only at hc
  simp only [aop] at hx
  cases op <;> first | (cases hc; done) | (rw [chk_notCall rfl] at hc; cases hc; done) | skip
  simp only [chkOp] at hc
  split at hx
  · rename_i ad hp
    cases hx
    have hv := chkOpd_sound he hc hp
    obtain ⟨id, off, s, rfl, hid, e⟩ := hv.ptr_inv
    exact OpDoes.val hr (by simp only [execOp]; rw [e]; rfl) (.ptr hid)
  · rename_i f x y hp
    cases hx
    have hv := chkOpd_sound he hc hp
    generalize hE : a.eval _ = E at hv
    cases hv with
    | func f hfz hf hsz hh => exact OpDoes.val hr (by simp only [execOp]; rw [hE]; rfl) (.func f hfz hf hsz hh)
  · rename_i f x y hp
    cases hx
    have hv := chkOpd_sound he hc hp
    generalize hE : a.eval _ = E at hv
    cases hv with
    | yield hl => exact OpDoes.val hr (by simp only [execOp]; rw [hE]; rfl) (.yield hl)
  · cases hx

theorem s_bin {bop : BinOp} {x y : AOpd} : Sound C P (.bin bop x y) := by
  intro ρ n n' w o env h h' v a hc he hr hf hx
  obtain ⟨dst, op, type, pos, after, guard⟩ := o
  simp only at hc
  simp only [aop] at hx
  split at hx
  · rename_i p q hp hq
    simp only [Option.map_eq_some_iff] at hx
    obtain ⟨v0, hl, e⟩ := hx
    cases e
    cases op <;> first | (cases hc; done) | (rw [chk_notCall rfl] at hc; cases hc; done) | skip
    simp only [chkOp, Bool.and_eq_true] at hc
    rename_i bop' t X Y yt
    have hop : bop' = bop := by
      have := hc.1.1
      simp only [chkBin, Bool.or_eq_true, Bool.and_eq_true, decide_eq_true_eq] at this
      rcases this with ⟨h, _⟩ | h <;> exact h
    subst hop
    obtain ⟨e1, e2⟩ := abin_sound (P := P) (w := w) hl t X Y (chkOpd_sound he hc.1.2 hp) (chkOpd_sound he hc.2 hq)
    exact OpDoes.val hr (by simp only [execOp]; rw [Sem.run_bind, e1]; rfl) (VR.of_plain e2)
  · cases hx

theorem s_eqFlat {neg : Bool} {ds : List Leaf} {x y : AOpd} : Sound C P (.eqFlat neg ds x y) := by
  intro ρ n n' w o env h h' v a hc he hr hf hx
  obtain ⟨dst, op, type, pos, after, guard⟩ := o
  simp only at hc
  simp only [aop] at hx
  split at hx
  · rename_i p q hp hq
    simp only [Option.map_eq_some_iff] at hx
    obtain ⟨v0, hl, e⟩ := hx
    cases e
    cases op <;> first | (cases hc; done) | (rw [chk_notCall rfl] at hc; cases hc; done) | skip
    simp only [chkOp, Bool.and_eq_true, Bool.not_eq_true'] at hc
    rename_i bop' t X Y yt
    have e1 := eqFlat_sound (P := P) (w := w) hc.1.1.2.1 hc.1.1.2.2 hl (chkOpd_sound he hc.1.2 hp) (chkOpd_sound he hc.2 hq) hc.1.1.1 X Y
    exact OpDoes.val hr (by simp only [execOp]; rw [Sem.run_bind, e1]; rfl) (.bool _)
  · cases hx

theorem s_nilEq {neg : Bool} {k : NKind} {x y : AOpd} : Sound C P (.nilEq neg k x y) := by
  intro ρ n n' w o env h h' v a hc he hr hf hx
  obtain ⟨dst, op, type, pos, after, guard⟩ := o
  simp only at hc
  simp only [aop] at hx
  split at hx
  · rename_i p q hp hq
    simp only [Option.map_eq_some_iff] at hx
    obtain ⟨v0, hl, e⟩ := hx
    cases e
    cases op <;> first | (cases hc; done) | (rw [chk_notCall rfl] at hc; cases hc; done) | skip
    simp only [chkOp, Bool.and_eq_true] at hc
    rename_i bop' t X Y yt
    have e1 := nilEq_sound (P := P) (w := w) hc.1.1.2 hl (chkOpd_sound he hc.1.2 hp) (chkOpd_sound he hc.2 hq) hc.1.1.1 X Y
    exact OpDoes.val hr (by simp only [execOp]; rw [Sem.run_bind, e1]; rfl) (.bool _)
  · cases hx

theorem s_un {uop : UnOp} {x : AOpd} : Sound C P (.un uop x) := by
  intro ρ n n' w o env h h' v a hc he hr hf hx
  obtain ⟨dst, op, type, pos, after, guard⟩ := o
  simp only at hc
  simp only [aop] at hx
  split at hx
  · rename_i p hp
    simp only [Option.map_eq_some_iff] at hx
    obtain ⟨v0, hl, e⟩ := hx
    cases e
    cases op <;> first | (cases hc; done) | (rw [chk_notCall rfl] at hc; cases hc; done) | skip
    simp only [chkOp, Bool.and_eq_true, decide_eq_true_eq] at hc
    obtain ⟨rfl, hc2⟩ := hc
    obtain ⟨e1, e2⟩ := un_sound (P := P) (w := w) hl (chkOpd_sound he hc2 hp)
    exact OpDoes.val hr (by simp only [execOp]; rw [Sem.run_bind, e1]; rfl) (VR.of_plain e2)
  · cases hx

theorem s_convInt {k : IntKind} {x : AOpd} : Sound C P (.convInt k x) := by
  intro ρ n n' w o env h h' v a hc he hr hf hx
  obtain ⟨dst, op, type, pos, after, guard⟩ := o
  simp only at hc
  simp only [aop] at hx
  split at hx
  · rename_i k1 m hp
    cases hx
    cases op <;> first | (cases hc; done) | (rw [chk_notCall rfl] at hc; cases hc; done) | skip
    simp only [chkOp, Bool.and_eq_true] at hc
    have e1 := (chkOpd_sound he hc.1 hp).int_inv
    exact OpDoes.val hr (by simp only [execOp]; rw [Sem.run_bind, e1, convInt_sound hc.2]; rfl) (.int _ _)
  · cases hx

theorem s_convId {x : AOpd} : Sound C P (.convId x) := by
  intro ρ n n' w o env h h' v a hc he hr hf hx
  obtain ⟨dst, op, type, pos, after, guard⟩ := o
  simp only at hc
  simp only [aop] at hx
  split at hx
  · rename_i s hp
    cases hx
    cases op <;> first | (cases hc; done) | (rw [chk_notCall rfl] at hc; cases hc; done) | skip
    simp only [chkOp, Bool.and_eq_true] at hc
    have e1 := (chkOpd_sound he hc.1 hp).string_inv
    exact OpDoes.val hr (by simp only [execOp]; rw [Sem.run_bind, e1, convId_sound hc.2]; rfl) (.string _)
  · cases hx

theorem s_convBytes {x : AOpd} : Sound C P (.convBytes x) := by
  intro ρ n n' w o env h h' v a hc he hr hf hx
  obtain ⟨dst, op, type, pos, after, guard⟩ := o
  simp only at hc
  simp only [aop] at hx
  split at hx
  · rename_i s hp
    split at hx
    · rename_i hle
      rw [Nat.ble_eq] at hle
      cases hx
      cases op <;> first | (cases hc; done) | (rw [chk_notCall rfl] at hc; cases hc; done) | skip
      simp only [chkOp, Bool.and_eq_true] at hc
      have e1 := (chkOpd_sound he hc.1 hp).string_inv
      obtain ⟨v', w', ρ', q1, q2, q3⟩ := convBytes_sound (P := P) (n := n) hc.2 s hle hr (hf.1 n (Nat.le_refl _) (by omega)) (fun _ => Heap.get_new _ _ _ _)
      exact OpDoes.of (by simp only [execOp]; rw [Sem.run_bind, e1, q1]; rfl) q2 q3
    · cases hx
  · cases hx

theorem s_convStr {x : AOpd} : Sound C P (.convStr x) := by
  intro ρ n n' w o env h h' v a hc he hr hf hx
  obtain ⟨dst, op, type, pos, after, guard⟩ := o
  simp only at hc
  exfalso
  cases op <;> first | (cases hc; done) | (rw [chk_notCall rfl] at hc; cases hc; done)

theorem s_makeFunc {f : FuncId} {first0 cap : List AOpd} : Sound C P (.makeFunc f first0 cap) := by
  intro ρ n n' w o env h h' v a hc he hr hf hx
  obtain ⟨dst, op, type, pos, after, guard⟩ := o
  simp only at hc
  simp only [aop] at hx
  split at hx
  · rename_i fs0 cs hfs hcs
    cases hx
    cases op <;> first | (cases hc; done) | (rw [chk_notCall rfl] at hc; cases hc; done) | skip
    rename_i fn first captured
    cases fn with
    | func g =>
      simp only [chkOp, Bool.and_eq_true] at hc
      have h1 := eq_of_beq_nat hc.1.1; subst h1
      have h2 := (chkOpds_sound he hc.1.2 hfs)
      have h3 := (chkOpds_sound he hc.2 hcs)
      refine OpDoes.val hr (v' := .func (.func g) (first.map a.eval) (captured.map a.eval)) (by simp [execOp, Instr.makeFunc]) ?_
      have t1 := (LR.toAR (c := fs0.toArray) (c' := first.map a.eval) (by simpa using h2))
      have t2 := (LR.toAR (c := cs.toArray) (c' := captured.map a.eval) (by simpa using h3))
      exact .func g t1.1 t1.2 t2.1 t2.2
    | _ => simp [chkOp] at hc
  · cases hx

theorem s_makeMap  : Sound C P (.makeMap) := by
  intro ρ n n' w o env h h' v a hc he hr hf hx
  obtain ⟨dst, op, type, pos, after, guard⟩ := o
  simp only at hc
  simp only [aop] at hx
  cases hx
  cases op <;> first | (cases hc; done) | (rw [chk_notCall rfl] at hc; cases hc; done) | skip
  rename_i t r
  cases r with
  | some _ => simp [chkOp] at hc
  | none =>
    have hfn : ρ n = none := hf.1 n (Nat.le_refl _) (by omega)
    refine OpDoes.of (v' := .map (some w.heap.size)) (w' := { w with heap := w.heap.push (.map #[] 0) }) (by simp [execOp, Instr.makeMap]) (.map (setRen_eq _ _ ⟨w.heap.size, 0, 0⟩)) (Ext.new (o := .map [] 0) (x := .map #[] 0) hr hfn (fun _ => Heap.get_new _ _ _ _) rfl rfl rfl rfl rfl ?_)
    exact ⟨#[], by simp, rfl, fun i e he => by simp at he⟩

theorem s_makeSlice {e bytes : Nat} {zero : List Value} {l c : AOpd} : Sound C P (.makeSlice e bytes zero l c) := by
  intro ρ n n' w o env h h' v a hc he hr hf hx
  obtain ⟨dst, op, type, pos, after, guard⟩ := o
  simp only at hc
  simp only [aop] at hx
  split at hx
  · rename_i av bv ha hb
    split at hx
    · rename_i l c hl hcc
      split at hx
      · rename_i hle
        simp only [Bool.and_eq_true, Nat.ble_eq] at hle
        cases hx
        cases op <;> first | (cases hc; done) | (rw [chk_notCall rfl] at hc; cases hc; done) | skip
        simp only [chkOp, Bool.and_eq_true] at hc
        obtain ⟨⟨c1, c2⟩, c3⟩ := hc
        split at c3
        · rename_i el hel
          simp only [Bool.and_eq_true] at c3
          obtain ⟨k1, e1⟩ := asIx_VR hl (chkOpd_sound he c1 ha)
          obtain ⟨k2, e2⟩ := asIx_VR hcc (chkOpd_sound he c2 hb)
          obtain ⟨v', w', ρ', q1, q2, q3⟩ := makeSlice_sound (P := P) (n := n) (k1 := k1) (k2 := k2) hel c3.1.1.1 c3.1.1.2 (eq_of_beq_nat c3.1.2) c3.2 hr (hf.1 n (Nat.le_refl _) (by omega)) hle.1.1 hle.1.2 hle.2
          exact OpDoes.of (by simp only [execOp]; rw [Sem.run_bind, e1, e2, q1]; rfl) q2 q3
        · cases c3
      · cases hx
    · cases hx
  · cases hx

theorem s_fieldAddr {off : Nat} {x : AOpd} : Sound C P (.fieldAddr off x) := by
  intro ρ n n' w o env h h' v a hc he hr hf hx
  obtain ⟨dst, op, type, pos, after, guard⟩ := o
  simp only at hc
  simp only [aop] at hx
  split at hx
  · rename_i id o hp
    cases hx
    cases op <;> first | (cases hc; done) | (rw [chk_notCall rfl] at hc; cases hc; done) | skip
    simp only [chkOp, Bool.and_eq_true] at hc
    rename_i t X f
    obtain ⟨id', off', s, e, hs, e1⟩ := (chkOpd_sound he hc.1 hp).ptr_inv
    cases e
    have hc2 := hc.2
    split at hc2
    · rename_i fs hu
      split at hc2
      · rename_i fd hfd
        simp only [Bool.and_eq_true] at hc2
        have ho := eq_of_beq_nat hc2.1
        have hc3 := hc2.2
        split at hc3
        · rename_i i hi
          have hi0 : ¬ i.size = 0 := fun h => by simp [h] at hc3
          refine OpDoes.val hr (v' := .pointer (some ⟨s.b, s.o + (o + off), none⟩)) ?_ (.ptr hs)
          simp [execOp, e1, Instr.fieldAt, run_underlying hu, hfd, Instr.sureAddr, fieldPlace, sizeOf, typeInfo, hi, hi0, add_addr, ho, Nat.add_assoc]
        · cases hc3
      · cases hc2
    · cases hc2
  · cases hx

theorem s_field {agg : Option Nat} {off : Nat} {x : AOpd} : Sound C P (.field agg off x) := by
  intro ρ n n' w o env h h' v a hc he hr hf hx
  obtain ⟨dst, op, type, pos, after, guard⟩ := o
  simp only at hc
  simp only [aop] at hx
  split at hx
  · rename_i cs hp
    simp only [Option.map_eq_some_iff] at hx
    obtain ⟨v0, hl, e⟩ := hx
    cases e
    cases op <;> first | (cases hc; done) | (rw [chk_notCall rfl] at hc; cases hc; done) | skip
    simp only [chkOp, Bool.and_eq_true] at hc
    obtain ⟨cs', e1, hcs⟩ := (chkOpd_sound he hc.1 hp).agg_inv
    have hc2 := hc.2
    split at hc2
    · rename_i fs hu
      split at hc2
      · rename_i fd hfd
        simp only [Bool.and_eq_true] at hc2
        have ho := eq_of_beq_nat hc2.1
        obtain ⟨v', q1, q2⟩ := partOf_sound (P := P) (w := w) hc2.2 hcs hl
        refine OpDoes.val hr ?_ q2
        simp only [execOp, Sem.run_bind, e1, Instr.field, run_underlying hu, Result.andThen_ok, hfd, asAgg, Sem.run_pure, ho, q1]
      · cases hc2
    · cases hc2
  · cases hx

theorem s_indexAddr {arr : Option Nat} {e : Nat} {x i : AOpd} : Sound C P (.indexAddr arr e x i) := by
  intro ρ n n' w o env h h' v a hc he hr hf hx
  obtain ⟨dst, op, type, pos, after, guard⟩ := o
  simp only at hc
  simp only [aop] at hx
  cases op <;> first | (cases hc; done) | (rw [chk_notCall rfl] at hc; cases hc; done) | skip
  simp only [chkOp, Bool.and_eq_true] at hc
  obtain ⟨⟨c1, c2⟩, c3⟩ := hc
  split at hx
  · rename_i id o len cap iv hp hi
    split at hx
    · rename_i j hj
      split at hx
      · rename_i hlt
        have hlt : j < len := by simp [Nat.blt, Nat.ble_eq] at hlt; omega
        cases hx
        obtain ⟨id', off', s, cap', e0, hs, _, e1⟩ := (chkOpd_sound he c1 hp).slice_inv
        cases e0
        obtain ⟨k, e2⟩ := asIx_VR hj (chkOpd_sound he c2 hi)
        split at c3
        · rename_i el hu _
          refine OpDoes.val hr (v' := .pointer (some ⟨s.b, s.o + (o + j * e), none⟩)) ?_ (.ptr hs)
          simp [execOp, e1, e2, Instr.indexAt, run_underlying hu, asIntOf, hlt, sizeIs_sound c3 w, add_addr, Nat.add_assoc]
        · rename_i h1 h2; cases h2
        · cases c3
      · cases hx
    · cases hx
  · rename_i len id o iv hp hi
    split at hx
    · rename_i j hj
      split at hx
      · rename_i hlt
        have hlt : j < len := by simp [Nat.blt, Nat.ble_eq] at hlt; omega
        cases hx
        obtain ⟨id', off', s, e0, hs, e1⟩ := (chkOpd_sound he c1 hp).ptr_inv
        cases e0
        obtain ⟨k, e2⟩ := asIx_VR hj (chkOpd_sound he c2 hi)
        split at c3
        · rename_i h1 h2; cases h2
        · rename_i m el m' hu heq
          cases heq
          simp only [Bool.and_eq_true] at c3
          have hm := eq_of_beq_nat c3.1
          subst hm
          refine OpDoes.val hr (v' := .pointer (some ⟨s.b, s.o + (o + j * e), none⟩)) ?_ (.ptr hs)
          simp [execOp, e1, e2, Instr.indexAt, run_underlying hu, asIntOf, hlt, sizeIs_sound c3.2 w, add_addr, Nat.add_assoc, Instr.sureAddr]
        · cases c3
      · cases hx
    · cases hx
  · cases hx

theorem s_indexStr {x i : AOpd} : Sound C P (.indexStr x i) := by
  intro ρ n n' w o env h h' v a hc he hr hf hx
  obtain ⟨dst, op, type, pos, after, guard⟩ := o
  simp only at hc
  simp only [aop] at hx
  cases op <;> first | (cases hc; done) | (rw [chk_notCall rfl] at hc; cases hc; done) | skip
  simp only [chkOp, Bool.and_eq_true] at hc
  obtain ⟨⟨c1, c2⟩, c3⟩ := hc
  split at hx
  · rename_i s iv hp hi
    split at hx
    · rename_i j hj
      split at hx
      · rename_i b hb
        cases hx
        have e1 := (chkOpd_sound he c1 hp).string_inv
        obtain ⟨k, e2⟩ := asIx_VR hj (chkOpd_sound he c2 hi)
        split at c3
        · rename_i hu
          refine OpDoes.val hr ?_ (.int _ _)
          simp [execOp, e1, e2, Instr.index, run_underlying hu, asIntOf, hb]
        · cases c3
      · cases hx
    · cases hx
  · cases hx

theorem s_indexArr {len : Nat} {agg : Option Nat} {e : Nat} {x i : AOpd} : Sound C P (.indexArr len agg e x i) := by
  intro ρ n n' w o env h h' v a hc he hr hf hx
  obtain ⟨dst, op, type, pos, after, guard⟩ := o
  simp only at hc
  simp only [aop] at hx
  cases op <;> first | (cases hc; done) | (rw [chk_notCall rfl] at hc; cases hc; done) | skip
  simp only [chkOp, Bool.and_eq_true] at hc
  obtain ⟨⟨c1, c2⟩, c3⟩ := hc
  split at hx
  · rename_i cs iv hp hi
    split at hx
    · rename_i j hj
      split at hx
      · rename_i hlt
        have hlt : j < len := by simp [Nat.blt, Nat.ble_eq] at hlt; omega
        simp only [Option.map_eq_some_iff] at hx
        obtain ⟨v0, hl, e0⟩ := hx
        cases e0
        obtain ⟨cs', e1, hcs⟩ := (chkOpd_sound he c1 hp).agg_inv
        obtain ⟨k, e2⟩ := asIx_VR hj (chkOpd_sound he c2 hi)
        split at c3
        · rename_i m el hu
          simp only [Bool.and_eq_true] at c3
          have hm := eq_of_beq_nat c3.1.1
          subst hm
          obtain ⟨v', q1, q2⟩ := partOf_sound (P := P) (w := w) c3.2 hcs hl
          refine OpDoes.val hr ?_ q2
          simp [execOp, e1, e2, Instr.index, run_underlying hu, asIntOf, hlt, sizeIs_sound c3.1.2 w, q1]
        · cases c3
      · cases hx
    · cases hx
  · cases hx

theorem s_extract {t : AOpd} {i : Nat} : Sound C P (.extract t i) := by
  intro ρ n n' w o env h h' v a hc he hr hf hx
  obtain ⟨dst, op, type, pos, after, guard⟩ := o
  simp only at hc
  simp only [aop] at hx
  split at hx
  · rename_i vs hp
    split at hx
    · rename_i v0 hv
      cases hx
      cases op <;> first | (cases hc; done) | (rw [chk_notCall rfl] at hc; cases hc; done) | skip
      simp only [chkOp, Bool.and_eq_true] at hc
      have hi := eq_of_beq_nat hc.2; subst hi
      obtain ⟨vs', e1, hvs⟩ := (chkOpd_sound he hc.1 hp).tuple_inv
      obtain ⟨v', q1, q2⟩ := hvs.toList.get _ v (by simpa using hv)
      exact OpDoes.val hr (v' := v') (by simp only [execOp]; rw [e1]; simp at q1; simp [Instr.extract, q1]) q2
    · cases hx
  · cases hx
end Go.Proofs.Ytbhgncfbljkdgaa.AI
