/-
  Each operation that is no call of a Go function does on a world what the abstract one does on the abstract heap: the builtins; all of them.
-/
import Derived.Test.YtbhgncfbljkdgaaA12
namespace Go.Proofs.Ytbhgncfbljkdgaa.AI
open Go

variable {P : Program} {C : Stands} {ρ : Ren} {n n' : Nat} {w : World} {o : Oper} {env : Env} {h h' : Heap} {v : Value} {a : Act}

def builtinKind : AOp → Bool
  | .len .. | .append .. | .copy .. | .clearMap .. | .clearSlice .. | .delete .. | .minmax .. => true
  | _ => false

theorem chk_builtin {op : Op} {x : AOp} (hk : builtinKind x = true) (hc : chkOp P op x = true) : ∃ b args ts, op = .call { callee := .builtin b, args := args, argTypes := ts } ∧ chkBuiltin P b ts.toList args.toList x = true := by
  cases op with
  | call c =>
    obtain ⟨callee, args, ts⟩ := c
    cases callee with
    | value f => cases x <;> first | (simp [builtinKind] at hk; done) | (cases f <;> simp [chkOp] at hc)
    | invoke r m => cases x <;> first | (simp [builtinKind] at hk; done) | (simp [chkOp] at hc)
    | builtin b => exact ⟨b, args, ts, rfl, by cases x <;> first | (simp [builtinKind] at hk; done) | exact hc⟩
  | _ => cases x <;> first | (simp [builtinKind] at hk; done) | (cases hc)

theorem exec_builtin {b : Builtin} {args : Array Operand} {ts : Array TypeId} {dst : Option Tmp} {type : TypeId} {pos : String} {after : Array Edge} {guard : Option (Nat × Bool)} (ρ : Operand → Value) :
    ∃ consts, execOp ρ { dst, op := .call { callee := .builtin b, args, argTypes := ts }, type, pos, after, guard } = builtin b ts type consts (args.map ρ) := ⟨_, rfl⟩

theorem arr_get {α : Type} {xs : Array α} {l : List α} (h : xs.toList = l) (i : Nat) : xs[i]? = l[i]? := by subst h; simp
theorem arr_of {α : Type} {xs : Array α} {l : List α} (h : xs.toList = l) : xs = l.toArray := by subst h; simp

theorem s_len {k : LKind} {x : AOpd} : Sound C P (.len k x) := by
  intro ρ n n' w o env h h' v a hc he hr hf hx
  obtain ⟨dst, op, type, pos, after, guard⟩ := o
  obtain ⟨b, args, ts, rfl, hb⟩ := chk_builtin rfl hc
  obtain ⟨consts, hex⟩ := exec_builtin (b := b) (args := args) (ts := ts) (dst := dst) (type := type) (pos := pos) (after := after) (guard := guard) a.eval
  rw [hex]
  unfold chkBuiltin at hb
  split at hb
  case h_1 t tr X k' y hts hargs heq =>
    cases heq
    simp only [Bool.and_eq_true] at hb
    obtain ⟨h1, h2⟩ := hb
    have ha : args.map a.eval = #[a.eval X] := by rw [arr_of hargs]; simp
    have ht : ts[0]? = some t := by rw [arr_get hts]; rfl
    simp only [aop] at hx
    split at hx
    · rename_i s hp
      cases hx
      have e1 := (chkOpd_sound he h1 hp).string_inv
      have hu : P.underlying t = some .string := by
        split at h2
        · assumption
        · rename_i q; cases q
        · rename_i q; cases q
        · rename_i q; cases q
        · rename_i q; cases q
        · cases h2
      exact OpDoes.val hr (by rw [ha]; simp [builtin, Builtin.len_, ht, run_underlying hu, e1, goInt]) (.int _ _)
    · rename_i m vv hp
      cases hx
      split at h2
      · rename_i q; cases q
      · rename_i q; cases q
      · rename_i q; cases q
      · rename_i n0 e0 m0 hu q
        cases q
        have := eq_of_beq_nat h2; subst this
        exact OpDoes.val hr (by rw [ha]; simp [builtin, Builtin.len_, ht, run_underlying hu, goInt]) (.int _ _)
      · rename_i e0 m0 hu q
        cases q
        split at h2
        · rename_i n0 e1 hu2
          have := eq_of_beq_nat h2; subst this
          exact OpDoes.val hr (by rw [ha]; simp [builtin, Builtin.len_, ht, run_underlying hu, run_underlying hu2, goInt]) (.int _ _)
        · cases h2
      · cases h2
    · rename_i base m cap hp
      cases hx
      have hv := chkOpd_sound he h1 hp
      have hu : ∃ e, P.underlying t = some (.slice e) := by
        split at h2
        · rename_i q; cases q
        · rename_i hu _; exact ⟨_, hu⟩
        · rename_i q; cases q
        · rename_i q; cases q
        · rename_i q; cases q
        · cases h2
      obtain ⟨e, hu⟩ := hu
      have hE : ∃ base' cap', a.eval X = .slice base' m cap' := by
        generalize a.eval X = E at hv
        cases hv <;> exact ⟨_, _, rfl⟩
      obtain ⟨base', cap', e1⟩ := hE
      exact OpDoes.val hr (by rw [ha]; simp [builtin, Builtin.len_, ht, run_underlying hu, e1, goInt]) (.int _ _)
    · rename_i mv hp
      split at hx
      · rename_i es c hes
        cases hx
        have hu : ∃ e f, P.underlying t = some (.map e f) := by
          split at h2
          · rename_i q; cases q
          · rename_i q; cases q
          · rename_i hu _; exact ⟨_, _, hu⟩
          · rename_i q; cases q
          · rename_i q; cases q
          · cases h2
        obtain ⟨e, f, hu⟩ := hu
        rcases mapAt_sound hr (chkOpd_sound he h1 hp) hes with ⟨e1, rfl⟩ | ⟨r, s, es', _, _, e1, hw, hR⟩
        · exact OpDoes.val hr (by rw [ha]; simp [builtin, Builtin.len_, ht, run_underlying hu, e1, goInt]) (.int _ _)
        · exact OpDoes.val hr (by rw [ha]; simp [builtin, Builtin.len_, ht, run_underlying hu, e1, run_getObj_map hw, goInt, hR.1]) (.int _ _)
      · cases hx
    · cases hx
  all_goals first | (rename_i heq; cases heq; done) | (cases hb)

theorem s_append {e bytes : Nat} {x y : AOpd} : Sound C P (.append e bytes x y) := by
  intro ρ n n' w o env h h' v a hc he hr hf hx
  obtain ⟨dst, op, type, pos, after, guard⟩ := o
  obtain ⟨b, args, ts, rfl, hb⟩ := chk_builtin rfl hc
  obtain ⟨consts, hex⟩ := exec_builtin (b := b) (args := args) (ts := ts) (dst := dst) (type := type) (pos := pos) (after := after) (guard := guard) a.eval
  rw [hex]
  unfold chkBuiltin at hb
  split at hb
  case h_2 t t2 tr X Y e0 b0 x' y' hts hargs heq =>
    cases heq
    simp only [Bool.and_eq_true] at hb
    obtain ⟨⟨⟨h1, h2⟩, h3⟩, h4⟩ := hb
    have ha : args.map a.eval = #[a.eval X, a.eval Y] := by rw [arr_of hargs]; simp
    have ht : ts[0]? = some t := by rw [arr_get hts]; rfl
    have ht2 : ts[1]? = some t2 := by rw [arr_get hts]; rfl
    simp only [aop] at hx
    split at hx
    · rename_i p q hp hq
      split at h3
      · rename_i el hel
        simp only [Bool.and_eq_true] at h3
        obtain ⟨⟨g1, g2⟩, g3⟩ := h3
        split at g3
        · rename_i z hz
          obtain ⟨v', w', ρ', q1, q2, q3⟩ := append_sound (P := P) (ty := type) ht ht2 hel h4 g1 g2 hz (eq_of_beq_nat g3) hr hf (chkOpd_sound he h1 hp) (chkOpd_sound he h2 hq) hx
          exact OpDoes.of (by rw [ha]; simp [builtin, q1]) q2 q3
        · cases g3
      · cases h3
    · cases hx
  all_goals first | (rename_i heq; cases heq; done) | (cases hb)

theorem s_copy {e : Nat} {x y : AOpd} : Sound C P (.copy e x y) := by
  intro ρ n n' w o env h h' v a hc he hr hf hx
  obtain ⟨dst, op, type, pos, after, guard⟩ := o
  obtain ⟨b, args, ts, rfl, hb⟩ := chk_builtin rfl hc
  obtain ⟨consts, hex⟩ := exec_builtin (b := b) (args := args) (ts := ts) (dst := dst) (type := type) (pos := pos) (after := after) (guard := guard) a.eval
  rw [hex]
  unfold chkBuiltin at hb
  split at hb
  case h_3 t tr X Y e0 x' y' hts hargs heq =>
    cases heq
    simp only [Bool.and_eq_true] at hb
    obtain ⟨⟨h1, h2⟩, h3⟩ := hb
    have ha : args.map a.eval = #[a.eval X, a.eval Y] := by rw [arr_of hargs]; simp
    have ht : ts[0]? = some t := by rw [arr_get hts]; rfl
    simp only [aop] at hx
    split at hx
    · rename_i p q hp hq
      split at h3
      · rename_i el hel
        split at hx
        · rename_i v0 h0 hcp
          cases hx
          obtain ⟨w', q1, q2, q3⟩ := copy_sound (P := P) (n := n) (ty := type) ht hel h3 hr (chkOpd_sound he h1 hp) (chkOpd_sound he h2 hq) hcp
          exact OpDoes.of (by rw [ha]; simp [builtin, q1]) (VR.of_plain q2) q3
        · cases hx
      · cases h3
    · cases hx
  all_goals first | (rename_i heq; cases heq; done) | (cases hb)

theorem s_clearMap {x : AOpd} : Sound C P (.clearMap x) := by
  intro ρ n n' w o env h h' v a hc he hr hf hx
  obtain ⟨dst, op, type, pos, after, guard⟩ := o
  obtain ⟨b, args, ts, rfl, hb⟩ := chk_builtin rfl hc
  obtain ⟨consts, hex⟩ := exec_builtin (b := b) (args := args) (ts := ts) (dst := dst) (type := type) (pos := pos) (after := after) (guard := guard) a.eval
  rw [hex]
  unfold chkBuiltin at hb
  split at hb
  case h_4 t tr X x' hts hargs heq =>
    cases heq
    simp only [Bool.and_eq_true] at hb
    obtain ⟨h1, h2⟩ := hb
    have ha : args.map a.eval = #[a.eval X] := by rw [arr_of hargs]; simp
    have ht : ts[0]? = some t := by rw [arr_get hts]; rfl
    simp only [aop] at hx
    split at hx
    · rename_i r hp
      split at hx
      · rename_i es c hg
        cases hx
        split at h2
        · rename_i u hu
          obtain ⟨s, hs, e1⟩ := (chkOpd_sound he h1 hp).map_inv
          obtain ⟨es', hw, hR1, hR2⟩ := hr.slot hg hs
          refine OpDoes.of (v' := .tuple #[]) ?_ (VR.of_plain rfl) (Ext.setMap (C := C) (n := n) (c2 := c) (es2' := #[]) hr hg hs hw ⟨rfl, fun i e he => by simp at he⟩)
          rw [ha]
          simp [builtin, Builtin.clear_, ht, run_underlying hu, e1, run_getObj_map hw, run_setObj_map hw]
        · cases h2
      · cases hx
    · cases hx
  all_goals first | (rename_i heq; cases heq; done) | (cases hb)

theorem s_clearSlice {zero : List Value} {x : AOpd} : Sound C P (.clearSlice zero x) := by
  intro ρ n n' w o env h h' v a hc he hr hf hx
  obtain ⟨dst, op, type, pos, after, guard⟩ := o
  obtain ⟨b, args, ts, rfl, hb⟩ := chk_builtin rfl hc
  obtain ⟨consts, hex⟩ := exec_builtin (b := b) (args := args) (ts := ts) (dst := dst) (type := type) (pos := pos) (after := after) (guard := guard) a.eval
  rw [hex]
  unfold chkBuiltin at hb
  split at hb
  case h_5 t tr X z0 x' hts hargs heq =>
    cases heq
    simp only [Bool.and_eq_true] at hb
    obtain ⟨h1, h2⟩ := hb
    have ha : args.map a.eval = #[a.eval X] := by rw [arr_of hargs]; simp
    have ht : ts[0]? = some t := by rw [arr_get hts]; rfl
    split at h2
    · rename_i el hel
      obtain ⟨zv, z1, z2, z3⟩ := chkZero_sound h2 w
      simp only [aop] at hx
      split at hx
      · rename_i len cap hp
        cases hx
        obtain ⟨_, _, e1⟩ := (chkOpd_sound he h1 hp).sliceN_inv
        exact OpDoes.of (w' := w) (v' := .tuple #[]) (by rw [ha]; simp [builtin, Builtin.clear_, ht, elemOfSlice_sound hel w, e1]) (VR.of_plain rfl) (Ext.refl hr)
      · rename_i id off len cap hp
        obtain ⟨id', off', s, cap', e0, hs, _, e1⟩ := (chkOpd_sound he h1 hp).slice_inv
        cases e0
        split at hx
        · rename_i hl0
          have hl0 := eq_of_beq_nat hl0; subst hl0
          cases hx
          exact OpDoes.of (w' := w) (v' := .tuple #[]) (by rw [ha]; simp [builtin, Builtin.clear_, ht, elemOfSlice_sound hel w, e1]) (VR.of_plain rfl) (Ext.refl hr)
        · rename_i hl0
          have hl0 : len ≠ 0 := fun e => by subst e; exact hl0 rfl
          split at hx
          · rename_i cs hg
            split at hx
            · rename_i hle
              simp only [Bool.and_eq_true, Nat.ble_eq] at hle
              cases hx
              obtain ⟨w', q1, q2⟩ := write_sound (P := P) (n := n) (vs' := (Builtin.zeroCells zv.cells len).toList) hr hg hs (off := off) (vs := rep zero len) (by rw [zeroCells_rep, z2]; exact LR.of_pure (rep_pure z3 len)) hle.1 hle.2
                (g' := (h.set id (some (.cells false (putCells cs off (rep zero len))))).get) (fun j => Heap.get_set _ _ _ _)
              refine OpDoes.of (v' := .tuple #[]) ?_ (VR.of_plain rfl) q2
              rw [ha]
              cases len with
              | zero => exact absurd rfl hl0
              | succ m => simp [builtin, Builtin.clear_, ht, elemOfSlice_sound hel w, e1, z1, q1]
            · cases hx
          · cases hx
      · cases hx
    · cases h2
  all_goals first | (rename_i heq; cases heq; done) | (cases hb)

theorem s_delete {key : AKey} {m k : AOpd} : Sound C P (.delete key m k) := by
  intro ρ n n' w o env h h' v a hc he hr hf hx
  obtain ⟨dst, op, type, pos, after, guard⟩ := o
  obtain ⟨b, args, ts, rfl, hb⟩ := chk_builtin rfl hc
  obtain ⟨consts, hex⟩ := exec_builtin (b := b) (args := args) (ts := ts) (dst := dst) (type := type) (pos := pos) (after := after) (guard := guard) a.eval
  rw [hex]
  unfold chkBuiltin at hb
  split at hb
  case h_6 t tr X Y k0 x' y' hts hargs heq =>
    cases heq
    simp only [Bool.and_eq_true] at hb
    obtain ⟨⟨h1, h2⟩, h3⟩ := hb
    have ha : args.map a.eval = #[a.eval X, a.eval Y] := by rw [arr_of hargs]; simp
    have ht : ts[0]? = some t := by rw [arr_get hts]; rfl
    simp only [aop] at hx
    split at hx
    · rename_i r kv hm hk
      split at hx
      · rename_i es c hg
        split at hx
        · cases hx
        · rename_i hkk
          have hkk : keyOK key kv = true := by simpa using hkk
          split at h3
          · rename_i kt et hmo
            obtain ⟨s, hs, e1⟩ := (chkOpd_sound he h1 hm).map_inv
            have hvk := chkOpd_sound he h2 hk
            obtain ⟨es', hw, hR1, hR2⟩ := hr.slot hg hs
            have hents : EntsR ρ es es' := ⟨hR1, hR2⟩
            have hck := checkKey_sound (P := P) (w := w) h3 hvk hkk es'.isEmpty
            split at hx
            · rename_i i hfi
              cases hx
              obtain ⟨r', f1, f2, f3⟩ := find_sound (P := P) (w := w) h3 hvk hkk hents hfi
              cases r' with
              | none => simp at f2
              | some jv =>
                obtain ⟨j, vv⟩ := jv
                simp at f2; subst f2
                refine OpDoes.of (v' := .tuple #[]) ?_ (VR.of_plain rfl) (Ext.setMap (C := C) (n := n) (c2 := c) hr hg hs hw (hents.erase j))
                rw [ha]
                simp [builtin, Builtin.delete_, ht, mapOf_sound hmo w, e1, run_getObj_map hw, hck, f1, run_setObj_map hw]
            · rename_i hfi
              cases hx
              obtain ⟨r', f1, f2, f3⟩ := find_sound (P := P) (w := w) h3 hvk hkk hents hfi
              have : r' = none := by cases r' <;> simp at f2 ⊢
              subst this
              refine OpDoes.of (v' := .tuple #[]) ?_ (VR.of_plain rfl) (Ext.setMap (C := C) (n := n) (c2 := c) hr hg hs hw hents)
              rw [ha]
              simp [builtin, Builtin.delete_, ht, mapOf_sound hmo w, e1, run_getObj_map hw, hck, f1, run_setObj_map hw]
            · cases hx
          · cases h3
      · cases hx
    · cases hx
  all_goals first | (rename_i heq; cases heq; done) | (cases hb)

theorem minmax_fold (isMax : Bool) (k : IntKind) : ∀ (r r' : List Value) (x m : Int), LR ρ r r' →
    r.foldlM (fun (acc : Int) v => match v with | .int _ b => some (if isMax then (if b > acc then b else acc) else (if b < acc then b else acc)) | _ => none) x = some m →
    (r'.foldlM (if isMax then Builtin.max2 else Builtin.min2) (.int k x)).run P w = .ok (.int k m) w
  | [], _, x, m, .nil, h => by simp at h; subst h; rfl
  | v :: r, _ :: r', x, m, .cons hv ht, h => by
    simp only [List.foldlM_cons] at h ⊢
    cases v <;> simp at h
    rename_i kk b
    have := hv.int_inv; subst this
    cases isMax
    · simp only [Bool.false_eq_true, if_false, Sem.run_bind] at h ⊢
      simp only [Builtin.min2, Sem.run_pure, Result.andThen_ok]
      have := minmax_fold false k r r' _ m ht h
      simpa using this
    · simp only [if_true, Sem.run_bind] at h ⊢
      simp only [Builtin.max2, Sem.run_pure, Result.andThen_ok]
      have := minmax_fold true k r r' _ m ht h
      simpa using this

theorem s_minmax {isMax : Bool} {xs : List AOpd} : Sound C P (.minmax isMax xs) := by
  intro ρ n n' w o env h h' v a hc he hr hf hx
  obtain ⟨dst, op, type, pos, after, guard⟩ := o
  obtain ⟨b, args, ts, rfl, hb⟩ := chk_builtin rfl hc
  obtain ⟨consts, hex⟩ := exec_builtin (b := b) (args := args) (ts := ts) (dst := dst) (type := type) (pos := pos) (after := after) (guard := guard) a.eval
  rw [hex]
  simp only [aop] at hx
  split at hx
  · rename_i k x r hev
    split at hx
    · rename_i m hfold
      cases hx
      unfold chkBuiltin at hb
      split at hb
      case h_7 ys heq =>
        cases heq
        have hl := chkOpds_sound he hb hev
        cases hE : args.toList.map a.eval with
        | nil => rw [hE] at hl; cases hl
        | cons v0 r' =>
          rw [hE] at hl
          cases hl with
          | cons h0 ht =>
            have := h0.int_inv; subst this
            have := minmax_fold (P := P) (w := w) true k r r' x m ht hfold
            refine OpDoes.val hr (v' := .int k m) ?_ (.int _ _)
            simp only [builtin, Sem.run_bind, Builtin.max_, Array.toList_map, hE]
            simp only [if_true] at this
            rw [this]; rfl
      case h_8 ys heq =>
        cases heq
        have hl := chkOpds_sound he hb hev
        cases hE : args.toList.map a.eval with
        | nil => rw [hE] at hl; cases hl
        | cons v0 r' =>
          rw [hE] at hl
          cases hl with
          | cons h0 ht =>
            have := h0.int_inv; subst this
            have := minmax_fold (P := P) (w := w) false k r r' x m ht hfold
            refine OpDoes.val hr (v' := .int k m) ?_ (.int _ _)
            simp only [builtin, Sem.run_bind, Builtin.min_, Array.toList_map, hE]
            simp only [Bool.false_eq_true, if_false] at this
            rw [this]; rfl
      all_goals first | (rename_i heq; cases heq; done) | (cases hb)
    · cases hx
  · cases hx

/-- every operation that is no call of a Go function -/
theorem op_sound (x : AOp) : Sound C P x := by
  cases x with
  | bad => intro ρ n n' w o env h h' v a hc he hr hf hx; simp [aop] at hx
  | move x => exact s_move
  | pick c x y => exact s_pick
  | alloc z => exact s_alloc
  | box x => exact s_box
  | build z p q => exact s_build
  | buildSlice e z l q => exact s_buildSlice
  | load g x => exact s_load
  | store s x y => exact s_store
  | nilCheck x => exact s_nilCheck
  | bin op x y => exact s_bin
  | eqFlat g d x y => exact s_eqFlat
  | nilEq g k x y => exact s_nilEq
  | un op x => exact s_un
  | convInt k x => exact s_convInt
  | convId x => exact s_convId
  | convBytes x => exact s_convBytes
  | convStr x => exact s_convStr
  | makeFunc f c d => exact s_makeFunc
  | makeMap => exact s_makeMap
  | makeSlice e b z l c => exact s_makeSlice
  | slice k x l h m => exact s_slice
  | fieldAddr o x => exact s_fieldAddr
  | field g o x => exact s_field
  | indexAddr g e x i => exact s_indexAddr
  | indexStr x i => exact s_indexStr
  | indexArr n g e x i => exact s_indexArr
  | lookup k z o m i => exact s_lookup
  | mapUpdate k m i v => exact s_mapUpdate
  | mapEntry k z m i => exact s_mapEntry
  | entryStore m s v => exact s_entryStore
  | extract t i => exact s_extract
  | len k x => exact s_len
  | append e b s x => exact s_append
  | copy e d s => exact s_copy
  | clearMap m => exact s_clearMap
  | clearSlice z x => exact s_clearSlice
  | delete k m i => exact s_delete
  | minmax b xs => exact s_minmax
  | call f as => intro ρ n n' w o env h h' v a hc he hr hf hx; simp [aop] at hx
  | callv f as => intro ρ n n' w o env h h' v a hc he hr hf hx; simp [aop] at hx
end Go.Proofs.Ytbhgncfbljkdgaa.AI
