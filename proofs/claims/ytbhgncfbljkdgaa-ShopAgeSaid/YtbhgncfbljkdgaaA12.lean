/-
  Each operation that is no call does on a world what the abstract one does on the abstract heap: operation by operation.
-/
import Derived.Test.YtbhgncfbljkdgaaA11
namespace Go.Proofs.Ytbhgncfbljkdgaa.AI
open Go

variable {P : Program} {C : Stands} {ρ : Ren} {n n' : Nat} {w : World} {o : Oper} {env : Env} {h h' : Heap} {v : Value} {a : Act}


theorem s_slice {k : SKind} {x : AOpd} {lo hi mx : Option AOpd} : Sound C P (.slice k x lo hi mx) := by
  intro ρ n n' w o env h h' v a hc he hr hf hx
  obtain ⟨dst, op, type, pos, after, guard⟩ := o
  simp only at hc
  simp only [aop] at hx
  cases op <;> first | (cases hc; done) | (rw [chk_notCall rfl] at hc; cases hc; done) | skip
  simp only [chkOp, Bool.and_eq_true] at hc
  rename_i t X LO HI MX
  obtain ⟨⟨⟨⟨c1, c2⟩, c3⟩, c4⟩, c5⟩ := hc
  split at hx
  · rename_i s hp
    have e1 := (chkOpd_sound he c1 hp).string_inv
    split at hx
    · rename_i b hb
      split at hx
      · rename_i a0 ha
        cases hx
        have hu : P.underlying t = some .string := by
          split at c5 <;> first | assumption | (rename_i hh; cases hh) | (cases c5)
        have hrun := sliceBounds_sound (P := P) (w := w) he c2 c3 c4 false (known := s.size) (cap := s.size) (m := s.size) (h := b) (l := a0) (len := s.size) (Nat.le_refl _) (.inl ⟨rfl, rfl⟩) (by simpa using hb) ha
        have hMX : MX = none := by cases MX <;> simp_all [chkOpt]
        subst hMX
        refine OpDoes.val hr (v' := .string (s.extract a0 b)) ?_ (.string _)
        simp only [Option.map_none] at hrun
        simp [execOp, Instr.sliceAt, run_underlying hu, e1, Instr.slice, hrun]
      · cases hx
    · cases hx
  · rename_i e base len cap hp
    split at hx
    · rename_i v0 n0 hsl
      cases hx
      have hvs := chkOpd_sound he c1 hp
      have hE : ∃ base' len' cap', a.eval X = .slice base' len' cap' := by
        generalize a.eval X = E at hvs
        cases hvs <;> exact ⟨_, _, _, rfl⟩
      obtain ⟨base', len', cap', e1⟩ := hE
      rw [e1] at hvs
      obtain ⟨l, h0, m, ρ', q1, q2, q3⟩ := sliceSl_sound (P := P) he c2 c3 c4 hr hvs hsl hf true
      have hu : ∃ el, P.underlying t = some (.slice el) ∧ sizeIs P el e = true := by
        split at c5
        · rename_i hh; cases hh
        · rename_i el e' hu heq; cases heq; exact ⟨el, hu, c5⟩
        · rename_i hh; cases hh
        · rename_i hh; cases hh
        · cases c5
      obtain ⟨el, hu, hsz⟩ := hu
      refine OpDoes.of ?_ q2 q3
      simp [execOp, Instr.sliceAt, run_underlying hu, e1, Instr.slice, q1, sizeIs_sound hsz w]
    · cases hx
  · rename_i m0 e ad hp
    split at hx
    · cases hx
    · rename_i hno
      split at hx
      · rename_i v0 n0 hsl
        cases hx
        obtain ⟨id, off, s, rfl, hid, e1⟩ := (chkOpd_sound he c1 hp).ptr_inv
        have hvs : VR ρ (.slice (some ⟨id, off, none⟩) m0 m0) (.slice (some ⟨s.b, s.o + off, none⟩) m0 m0) := .slice hid (by unfold CapR; rw [if_neg hno])
        obtain ⟨l, h0, m, ρ', q1, q2, q3⟩ := sliceSl_sound (P := P) he c2 c3 c4 hr hvs hsl hf false
        split at c5
        · rename_i hh; cases hh
        · rename_i hh; cases hh
        · rename_i nn el mm ee hu heq
          cases heq
          simp only [Bool.and_eq_true] at c5
          have hm := eq_of_beq_nat c5.1
          subst hm
          refine OpDoes.of (v' := .slice (some (if m = l then ⟨s.b, s.o + off, none⟩ else (⟨s.b, s.o + off, none⟩ : Addr).add (l * e))) (h0 - l) (m - l)) ?_ (by
            by_cases hml : m = l
            · simpa [hml] using q2
            · simpa [hml] using q2) q3
          simp [execOp, Instr.sliceAt, run_underlying hu, e1, Instr.sureAddr, q1, sizeIs_sound c5.2 w]
        · rename_i ar mm ee hu heq
          cases heq
          split at c5
          · rename_i nn el hu2
            simp only [Bool.and_eq_true] at c5
            have hm := eq_of_beq_nat c5.1
            subst hm
            refine OpDoes.of (v' := .slice (some (if m = l then ⟨s.b, s.o + off, none⟩ else (⟨s.b, s.o + off, none⟩ : Addr).add (l * e))) (h0 - l) (m - l)) ?_ (by
              by_cases hml : m = l
              · simpa [hml] using q2
              · simpa [hml] using q2) q3
            simp [execOp, Instr.sliceAt, run_underlying hu, e1, Instr.slice, asAddr, run_underlying hu2, q1, sizeIs_sound c5.2 w]
          · cases c5
        · cases c5
      · cases hx
  · cases hx

theorem s_lookup {key : AKey} {zero : Value} {ok : Bool} {m k : AOpd} : Sound C P (.lookup key zero ok m k) := by
  intro ρ n n' w o env h h' v a hc he hr hf hx
  obtain ⟨dst, op, type, pos, after, guard⟩ := o
  simp only at hc
  simp only [aop] at hx
  cases op <;> first | (cases hc; done) | (rw [chk_notCall rfl] at hc; cases hc; done) | skip
  simp only [chkOp, Bool.and_eq_true] at hc
  obtain ⟨⟨⟨c1, c2⟩, c3⟩, c4⟩ := hc
  rename_i t X I okk
  have hok : okk = ok := by simpa using c3
  subst hok
  split at hx
  · rename_i mv kv hm hk
    split at hx
    · rename_i es c hes
      split at hx
      · cases hx
      · rename_i hkk
        have hkk : keyOK key kv = true := by simpa using hkk
        split at c4
        · rename_i kt et hmo
          simp only [Bool.and_eq_true] at c4
          have hvm := chkOpd_sound he c1 hm
          have hvk := chkOpd_sound he c2 hk
          -- the entries
          obtain ⟨es', hents, hget⟩ : ∃ es' : Array MapEntry, EntsR ρ es es' ∧ ((a.eval X = .map none ∧ es' = #[]) ∨ ∃ b, a.eval X = .map (some b) ∧ w.heap[b]? = some (.map es' c)) := by
            rcases mapAt_sound hr hvm hes with ⟨e1, rfl⟩ | ⟨r, s, es', _, _, e1, hw, hR⟩
            · exact ⟨#[], ⟨rfl, fun i e he => by simp at he⟩, .inl ⟨e1, rfl⟩⟩
            · exact ⟨es', hR, .inr ⟨_, e1, hw⟩⟩
          have hck := checkKey_sound (P := P) (w := w) c4.1 hvk hkk es'.isEmpty
          split at hx
          · rename_i i hfi
            split at hx
            · rename_i e hei
              cases hx
              obtain ⟨r', f1, f2, f3⟩ := find_sound (P := P) (w := w) c4.1 hvk hkk hents hfi
              cases r' with
              | none => simp at f2
              | some jv =>
                obtain ⟨j, vv⟩ := jv
                simp at f2; subst f2
                obtain ⟨e', g1, g2, _⟩ := f3 j vv rfl
                obtain ⟨e2, g3, g4⟩ := hents.2 j e hei
                rw [g1] at g3; cases g3
                cases okk
                · refine OpDoes.val hr (v' := vv) ?_ (by simpa [g2] using g4.2.1)
                  rcases hget with ⟨e1, rfl⟩ | ⟨b, e1, hw⟩
                  · simp at hck f1; simp [execOp, Instr.lookup, mapOf_sound hmo w, e1, hck, f1]
                  · simp [execOp, Instr.lookup, mapOf_sound hmo w, e1, run_getObj_map hw, hck, f1]
                · refine OpDoes.val hr (v' := .tuple #[vv, .bool true]) ?_ (by
                    refine .tuple rfl fun i h1 h2 => ?_
                    have : i = 0 ∨ i = 1 := by simp at h1; omega
                    rcases this with rfl | rfl
                    · simpa [g2] using g4.2.1
                    · exact .bool _)
                  rcases hget with ⟨e1, rfl⟩ | ⟨b, e1, hw⟩
                  · simp at hck f1; simp [execOp, Instr.lookup, mapOf_sound hmo w, e1, hck, f1]
                  · simp [execOp, Instr.lookup, mapOf_sound hmo w, e1, run_getObj_map hw, hck, f1]
            · cases hx
          · rename_i hfi
            cases hx
            obtain ⟨r', f1, f2, f3⟩ := find_sound (P := P) (w := w) c4.1 hvk hkk hents hfi
            have : r' = none := by cases r' <;> simp at f2 ⊢
            subst this
            obtain ⟨z, z1, z2⟩ := chkZeroV_sound c4.2 w ρ
            cases okk
            · refine OpDoes.val hr (v' := z) ?_ (by simpa using z2)
              rcases hget with ⟨e1, rfl⟩ | ⟨b, e1, hw⟩
              · simp at hck f1; simp [execOp, Instr.lookup, mapOf_sound hmo w, e1, hck, f1, z1]
              · simp [execOp, Instr.lookup, mapOf_sound hmo w, e1, run_getObj_map hw, hck, f1, z1]
            · refine OpDoes.val hr (v' := .tuple #[z, .bool false]) ?_ (by
                refine .tuple rfl fun i h1 h2 => ?_
                have : i = 0 ∨ i = 1 := by simp at h1; omega
                rcases this with rfl | rfl
                · simpa using z2
                · exact .bool _)
              rcases hget with ⟨e1, rfl⟩ | ⟨b, e1, hw⟩
              · simp at hck f1; simp [execOp, Instr.lookup, mapOf_sound hmo w, e1, hck, f1, z1]
              · simp [execOp, Instr.lookup, mapOf_sound hmo w, e1, run_getObj_map hw, hck, f1, z1]
          · cases hx
        · cases c4
    · cases hx
  · cases hx

theorem mapUpdate_does {key : AKey} {m k x : AOpd} {t : TypeId} {M K X : Operand} (c1 : chkOpd M m = true) (c2 : chkOpd K k = true) (c3 : chkOpd X x = true) (c4 : (match mapOf P t with | some (k, _) => chkKey P k key | none => false) = true)
    (he : EnvR ρ env a.tmps) (hr : Rel C ρ h.get w) (hx : aop env h n (.mapUpdate key m k x) = some (v, h', n')) :
    OpDoes C P (do Instr.mapUpdate t (a.eval M) (a.eval K) (a.eval X); pure .skip) ρ h.get n w v h'.get n' := by
  simp only [aop] at hx
  split at hx
  · rename_i r kv xv hm hk hxv
    split at hx
    · rename_i es c hg
      split at hx
      · cases hx
      · rename_i hkk
        have hkk : keyOK key kv = true := by simpa using hkk
        split at c4
        · rename_i kt et hmo
          obtain ⟨s, hs, e1⟩ := (chkOpd_sound he c1 hm).map_inv
          have hvk := chkOpd_sound he c2 hk
          have hvx := chkOpd_sound he c3 hxv
          obtain ⟨es', hw, hR1, hR2⟩ := hr.slot hg hs
          have hents : EntsR ρ es es' := ⟨hR1, hR2⟩
          have hck := checkKey_sound (P := P) (w := w) c4 hvk hkk false
          split at hx
          · rename_i i hfi
            cases hx
            obtain ⟨r', f1, f2, f3⟩ := find_sound (P := P) (w := w) c4 hvk hkk hents hfi
            cases r' with
            | none => simp at f2
            | some jv =>
              obtain ⟨j, vv⟩ := jv
              simp at f2; subst f2
              obtain ⟨e', g1, g2, g3⟩ := f3 j vv rfl
              refine OpDoes.unit ?_ (Ext.setMap (C := C) (n := n) (c2 := c) hr hg hs hw (hents.modify j (f' := fun e => { e with key := a.eval K, val := a.eval X }) fun e e' h => ⟨hvk, hvx, h.2.2⟩))
              simp [Instr.mapUpdate, mapOf_sound hmo w, e1, run_getObj_map hw, hck, f1, g1, Instr.keyThatStays, g3, run_setObj_map hw]
          · rename_i hfi
            cases hx
            obtain ⟨r', f1, f2, f3⟩ := find_sound (P := P) (w := w) c4 hvk hkk hents hfi
            have : r' = none := by cases r' <;> simp at f2 ⊢
            subst this
            refine OpDoes.unit ?_ (Ext.setMap (C := C) (n := n) (c2 := c + 1) hr hg hs hw (hents.push (e' := { key := a.eval K, val := a.eval X, born := c }) ⟨hvk, hvx, rfl⟩))
            simp [Instr.mapUpdate, mapOf_sound hmo w, e1, run_getObj_map hw, hck, f1, run_setObj_map hw]
          · cases hx
        · cases c4
    · cases hx
  · cases hx

theorem s_mapUpdate {key : AKey} {m k x : AOpd} : Sound C P (.mapUpdate key m k x) := by
  intro ρ n n' w o env h h' v a hc he hr hf hx
  obtain ⟨dst, op, type, pos, after, guard⟩ := o
  simp only at hc
  cases op <;> first | (cases hc; done) | (rw [chk_notCall rfl] at hc; cases hc; done) | skip
  all_goals simp only [chkOp, Bool.and_eq_true] at hc
  all_goals exact mapUpdate_does hc.1.1.1 hc.1.1.2 hc.1.2 hc.2 he hr hx

theorem s_mapEntry {key : AKey} {zero : Value} {m k : AOpd} : Sound C P (.mapEntry key zero m k) := by
  intro ρ n n' w o env h h' v a hc he hr hf hx
  obtain ⟨dst, op, type, pos, after, guard⟩ := o
  simp only at hc
  simp only [aop] at hx
  cases op <;> first | (cases hc; done) | (rw [chk_notCall rfl] at hc; cases hc; done) | skip
  simp only [chkOp, Bool.and_eq_true] at hc
  obtain ⟨⟨c1, c2⟩, c4⟩ := hc
  rename_i t M K
  split at hx
  · rename_i r kv hm hk
    split at hx
    · rename_i es c hg
      split at hx
      · cases hx
      · rename_i hkk
        have hkk : keyOK key kv = true := by simpa using hkk
        split at c4
        · rename_i kt et hmo
          simp only [Bool.and_eq_true] at c4
          obtain ⟨s, hs, e1⟩ := (chkOpd_sound he c1 hm).map_inv
          have hvk := chkOpd_sound he c2 hk
          obtain ⟨es', hw, hR1, hR2⟩ := hr.slot hg hs
          have hents : EntsR ρ es es' := ⟨hR1, hR2⟩
          have hck := checkKey_sound (P := P) (w := w) c4.1 hvk hkk false
          split at hx
          · rename_i i hfi
            split at hx
            · rename_i e hei
              cases hx
              obtain ⟨r', f1, f2, f3⟩ := find_sound (P := P) (w := w) c4.1 hvk hkk hents hfi
              cases r' with
              | none => simp at f2
              | some jv =>
                obtain ⟨j, vv⟩ := jv
                simp at f2; subst f2
                obtain ⟨e', g1, g2, g3⟩ := f3 j vv rfl
                obtain ⟨e2, g4, g5⟩ := hents.2 j e hei
                rw [g1] at g4; cases g4
                refine OpDoes.of (v' := .tuple #[vv, .int .i64 e'.born]) ?_ (ρ' := ρ) ?_ (Ext.setMap (C := C) (n := n) (c2 := c) hr hg hs hw (hents.modify j (f' := fun e => { e with key := a.eval K }) fun e e' h => ⟨hvk, h.2.1, h.2.2⟩))
                · simp [execOp, Instr.mapEntry, mapOf_sound hmo w, e1, run_getObj_map hw, hck, f1, g1, Instr.keyThatStays, g3, run_setObj_map hw, goInt]
                · refine .tuple rfl fun i h1 h2 => ?_
                  have : i = 0 ∨ i = 1 := by simp at h1; omega
                  rcases this with rfl | rfl
                  · simpa [g2] using g5.2.1
                  · have := g5.2.2
                    simp [this]; exact .int _ _
            · cases hx
          · rename_i hfi
            cases hx
            obtain ⟨r', f1, f2, f3⟩ := find_sound (P := P) (w := w) c4.1 hvk hkk hents hfi
            have : r' = none := by cases r' <;> simp at f2 ⊢
            subst this
            obtain ⟨z, z1, z2⟩ := chkZeroV_sound c4.2 w ρ
            refine OpDoes.of (v' := .tuple #[z, .int .i64 c]) ?_ (ρ' := ρ) ?_ (Ext.setMap (C := C) (n := n) (c2 := c + 1) hr hg hs hw (hents.push (e' := { key := a.eval K, val := z, born := c }) ⟨hvk, z2, rfl⟩))
            · simp [execOp, Instr.mapEntry, mapOf_sound hmo w, e1, run_getObj_map hw, hck, f1, run_setObj_map hw, z1, goInt]
            · refine .tuple rfl fun i h1 h2 => ?_
              have : i = 0 ∨ i = 1 := by simp at h1; omega
              rcases this with rfl | rfl
              · simpa using z2
              · exact .int _ _
          · cases hx
        · cases c4
    · cases hx
  · cases hx

theorem s_entryStore {m s x : AOpd} : Sound C P (.entryStore m s x) := by
  intro ρ n n' w o env h h' v a hc he hr hf hx
  obtain ⟨dst, op, type, pos, after, guard⟩ := o
  simp only at hc
  simp only [aop] at hx
  cases op <;> first | (cases hc; done) | (rw [chk_notCall rfl] at hc; cases hc; done) | skip
  simp only [chkOp, Bool.and_eq_true] at hc
  obtain ⟨⟨c1, c2⟩, c3⟩ := hc
  rename_i t M S X
  split at hx
  · rename_i r k b xv hm hk hxv
    split at hx
    · rename_i es c hg
      split at hx
      · rename_i i hfi
        cases hx
        obtain ⟨s, hs, e1⟩ := (chkOpd_sound he c1 hm).map_inv
        have e2 := (chkOpd_sound he c2 hk).int_inv
        have hvx := chkOpd_sound he c3 hxv
        obtain ⟨es', hw, hR1, hR2⟩ := hr.slot hg hs
        have hents : EntsR ρ es es' := ⟨hR1, hR2⟩
        refine OpDoes.unit ?_ (Ext.setMap (C := C) (n := n) (c2 := c) hr hg hs hw (hents.modify i (f' := fun e => { e with val := a.eval X }) fun e e' h => ⟨h.1, hvx, h.2.2⟩))
        have hfb := hents.findBorn b
        rw [hfi] at hfb
        simp [execOp, Instr.entryStore, e1, e2, run_getObj_map hw, asInt, asIntOf, hfb, run_setObj_map hw]
      · cases hx
    · cases hx
  · cases hx
end Go.Proofs.Ytbhgncfbljkdgaa.AI
