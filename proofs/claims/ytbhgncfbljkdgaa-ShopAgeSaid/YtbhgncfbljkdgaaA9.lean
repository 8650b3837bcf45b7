/-
  Each operation that is no call does on a world what the abstract one does on the abstract heap: rows of zeros, aggregates, copies, maps.
-/
import Derived.Test.YtbhgncfbljkdgaaA8
namespace Go.Proofs.Ytbhgncfbljkdgaa.AI
open Go

variable {P : Program} {C : Stands} {ρ : Ren} {g : Nat → Option AObj} {n : Nat} {w : World}

theorem rep_length (z : List Value) : ∀ m, (rep z m).length = m * z.length
  | 0 => by simp [rep]
  | m + 1 => by simp only [rep, List.length_append, rep_length z m, Nat.add_mul, Nat.one_mul]; omega

theorem rep_get (z : List Value) : ∀ (m i : Nat), i < m * z.length → (rep z m)[i]? = z[i % z.length]?
  | 0, i, h => by simp at h
  | m + 1, i, h => by
    rw [Nat.add_mul, Nat.one_mul] at h
    simp only [rep]
    by_cases hi : i < z.length
    · rw [List.getElem?_append_left hi, Nat.mod_eq_of_lt hi]
    · rw [List.getElem?_append_right (by omega), rep_get z m (i - z.length) (by omega)]
      rw [Nat.mod_eq_sub_mod (by omega : i ≥ z.length)]

theorem row_zeros (z : Array Value) (m : Nat) : ((Array.range (m * z.size)).map (z[· % z.size]!)).toList = rep z.toList m := by
  apply List.ext_getElem?
  intro i
  by_cases hi : i < m * z.size
  · rw [rep_get _ _ _ (by simpa using hi)]
    have hz : 0 < z.size := by
      rcases Nat.eq_zero_or_pos z.size with h | h
      · rw [h] at hi; simp at hi
      · exact h
    have hm := Nat.mod_lt i hz
    simp [hi, hm]
  · rw [List.getElem?_eq_none (by simp; omega), List.getElem?_eq_none (by rw [rep_length]; simp; omega)]

theorem rep_pure {z : List Value} (h : z.all pureB = true) : ∀ m, (rep z m).all pureB = true
  | 0 => rfl
  | m + 1 => by simp only [rep, List.all_append, h, rep_pure h m, Bool.and_self]

theorem makeSlice_sound {t el : TypeId} (ht : elemOfSlice P t = some el) {e bytes : Nat} (hsz : sizeIs P el e = true) (hbt : bytesIs P el bytes = true) {zero : List Value} (hzl : zero.length = e) (hz : chkZero P el zero = true)
    {h : Heap} (hr : Rel C ρ h.get w) (hf : ρ n = none) {k1 k2 : IntKind} {l c : Nat} (hlc : l ≤ c) (hc : c ≤ bigLen) (hb : bytes ≤ bigLen) :
    ∃ v' w' ρ', (Instr.makeSlice t (.int k1 (l : Int)) (.int k2 (c : Int))).run P w = .ok v' w' ∧ VR ρ' (.slice (some ⟨n, 0, none⟩) l c) v' ∧ Ext C ρ h.get n w ρ' (h.new n (.cells false (rep zero c))).get (n + 1) w' := by
  obtain ⟨zv, z1, z2, z3⟩ := chkZero_sound hz w
  have hu : P.underlying t = some (.slice el) := by
    unfold elemOfSlice at ht
    split at ht
    · rename_i hx; cases ht; exact hx
    · cases ht
  unfold sizeIs at hsz
  split at hsz
  case h_2 => cases hsz
  rename_i i hi
  have hsz := eq_of_beq_nat hsz
  have hbt' : i.bytes = bytes := by unfold bytesIs at hbt; rw [hi] at hbt; exact eq_of_beq_nat hbt
  have hzi : i.zero = some zv := by
    unfold chkZero at hz
    simp [zeroValue, typeInfo, hi] at z1
    cases hzz : i.zero with
    | none => simp [hzz] at z1
    | some x => simp [hzz] at z1; rw [z1]
  have hbb : i.bytes * c ≤ 1099511627776 := by
    have := Nat.mul_le_mul (hbt' ▸ hb) hc
    unfold bigLen at this
    omega
  have hrun := run_make (P := P) w t el i zv hu hi hzi k1 k2 l c (by omega) (by omega) (by omega) (by unfold bigLen at hc; omega)
  simp only [Int.toNat_natCast] at hrun
  have hcells : (madeCells zv.cells (c * i.size)).toList = rep zero c := by
    rw [hsz, ← hzl, ← z2, Array.length_toList]
    exact row_zeros zv.cells c
  refine ⟨_, _, _, hrun, .slice (setRen_eq _ _ _) ?_, new_cells (cs := rep zero c) (c := madeCells zv.cells (c * i.size)) (el := el) hr hf ?_ rfl (fun _ => Heap.get_new _ _ _ _)⟩
  · unfold CapR
    have : isOpen c = false := by
      unfold isOpen; rw [Bool.eq_false_iff, Ne, Nat.ble_eq]; unfold bigLen at hc; omega
    rw [if_neg (by simp [this])]
  · rw [hcells]; exact LR.of_pure (rep_pure z3 c)

theorem fields_run : ∀ (fs : List Field) (l : List (Nat × Nat)), chkFields P fs l = true → (fs.mapM fun f => (do pure (f.offset, ← sizeOf f.type) : Sem (Nat × Nat))).run P w = .ok l w
  | [], [], _ => rfl
  | [], _ :: _, h => by simp [chkFields] at h
  | _ :: _, [], h => by simp [chkFields] at h
  | f :: fs, (o, s) :: l, h => by
    simp only [chkFields, Bool.and_eq_true] at h
    have := eq_of_beq_nat h.1.1
    have ih := fields_run fs l h.2
    simp only [List.mapM_cons, Sem.run_bind, sizeIs_sound h.1.2 w, Result.andThen_ok, Sem.run_pure, ih, this]

theorem build_sound {t : TypeId} {zero : List Value} {pl : APlace} (hz : chkZero P t zero = true) (hp : chkPlace P t pl = true) {ps : List (Nat × Value)} {ps' : Array (Nat × Value)} (hps : PR ρ ps ps'.toList) {cs : Array Value}
    (h : Instr.fill pl.at zero.toArray ps = some cs) : ∃ cs', (Instr.build t ps').run P w = .ok (.agg cs') w ∧ AR ρ cs cs' := by
  obtain ⟨zv, z1, z2, z3⟩ := chkZero_sound hz w
  have hza : AR ρ zero.toArray zv.cells := LR.toAR (by simp only [z2]; exact LR.of_pure z3)
  unfold chkPlace at hp
  split at hp
  · rename_i l
    split at hp
    · rename_i fs hu
      have hpl : (APlace.list l).at = fun i => l[i]? := rfl
      obtain ⟨cs', e1, e2⟩ := fill_sound (place' := fun i => l.toArray[i]?) (by rw [hpl]; funext i; simp) hps hza h
      refine ⟨cs', ?_, e2⟩
      have hm : (fs.mapM fun f => (do pure (f.offset, ← sizeOf f.type) : Sem (Nat × Nat))).run P w = .ok l.toArray w := by
        rw [Array.mapM_eq_mapM_toList]
        simp only [Sem.run_map, fields_run fs.toList l hp, Result.andThen_ok]
      simp only [Instr.build, Sem.run_bind, z1, Result.andThen_ok, run_underlying hu, hm, e1]
      rfl
    · cases hp
  · rename_i s
    split at hp
    · rename_i m el hu
      obtain ⟨cs', e1, e2⟩ := fill_sound (place' := fun i => some (i * s, s)) rfl hps hza h
      refine ⟨cs', ?_, e2⟩
      simp only [Instr.build, Sem.run_bind, z1, Result.andThen_ok, run_underlying hu, sizeIs_sound hp w, e1]
      rfl
    · cases hp

theorem buildSlice_sound {t el : TypeId} (ht : elemOfSlice P t = some el) {e len : Nat} (hsz : sizeIs P el e = true) {zero : List Value} (hzl : zero.length = e) (hz : chkZero P el zero = true) (hle : len * e ≤ 16777216) (hlen : isOpen len = false)
    {h : Heap} (hr : Rel C ρ h.get w) (hf : ρ n = none) {ps : List (Nat × Value)} {ps' : Array (Nat × Value)} (hps : PR ρ ps ps'.toList) {cs : Array Value} (hfill : Instr.fill (APlace.arr e).at (rep zero len).toArray ps = some cs) :
    ∃ v' w' ρ', (Instr.buildSlice t len ps').run P w = .ok v' w' ∧ VR ρ' (.slice (some ⟨n, 0, none⟩) len len) v' ∧ Ext C ρ h.get n w ρ' (h.new n (.cells false cs.toList)).get (n + 1) w' := by
  obtain ⟨zv, z1, z2, z3⟩ := chkZero_sound hz w
  have hzs : zv.cells.size = e := by rw [← hzl, ← z2]; simp
  have key : ∃ z : Array Value, (len * e = 0 ∧ z = #[] ∨ ¬ len * e = 0 ∧ z = zv.cells) ∧ ((Array.range (len * e)).map (z[· % z.size]!)).toList = rep zero len := by
    by_cases h0 : len * e = 0
    · refine ⟨#[], .inl ⟨h0, rfl⟩, ?_⟩
      rw [h0]
      have : (rep zero len).length = 0 := by rw [rep_length, hzl, h0]
      simp [List.eq_nil_of_length_eq_zero this]
    · refine ⟨zv.cells, .inr ⟨h0, rfl⟩, ?_⟩
      have := row_zeros zv.cells len
      rw [hzs, z2] at this
      rw [hzs]; exact this
  obtain ⟨z, k1, k2⟩ := key
  have hza : AR ρ (rep zero len).toArray ((Array.range (len * e)).map (z[· % z.size]!)) := LR.toAR (by rw [k2]; simpa using LR.of_pure (rep_pure z3 len))
  obtain ⟨cs', e1, e2⟩ := fill_sound (place' := fun i => some (i * e, e)) rfl hps hza hfill
  have hng : ¬ (len * e > 2 ^ 24) := by omega
  refine ⟨.slice (some ⟨w.heap.size, 0, none⟩) len len, { w with heap := w.heap.push (.cells cs' el) }, _, ?_, .slice (setRen_eq _ _ ⟨w.heap.size, 0, cs'.size⟩) ?_, new_cells (el := el) hr hf e2.toList rfl (fun _ => Heap.get_new _ _ _ _)⟩
  · simp only [Instr.buildSlice, Sem.run_bind, elemOfSlice_sound ht w, Result.andThen_ok, sizeIs_sound hsz w]
    rw [if_neg hng]
    rcases k1 with ⟨h0, rfl⟩ | ⟨h0, rfl⟩
    · rw [if_pos h0]
      simp only [Sem.run_bind, Sem.run_pure, Result.andThen_ok, e1]
      simp [newRow]
    · rw [if_neg h0]
      simp only [Sem.run_bind, Sem.run_pure, Result.andThen_ok, z1, e1]
      simp [newRow]
  · unfold CapR
    rw [if_neg (by simp [hlen])]

theorem copy_sound {ts : Array TypeId} {t el ty : TypeId} (h0 : ts[0]? = some t) (ht : elemOfSlice P t = some el) {e : Nat} (hsz : sizeIs P el e = true)
    {h h' : Heap} (hr : Rel C ρ h.get w) {d s d' s' v : Value} (hd : VR ρ d d') (hs : VR ρ s s') (ha : acopy h e d s = some (v, h')) :
    ∃ w', (Builtin.copy_ ts ty #[d', s']).run P w = .ok v w' ∧ plainB v = true ∧ Ext C ρ h.get n w ρ h'.get n w' := by
  unfold acopy at ha
  split at ha
  · rename_i base len cap k hk
    simp only [] at ha
    split at ha
    · cases ha
    · rename_i new hnew
      split at ha
      · cases ha
      · rename_i hsc
        have hsc : new.all scalar = true := by simpa using hsc
        obtain ⟨new', hn1, hn2⟩ := srcCells_sound (P := P) hr hs hnew
        have hk' := lenV_sound (P := P) (w := w) hs hk
        obtain ⟨base', cap', rfl, hbase⟩ : ∃ base' cap', d' = .slice base' len cap' ∧ ((base = none ∧ base' = none ∧ len = 0) ∨ ∃ id off sl, base = some ⟨id, off, none⟩ ∧ ρ id = some sl ∧ base' = some ⟨sl.b, sl.o + off, none⟩) := by
          cases base with
          | none =>
            obtain ⟨rfl, rfl, rfl⟩ := hd.sliceN_inv
            exact ⟨none, 0, rfl, .inl ⟨rfl, rfl, rfl⟩⟩
          | some ad =>
            obtain ⟨id, off, sl, c0, rfl, hid, hc, rfl⟩ := hd.slice_inv
            exact ⟨_, c0, rfl, .inr ⟨id, off, sl, rfl, hid, rfl⟩⟩
        split at ha
        · cases ha
          have hn3 : new'.toList = [] := List.eq_nil_of_length_eq_zero (by have := hn2.length; simpa using this.symm)
          refine ⟨w, ?_, rfl, Ext.refl hr⟩
          cases base' <;> simp [Builtin.copy_, h0, elemOfSlice_sound ht w, sizeIs_sound hsz w, hk', hn1, hn3, storeCells, goInt]
        · rcases hbase with ⟨rfl, rfl, rfl⟩ | ⟨id, off, sl, rfl, hid, rfl⟩
          · cases ha
          · simp only [] at ha
            split at ha
            · rename_i cs hg
              split at ha
              · rename_i hle
                rw [Nat.ble_eq] at hle
                cases ha
                obtain ⟨w', e1, e2⟩ := write_sound (P := P) (n := n) hr hg hid hn2 (off := off) hle hsc
                  (g' := (h.set id (some (.cells false (putCells cs off new)))).get) (fun j => Heap.get_set _ _ _ _)
                refine ⟨w', ?_, rfl, e2⟩
                simp [Builtin.copy_, h0, elemOfSlice_sound ht w, sizeIs_sound hsz w, hk', hn1, e1, goInt]
              · cases ha
            · cases ha
  · cases ha

theorem zeroCells_rep (z : Array Value) (m : Nat) : (Builtin.zeroCells z m).toList = rep z.toList m := row_zeros z m

/-! ### maps -/

/-- the entries of a map on both sides -/
def EntsR (ρ : Ren) (es : List MapEntry) (es' : Array MapEntry) : Prop := es.length = es'.size ∧ ∀ (i : Nat) (e : MapEntry), es[i]? = some e → ∃ e', es'[i]? = some e' ∧ EntR ρ e e'

theorem mapAt_sound {h : Heap} (hr : Rel C ρ h.get w) {m m' : Value} (hm : VR ρ m m') {es : List MapEntry} {c : Nat} (ha : mapAt h m = some (es, c)) :
    (m' = .map none ∧ es = []) ∨ ∃ r s es', m = .map (some r) ∧ ρ r = some s ∧ m' = .map (some s.b) ∧ w.heap[s.b]? = some (.map es' c) ∧ EntsR ρ es es' := by
  unfold mapAt at ha
  split at ha
  · cases ha; cases hm; exact .inl ⟨rfl, rfl⟩
  · rename_i r
    split at ha
    · rename_i es2 c2 hg
      cases ha
      obtain ⟨s, hs, rfl⟩ := hm.map_inv
      obtain ⟨es', h1, h2, h3⟩ := hr.slot hg hs
      exact .inr ⟨r, s, es', rfl, hs, rfl, h1, h2, h3⟩
    · cases ha
  · cases ha

theorem run_getObj_map {b : Nat} {es : Array MapEntry} {c : Nat} (h : w.heap[b]? = some (.map es c)) : (getObj b).run P w = .ok (.map es c) w := by
  simp [getObj, Sem.run, h]

theorem run_setObj_map {b : Nat} {es : Array MapEntry} {c : Nat} (h : w.heap[b]? = some (.map es c)) (o : Obj) : (setObj b o).run P w = .ok () { w with heap := w.heap.setIfInBounds b o } := by
  simp [setObj, Sem.run, h]

theorem keyOK_plain {kd : AKey} {k k' : Value} (h : keyOK kd k = true) (hk : VR ρ k k') : ((match kd with | .now _ => True | .flat ds => ∃ xs, k' = .agg xs ∧ xs.size = ds.length ∧ xs.toList.all (fun v => match v with | .int .. | .bool _ | .string _ => true | _ => false) = true)) := by
  cases kd with
  | now d => trivial
  | flat ds =>
    cases k with
    | agg xs =>
      simp only [keyOK, Bool.and_eq_true] at h
      obtain ⟨xs', rfl, hx⟩ := hk.agg_inv
      refine ⟨xs', rfl, by rw [← hx.1]; exact eq_of_beq_nat h.1, ?_⟩
      have h2 := h.2
      have hl := hx.toList
      clear h hx hk
      generalize xs.toList = l at *
      generalize xs'.toList = l' at *
      induction hl with
      | nil => rfl
      | cons a _ ih =>
        simp only [List.all_cons, Bool.and_eq_true] at h2 ⊢
        refine ⟨?_, ih h2.2⟩
        have := h2.1
        cases a <;> first | rfl | exact this
    | _ => simp [keyOK] at h

theorem sameNow_sound {d : TypeDesc} {k k' x x' : Value} (hk : VR ρ k k') (hx : VR ρ x x') {r : Bool} (h : Instr.sameNow d k x = some r) : Instr.sameNow d k' x' = some r := by
  unfold Instr.sameNow at h
  split at h
  · have e1 := hk.int_inv; have e2 := hx.int_inv; subst e1; subst e2; exact h
  · have e1 := hk.string_inv; have e2 := hx.string_inv; subst e1; subst e2; exact h
  · have e1 := hk.bool_inv; have e2 := hx.bool_inv; subst e1; subst e2; exact h
  · cases h

theorem LR.ents {es : List MapEntry} {es' : Array MapEntry} (h : EntsR ρ es es') {e : MapEntry} {r : List MapEntry} (he : es = e :: r) : ∃ e' r', es'.toList = e' :: r' ∧ EntR ρ e e' ∧ EntsR ρ r r'.toArray := by
  subst he
  obtain ⟨e', h1, h2⟩ := h.2 0 e (by simp)
  cases hl : es'.toList with
  | nil => have := h.1; simp at this; rw [← Array.length_toList, hl] at this; simp at this
  | cons a r' =>
    have h1' : es'.toList[0]? = some e' := by simpa using h1
    rw [hl] at h1'; simp at h1'; subst h1'
    refine ⟨a, r', rfl, h2, ?_, fun i x hi => ?_⟩
    · have := h.1
      rw [← Array.length_toList, hl] at this
      simpa using this
    · obtain ⟨x', h3, h4⟩ := h.2 (i + 1) x (by simpa using hi)
      have h3 : es'.toList[i + 1]? = some x' := by simpa using h3
      rw [hl] at h3
      exact ⟨x', by simpa using h3, h4⟩

theorem sameNow_bits {d : TypeDesc} {a b : Value} (h : Instr.sameNow d a b = some true) (m : Nat) : Instr.sameBits m b a = true := by
  unfold Instr.sameNow at h
  split at h
  · rename_i k x k' y
    split at h
    · rename_i hk; subst hk
      simp at h; subst h
      cases m <;> simp [Instr.sameBits]
    · cases h
  · rw [beq_toListBytes] at h; simp at h; cases m <;> simp [Instr.sameBits, beq_toListBytes, h]
  · simp at h; subst h; cases m <;> simp [Instr.sameBits]
  · cases h

theorem leafEq_bits {d : Leaf} {a b : Value} (h : leafEq d a b = some true) (m : Nat) : Instr.sameBits m b a = true := by
  unfold leafEq at h
  split at h
  · split at h
    · rename_i hk; subst hk
      simp at h; subst h
      cases m <;> simp [Instr.sameBits]
    · cases h
  · simp at h; subst h; cases m <;> simp [Instr.sameBits]
  · rw [beq_toListBytes] at h; simp at h; cases m <;> simp [Instr.sameBits, beq_toListBytes, h]
  · cases h

theorem flatEq_bits (m : Nat) : ∀ {ds : List Leaf} {xs ys : List Value}, flatEq ds xs ys = some true → xs.length = ds.length → ys.length = ds.length → ((ys.zip xs).all fun (x, y) => Instr.sameBits m x y) = true
  | [], [], [], _, _, _ => rfl
  | [], _ :: _, _, _, h, _ => by simp at h
  | [], [], _ :: _, _, _, h => by simp at h
  | _ :: _, [], _, _, h, _ => by simp at h
  | _ :: _, _ :: _, [], _, _, h => by simp at h
  | d :: ds, x :: xs, y :: ys, h, h1, h2 => by
    simp only [flatEq] at h
    split at h
    · rename_i e
      simp only [List.zip_cons_cons, List.all_cons, leafEq_bits e m, Bool.true_and]
      exact flatEq_bits m h (by simpa using h1) (by simpa using h2)
    · cases h
    · cases h

theorem aeqFlat_bits {ds : List Leaf} {x y x' y' : Value} (h : aeqFlat ds x y = some true) (hx : VR ρ x x') (hy : VR ρ y y') (m : Nat) : Instr.sameBits (m + 1) y' x' = true := by
  unfold aeqFlat at h
  split at h
  · rename_i xs ys
    split at h
    · rename_i hl
      simp only [Bool.and_eq_true] at hl
      obtain ⟨xs', rfl, hxs⟩ := hx.agg_inv
      obtain ⟨ys', rfl, hys⟩ := hy.agg_inv
      have l1 := eq_of_beq_nat hl.1
      have l2 := eq_of_beq_nat hl.2
      have := flatEq_bits m (flatEq_VR h hxs.toList hys.toList) (by rw [Array.length_toList, ← hxs.1, l1]) (by rw [Array.length_toList, ← hys.1, l2])
      have hsz : ys'.size = xs'.size := by rw [← hys.1, ← hxs.1, l1, l2]
      simp only [Instr.sameBits, hsz, BEq.rfl, Bool.true_and]
      exact this
    · cases h
  · cases h

theorem findNow_sound {d : TypeDesc} {k k' : Value} (hk : VR ρ k k') : ∀ (es : List MapEntry) (es' : Array MapEntry) (i : Nat) (r : Option Nat), EntsR ρ es es' → afind (.now d) k es i = some r →
    ∃ r', Instr.findNow d k' es'.toList i = some r' ∧ r'.map (·.1) = r ∧ ∀ j v, r' = some (j, v) → i ≤ j ∧ ∃ e', es'[j - i]? = some e' ∧ e'.val = v ∧ Instr.sameBits 10000 e'.key k' = true
  | [], es', i, r, he, h => by
    have : es'.toList = [] := List.eq_nil_of_length_eq_zero (by have := he.1; simpa using this.symm)
    simp only [afind] at h; cases h
    rw [this]
    exact ⟨none, rfl, rfl, fun _ _ h => by cases h⟩
  | e :: es, es', i, r, he, h => by
    obtain ⟨e', r', hl, h1, h2⟩ := LR.ents he rfl
    have h0 : es'[0]? = some e' := by
      have : es'.toList[0]? = some e' := by rw [hl]; rfl
      simpa using this
    simp only [afind] at h
    rw [hl]
    simp only [Instr.findNow]
    split at h
    · rename_i hs
      cases h
      have hs' := sameNow_sound hk h1.1 hs
      rw [hs']
      exact ⟨some (i, e'.val), rfl, rfl, fun j v h => by cases h; exact ⟨Nat.le_refl _, e', by simp [h0], rfl, sameNow_bits hs' 10000⟩⟩
    · rename_i hs
      rw [sameNow_sound hk h1.1 hs]
      obtain ⟨q, q1, q2, q3⟩ := findNow_sound hk es r'.toArray (i + 1) r h2 h
      refine ⟨q, by simpa using q1, q2, fun j v hj => ?_⟩
      obtain ⟨a, b⟩ := q3 j v hj
      refine ⟨by omega, ?_⟩
      have : es'[j - i]? = r'.toArray[j - (i + 1)]? := by
        have : es'.toList[j - i]? = r'[j - (i + 1)]? := by rw [hl, show j - i = (j - (i + 1)) + 1 by omega]; simp
        simpa using this
      rw [this]; exact b
    · cases h

theorem findAsking_sound {t : TypeId} {ds : List Leaf} (hc : chkFlat P t ds = true) {k k' : Value} (hk : VR ρ k k') : ∀ (es : List MapEntry) (es' : Array MapEntry) (i : Nat) (r : Option Nat), EntsR ρ es es' → afind (.flat ds) k es i = some r →
    ∃ r', (Instr.findAsking t k' es'.toList i).run P w = .ok r' w ∧ r'.map (·.1) = r ∧ ∀ j v, r' = some (j, v) → i ≤ j ∧ ∃ e', es'[j - i]? = some e' ∧ e'.val = v ∧ Instr.sameBits 10000 e'.key k' = true
  | [], es', i, r, he, h => by
    have : es'.toList = [] := List.eq_nil_of_length_eq_zero (by have := he.1; simpa using this.symm)
    simp only [afind] at h; cases h
    rw [this]
    exact ⟨none, rfl, rfl, fun _ _ h => by cases h⟩
  | e :: es, es', i, r, he, h => by
    obtain ⟨e', r', hl, h1, h2⟩ := LR.ents he rfl
    have h0 : es'[0]? = some e' := by
      have : es'.toList[0]? = some e' := by rw [hl]; rfl
      simpa using this
    simp only [afind] at h
    rw [hl]
    simp only [Instr.findAsking, Sem.run_bind]
    split at h
    · rename_i hs
      cases h
      have := (aeqFlat_sound (P := P) (w := w) hc hs hk h1.1 9998).2
      have e : (Op.equal t k' e'.key).run P w = .ok true w := this
      simp only [e, Result.andThen_ok, if_true]
      exact ⟨some (i, e'.val), rfl, rfl, fun j v h => by cases h; exact ⟨Nat.le_refl _, e', by simp [h0], rfl, aeqFlat_bits hs hk h1.1 9999⟩⟩
    · rename_i hs
      have := (aeqFlat_sound (P := P) (w := w) hc hs hk h1.1 9998).2
      have e : (Op.equal t k' e'.key).run P w = .ok false w := this
      simp only [e, Result.andThen_ok, Bool.false_eq_true, if_false]
      obtain ⟨q, q1, q2, q3⟩ := findAsking_sound hc hk es r'.toArray (i + 1) r h2 h
      refine ⟨q, by simpa using q1, q2, fun j v hj => ?_⟩
      obtain ⟨a, b⟩ := q3 j v hj
      refine ⟨by omega, ?_⟩
      have : es'[j - i]? = r'.toArray[j - (i + 1)]? := by
        have : es'.toList[j - i]? = r'[j - (i + 1)]? := by rw [hl, show j - i = (j - (i + 1)) + 1 by omega]; simp
        simpa using this
      rw [this]; exact b
    · cases h

theorem sameNow_agg {d : TypeDesc} {xs : Array Value} {v : Value} : Instr.sameNow d (.agg xs) v = none := by
  unfold Instr.sameNow; cases d <;> rfl

theorem chkKey_now {t : TypeId} {d : TypeDesc} (hc : chkKey P t (.now d) = true) : P.underlying t = some d := by
  unfold chkKey at hc
  cases hu : P.underlying t with
  | none => simp [hu] at hc
  | some u => cases u <;> cases d <;> simp [hu] at hc <;> simp [hc]

/-- the place of a key, on both sides -/
theorem find_sound {t : TypeId} {kd : AKey} (hc : chkKey P t kd = true) {k k' : Value} (hk : VR ρ k k') (hok : keyOK kd k = true) {es : List MapEntry} {es' : Array MapEntry} (he : EntsR ρ es es') {r : Option Nat} (h : afind kd k es 0 = some r) :
    ∃ r', (Instr.findKey t k' es'.toList).run P w = .ok r' w ∧ r'.map (·.1) = r ∧ ∀ j v, r' = some (j, v) → ∃ e', es'[j]? = some e' ∧ e'.val = v ∧ Instr.sameBits 10000 e'.key k' = true := by
  cases kd with
  | now d =>
    obtain ⟨r', h1, h2, h3⟩ := findNow_sound hk es es' 0 r he h
    refine ⟨r', ?_, h2, fun j v e => by simpa using (h3 j v e).2⟩
    have hu := chkKey_now hc
    simp [Instr.findKey, run_underlying hu, h1]
  | flat ds =>
    obtain ⟨xs, rfl, _, _⟩ := keyOK_plain (ρ := ρ) hok hk
    have hc' : chkFlat P t ds = true := by
      simp only [chkKey, Bool.and_eq_true] at hc; exact hc.1
    obtain ⟨r', h1, h2, h3⟩ := findAsking_sound (P := P) (w := w) hc' hk es es' 0 r he h
    refine ⟨r', ?_, h2, fun j v e => by simpa using (h3 j v e).2⟩
    have hu : ∃ u, P.underlying t = some u := by
      unfold chkFlat at hc'
      split at hc'
      · rename_i hu; exact ⟨_, hu⟩
      · rename_i hu; exact ⟨_, hu⟩
      · cases hc'
    obtain ⟨u, hu⟩ := hu
    simp only [Instr.findKey, Sem.run_bind, run_underlying hu, Result.andThen_ok]
    cases hl : es'.toList with
    | nil =>
      rw [hl] at h1
      simp only [Instr.findNow]
      simpa [Instr.findAsking] using h1
    | cons e' rr =>
      rw [hl] at h1
      simp only [Instr.findNow, sameNow_agg]
      exact h1
end Go.Proofs.Ytbhgncfbljkdgaa.AI
