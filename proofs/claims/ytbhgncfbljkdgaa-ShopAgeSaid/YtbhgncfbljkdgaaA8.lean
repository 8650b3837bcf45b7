/-
  Each operation that is no call does on a world what the abstract one does on the abstract heap: appends, copies, rows of zeros.
-/
import Derived.Test.YtbhgncfbljkdgaaA7
namespace Go.Proofs.Ytbhgncfbljkdgaa.AI
open Go

variable {P : Program} {C : Stands} {ρ : Ren} {g : Nat → Option AObj} {n : Nat} {w : World}

theorem LR.scalars {l l' : List Value} (h : LR ρ l l') (hs : l.all scalar = true) : l'.all scalar = true := by
  induction h with
  | nil => rfl
  | cons a _ ih =>
    simp only [List.all_cons, Bool.and_eq_true] at hs ⊢
    refine ⟨?_, ih hs.2⟩
    have := hs.1
    cases a <;> first | rfl | exact this

theorem srcCells_sound {h : Heap} (hr : Rel C ρ h.get w) {x x' : Value} (hx : VR ρ x x') {e k : Nat} {new : List Value} (hs : srcCells h e k x = some new) :
    ∃ new' : Array Value, (Builtin.firstCells e k x').run P w = .ok new' w ∧ LR ρ new new'.toList := by
  unfold srcCells at hs
  split at hs
  · rename_i id off len cap
    obtain ⟨id', off', s, c0, e1, hid, hc, rfl⟩ := hx.slice_inv
    cases e1
    simp only [Builtin.firstCells]
    split at hs
    · rename_i h0
      have h0 := eq_of_beq_nat h0
      cases hs
      exact ⟨#[], by rw [h0]; simp [loadCells, loadCellsFrom], .nil⟩
    · unfold cellsAt at hs
      split at hs
      · rename_i ro cs hg
        split at hs
        · rename_i hle
          rw [Nat.ble_eq] at hle
          cases hs
          obtain ⟨c, el, fr, h1, h2, h3, h4, h5⟩ := cells_get hr hg hid
          refine ⟨_, run_loadCells_of h1 (k * e) (by omega), ?_⟩
          have := (h5.drop off).take (k * e)
          rw [List.drop_take, List.drop_drop, List.take_take, Nat.min_eq_left (by omega)] at this
          simpa using this
        · cases hs
      · cases hs
  · rename_i len cap
    obtain ⟨_, _, rfl⟩ := hx.sliceN_inv
    cases hs
    exact ⟨#[], by simp [Builtin.firstCells], .nil⟩
  · rename_i b
    have := hx.string_inv; subst this
    cases hs
    refine ⟨_, by simp only [Builtin.firstCells, Sem.run_pure]; rfl, ?_⟩
    simp only [Array.toList_map]
    exact lr_bytes (b.extract 0 k)
  · cases hs

theorem lenV_sound {x x' : Value} (hx : VR ρ x x') {k : Nat} (h : lenV x = some k) : (Builtin.lenOf x').run P w = .ok k w := by
  unfold lenV at h
  split at h
  · cases h; cases hx <;> rfl
  · cases h; have := hx.string_inv; subst this; rfl
  · cases h

theorem slice_or_string {t2 : TypeId} (ht2 : (match P.underlying t2 with | some (.slice _) | some .string => true | _ => false) = true) : (∃ e', P.underlying t2 = some (.slice e')) ∨ P.underlying t2 = some .string := by
  split at ht2
  · rename_i e he; exact .inl ⟨_, he⟩
  · rename_i he; exact .inr he
  · cases ht2

section
variable {ts : Array TypeId} {t t2 el ty : TypeId} (h0 : ts[0]? = some t) (h1 : ts[1]? = some t2) (ht : elemOfSlice P t = some el) (ht2 : (match P.underlying t2 with | some (.slice _) | some .string => true | _ => false) = true)
    {e bytes : Nat} (hsz : sizeIs P el e = true) {base : Option Addr} {len cap : Nat} {x : Value} {k : Nat} (hk : (Builtin.lenOf x).run P w = .ok k w)
include h0 h1 ht ht2 hsz hk

theorem append_room {new : Array Value} (hnew : (Builtin.firstCells e k x).run P w = .ok new w) (hc : len + k ≤ cap) :
    (Builtin.append_ ts ty #[.slice base len cap, x]).run P w = (match base with
        | some a => ((storeCells (a.add (len * e)) new.toList).run P w).andThen fun _ w' => .ok (.slice base (len + k) cap) w'
        | none => .ok (.slice base (len + k) cap) w) := by
  rcases slice_or_string ht2 with ⟨e', hu⟩ | hu <;> cases base <;>
    simp [Builtin.append_, h0, h1, elemOfSlice_sound ht w, sizeIs_sound hsz w, run_underlying hu, hk, hc, hnew]

theorem append_grow (hbt : bytesIs P el bytes = true) {z : Value} (hz : (P.info? el).bind (·.zero) = some z) {old new : Array Value} (hnew : (Builtin.firstCells e k x).run P w.drew = .ok new w.drew) (hold : (Builtin.firstCells e len (.slice base len cap)).run P w.drew = .ok old w.drew)
    (hc : ¬ len + k ≤ cap) (hlen : len + k ≤ bigLen) (hby : bytes ≤ bigLen) :
    (Builtin.append_ ts ty #[.slice base len cap, x]).run P w = .ok (.slice (some ⟨w.heap.size, 0, none⟩) (len + k) (grownCap w (len + k) cap el))
      (w.drew.alloc (.cells (old ++ new ++ Builtin.zeroCells z.cells (grownCap w (len + k) cap el - (len + k))) el)) := by
  obtain ⟨i, hi, hzi⟩ := Option.bind_eq_some_iff.1 hz
  have hb : i.bytes = bytes := by
    unfold bytesIs at hbt; rw [hi] at hbt; exact eq_of_beq_nat hbt
  have g1 : ¬ (9223372036854775807 < (len : Int) + (k : Int)) := by unfold bigLen at hlen; omega
  have hn : (len + k) * bytes ≤ 140737488355328 := by
    have := Nat.mul_le_mul hlen hby
    unfold bigLen at this
    omega
  have g2 := growslice_fits (need := len + k) (old := cap) (bytes := bytes) (by omega) hn
  have g3 : ¬ (281474976710656 < Builtin.nextslicecap (len + k) cap * i.bytes) := by rw [hb]; omega
  rcases slice_or_string ht2 with ⟨e', hu⟩ | hu <;>
    simp [Builtin.append_, h0, h1, elemOfSlice_sound ht w, sizeIs_sound hsz w, run_underlying hu, hk, hc, typeInfo, hi, g1, g3, Question.forced, zeroValue, hzi, newRow, grownCap, hnew, hold]
end

theorem zeroCells_size (z : Array Value) (m : Nat) : (Builtin.zeroCells z m).size = m * z.size := by simp [Builtin.zeroCells]

theorem append_sound {ts : Array TypeId} {t t2 el ty : TypeId} (h0 : ts[0]? = some t) (h1 : ts[1]? = some t2) (ht : elemOfSlice P t = some el) (ht2 : (match P.underlying t2 with | some (.slice _) | some .string => true | _ => false) = true)
    {e bytes : Nat} (hsz : sizeIs P el e = true) (hbt : bytesIs P el bytes = true) {z : Value} (hz : (P.info? el).bind (·.zero) = some z) (hze : z.cells.size = e)
    {h h' : Heap} {n' : Nat} (hr : Rel C ρ h.get w) (hf : Fresh ρ n n') {s x s' x' v : Value} (hs : VR ρ s s') (hx : VR ρ x x') (ha : aappend h n e bytes s x = some (v, h', n')) :
    ∃ v' w' ρ', (Builtin.append_ ts ty #[s', x']).run P w = .ok v' w' ∧ VR ρ' v v' ∧ Ext C ρ h.get n w ρ' h'.get n' w' := by
  unfold aappend at ha
  split at ha
  · rename_i base len cap k hk
    have hk' := lenV_sound (P := P) (w := w) hx hk
    split at ha
    · cases ha
    · rename_i hbig
      simp only [Bool.or_eq_true, Bool.not_eq_true', not_or, Bool.not_eq_false, Nat.ble_eq] at hbig
      obtain ⟨hlen, hby⟩ := hbig
      by_cases hbe : Nat.ble e bigLen = true
      case neg => simp [hbe] at ha
      have he62 : e < 4611686018427387904 := by
        rw [Nat.ble_eq] at hbe; unfold bigLen at hbe; omega
      simp only [hbe, Bool.not_true, Bool.false_eq_true, if_false] at ha
      split at ha
      · cases ha
      · rename_i new hnew
        split at ha
        · cases ha
        · rename_i hscn
          simp only [Bool.or_eq_true, Bool.not_eq_true', not_or, Bool.not_eq_false] at hscn
          obtain ⟨hsc, hnl⟩ := hscn
          have hnl := eq_of_beq_nat hnl
          split at ha
          · cases ha
          · rename_i hE
            obtain ⟨new', hn1, hn2⟩ := srcCells_sound (P := P) hr hx hnew
            -- the concrete slice
            obtain ⟨base', cap', rfl, hcap, hbase⟩ : ∃ base' cap', s' = .slice base' len cap' ∧ (knownCap cap ≤ cap' ∧ (isOpen cap = false → cap' = cap)) ∧
                ((base = none ∧ base' = none ∧ len = 0 ∧ cap = 0) ∨ ∃ id off sl, base = some ⟨id, off, none⟩ ∧ ρ id = some sl ∧ base' = some ⟨sl.b, sl.o + off, none⟩ ∧ CapR sl off len cap cap') := by
              cases base with
              | none =>
                obtain ⟨rfl, rfl, rfl⟩ := hs.sliceN_inv
                exact ⟨none, 0, rfl, ⟨by simp [knownCap, isOpen], fun _ => rfl⟩, .inl ⟨rfl, rfl, rfl, rfl⟩⟩
              | some ad =>
                obtain ⟨id, off, sl, c0, rfl, hid, hc, rfl⟩ := hs.slice_inv
                refine ⟨_, c0, rfl, ?_, .inr ⟨id, off, sl, rfl, hid, rfl, hc⟩⟩
                unfold CapR at hc
                unfold knownCap
                by_cases ho : isOpen cap = true
                · simp only [ho, if_true] at hc ⊢
                  exact ⟨hc.2.1, fun h => by cases h⟩
                · simp only [ho, Bool.false_eq_true, if_false] at hc ⊢
                  exact ⟨by omega, fun _ => hc⟩
            split at ha
            · rename_i hroom
              rw [Nat.ble_eq] at hroom
              have hroom' : len + k ≤ cap' := Nat.le_trans hroom hcap.1
              have hrun := append_room (ty := ty) (base := base') h0 h1 ht ht2 hsz hk' hn1 hroom'
              have hval : ∀ id off sl, base = some ⟨id, off, none⟩ → ρ id = some sl → CapR sl off len cap cap' → VR ρ (.slice base (len + k) cap) (.slice (some ⟨sl.b, sl.o + off, none⟩) (len + k) cap') := by
                intro id off sl hb hid hc
                subst hb
                refine .slice hid ?_
                unfold CapR at hc ⊢
                unfold knownCap at hroom
                by_cases ho : isOpen cap = true
                · simp only [ho, if_true] at hc hroom ⊢
                  exact ⟨hroom, hc.2⟩
                · simp only [ho, Bool.false_eq_true, if_false] at hc ⊢
                  exact hc
              split at ha
              · cases ha
                have hn3 : new'.toList = [] := List.eq_nil_of_length_eq_zero (by have := hn2.length; simpa using this.symm)
                rcases hbase with ⟨rfl, rfl, rfl, rfl⟩ | ⟨id, off, sl, hb, hid, rfl, hc⟩
                · have hc0 := hcap.2 rfl
                  subst hc0
                  have : k = 0 := by omega
                  subst this
                  exact ⟨_, _, ρ, hrun, .sliceN, Ext.refl hr⟩
                · rw [hn3] at hrun
                  exact ⟨_, w, ρ, by simpa [storeCells] using hrun, hval id off sl hb hid hc, Ext.refl hr⟩
              · rcases hbase with ⟨rfl, rfl, rfl, rfl⟩ | ⟨id, off, sl, rfl, hid, rfl, hc⟩
                · cases ha
                · simp only [] at ha
                  split at ha
                  · rename_i cs hg
                    split at ha
                    · rename_i hle
                      rw [Nat.ble_eq] at hle
                      cases ha
                      obtain ⟨w', e1, e2⟩ := write_sound (P := P) (n := n) hr hg hid hn2 (off := off + len * e) hle hsc
                        (g' := (h.set id (some (.cells false (putCells cs (off + len * e) new)))).get) (fun j => Heap.get_set _ _ _ _)
                      refine ⟨_, w', ρ, ?_, hval id off sl rfl hid hc, e2⟩
                      simp only [add_addr] at hrun
                      rw [hrun, show sl.o + off + len * e = sl.o + (off + len * e) by omega, e1]
                      rfl
                    · cases ha
                  · cases ha
            · rename_i hroom
              rw [Nat.ble_eq] at hroom
              split at ha
              · cases ha
              · rename_i old hold
                split at ha
                · cases ha
                · rename_i hol
                  have hol : old.length = len * e := by simpa using hol
                  -- a new block
                  have grow : ¬ len + k ≤ cap' → ∀ (g1 : Nat → Option AObj), Ext C ρ h.get n w ρ g1 n w → (∀ id, h'.get id = if id = n then some (.cells false (old ++ new)) else g1 id) → ρ n = none → n' = n + 1 →
                      ∃ v' w' ρ', (Builtin.append_ ts ty #[.slice base' len cap', x']).run P w = .ok v' w' ∧ VR ρ' (.slice (some ⟨n, 0, none⟩) (len + k) (openCap e (len + k))) v' ∧ Ext C ρ h.get n w ρ' h'.get n' w' := by
                    intro hcc g1 hx1 hg' hfn hn'
                    have hrd : Rel C ρ h.get w.drew := hr.world rfl
                    obtain ⟨new2, hn3, hn4⟩ := srcCells_sound (P := P) hrd hx hnew
                    obtain ⟨old2, ho3, ho4⟩ := srcCells_sound (P := P) hrd hs hold
                    have hrun := append_grow (ty := ty) (base := base') h0 h1 ht ht2 hsz hk' hbt hz hn3 ho3 hcc hlen hby
                    have hl1 := ho4.length
                    have hl2 := hn4.length
                    simp only [Array.length_toList] at hl1 hl2
                    have hcap2 : len + k ≤ grownCap w (len + k) cap' el := by
                      unfold grownCap Question.cut; simp only []; omega
                    obtain ⟨c, hc⟩ : ∃ c : Array Value, c = old2 ++ new2 ++ Builtin.zeroCells z.cells (grownCap w (len + k) cap' el - (len + k)) := ⟨_, rfl⟩
                    have hcs : c.size = grownCap w (len + k) cap' el * e := by
                      rw [hc]
                      simp only [Array.size_append, zeroCells_size, hze]
                      rw [← hl1, ← hl2, hol, hnl, ← Nat.add_mul, ← Nat.add_mul, Nat.add_sub_cancel' hcap2]
                    rw [← hc] at hrun
                    subst hn'
                    refine ⟨_, _, setRen ρ n ⟨w.heap.size, 0, c.size⟩, hrun, .slice (setRen_eq _ _ _) ?_, hx1.trans ?_⟩
                    · unfold CapR
                      rw [if_pos (isOpen_openCap _ _), openLb_openCap he62, openE_openCap he62]
                      exact ⟨Nat.le_refl _, hcap2, by simp [hcs]⟩
                    · refine Ext.new (x := .cells c el) hx1.rel hfn hg' rfl rfl rfl rfl rfl ?_
                      refine ObjR.cells_more (c := c) (el := el) (l' := (old2 ++ new2).toList) (fr := (0, 0)) ?_ ?_ ?_ ?_ ?_ false
                      · rw [Array.toList_append]
                        exact (ho4.append hn4).mono (setRen_le hfn _)
                      · have : c.toList = (old2 ++ new2).toList ++ (Builtin.zeroCells z.cells (grownCap w (len + k) cap' el - (len + k))).toList := by rw [hc]; simp
                        rw [this, List.take_left]
                      · rw [hc]; simp
                      · show (w.heap.push (.cells c el))[w.heap.size]? = _
                        simp
                      · intro i _ h; omega
                  split at ha
                  · rename_i ho
                    have hEe : openE cap = e := by simpa [ho] using hE
                    rcases hbase with ⟨rfl, rfl, rfl, rfl⟩ | ⟨id, off, sl, rfl, hid, rfl, hc⟩
                    · cases ha
                    · simp only [] at ha
                      split at ha
                      · rename_i cs hg
                        split at ha
                        · rename_i hle0
                          rw [Nat.ble_eq] at hle0
                          cases ha
                          have hfn : ρ n = none := hf.1 n (Nat.le_refl _) (by omega)
                          have hidn : id ≠ n := fun e => by subst e; rw [hr.none_of hfn] at hg; cases hg
                          unfold CapR at hc
                          rw [if_pos ho, hEe] at hc
                          obtain ⟨_, _, hc3⟩ := hc
                          by_cases hin : len + k ≤ cap'
                          · -- in place
                            have hrun := append_room (ty := ty) (base := some ⟨sl.b, sl.o + off, none⟩) h0 h1 ht ht2 hsz hk' hn1 hin
                            obtain ⟨c, el', fr, q1, q2, q3, q4, q5⟩ := hr.slot hg hid
                            have hnl2 := hn2.length
                            have hmul : (len + k) * e ≤ cap' * e := Nat.mul_le_mul_right _ hin
                            rw [Nat.add_mul] at hmul
                            have hsc' : new'.toList.all scalar = true := hn2.scalars hsc
                            obtain ⟨w', e1, e2, e3, e4, e5, e6, e7⟩ := run_storeCells_of (P := P) sl.b el' fr new'.toList (sl.o + off + len * e) 0 c w q1 (by omega) (fun j hj => by
                              have := q4 rfl (off + len * e + j) (by omega)
                              rw [show sl.o + off + len * e + 0 + j = sl.o + (off + len * e + j) by omega]
                              exact this) hsc'
                            refine ⟨_, w', setRen ρ n ⟨sl.b, sl.o + off, sl.ext - off⟩, ?_, .slice (cap' := cap') (setRen_eq _ _ _) ?_, ?_⟩
                            · simp only [add_addr] at hrun
                              rw [hrun, e1]; rfl
                            · unfold CapR
                              rw [if_pos (isOpen_openCap _ _), openLb_openCap he62, openE_openCap he62]
                              exact ⟨Nat.le_refl _, hin, by simp only []; omega⟩
                            · refine Ext.move (o' := .cells false (old ++ new)) hr hfn hg hid rfl rfl rfl (fun j => ?_) e3 (fun b hb => e4 b hb) e5 e6 e7 ?_
                              · rw [Heap.get_new, Heap.get_set]
                              · refine ⟨_, el', fr, e2, by simp [putCells_length]; omega, by simp; omega, fun _ i hi => ?_, fun i v hi => ?_⟩
                                · have := q4 rfl (off + i) (by simp only [] at hi; omega)
                                  simp only [World.frozen?, q1] at this
                                  simp only [World.frozen?, e2]
                                  rw [Nat.add_assoc]
                                  exact this
                                · simp only [Nat.add_zero, List.getElem?_toArray]
                                  rw [putCells_get new'.toList c.toList (sl.o + off + len * e) (sl.o + off + i) (by have := hnl2; simp only [Array.length_toList] at this ⊢; omega)]
                                  by_cases hio : i < len * e
                                  · rw [if_neg (by omega)]
                                    rw [List.getElem?_append_left (by omega)] at hi
                                    have : cs[off + i]? = some v := by
                                      unfold srcCells at hold
                                      simp only [] at hold
                                      split at hold
                                      · cases hold; simp at hi
                                      · unfold cellsAt at hold
                                        rw [hg] at hold
                                        simp only [] at hold
                                        split at hold
                                        · cases hold
                                          rw [List.getElem?_take_of_lt hio, List.getElem?_drop] at hi
                                          exact hi
                                        · cases hold
                                    obtain ⟨v', a1, a2⟩ := q5 _ _ this
                                    refine ⟨v', ?_, a2.mono (setRen_le hfn _)⟩
                                    rw [show sl.o + off + i = sl.o + (off + i) by omega]
                                    simpa using a1
                                  · rw [List.getElem?_append_right (by omega)] at hi
                                    have hi2 : i - old.length < new.length := by
                                      rw [List.getElem?_eq_some_iff] at hi; exact hi.1
                                    obtain ⟨v', a1, a2⟩ := hn2.get _ _ hi
                                    refine ⟨v', ?_, a2.mono (setRen_le hfn _)⟩
                                    have hnl3 : new.length = new'.toList.length := hn2.length
                                    rw [if_pos ⟨by omega, by rw [← hnl3]; omega⟩, show sl.o + off + i - (sl.o + off + len * e) = i - old.length by omega]
                                    exact a1
                          · -- a new block
                            have hk2 : ∀ j, (h.set id none).get j = if j = id then none else h.get j := fun j => Heap.get_set _ _ _ _
                            exact grow hin (h.set id none).get (Ext.kill hr hk2) (fun j => Heap.get_new _ _ _ _) hfn rfl
                        · cases ha
                      · cases ha
                  · rename_i ho
                    cases ha
                    have hc0 := hcap.2 (by simpa using ho)
                    refine grow (by unfold knownCap at hroom; rw [if_neg ho] at hroom; omega) h.get (Ext.refl hr) (fun j => Heap.get_new _ _ _ _) (hf.1 n (Nat.le_refl _) (by omega)) rfl
  · cases ha
end Go.Proofs.Ytbhgncfbljkdgaa.AI
