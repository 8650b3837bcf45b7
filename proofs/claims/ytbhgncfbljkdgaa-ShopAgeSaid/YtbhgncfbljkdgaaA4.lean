/-
  Each operation that is no call does on a world what the abstract one does on the abstract heap: first part.
-/
import Derived.Test.YtbhgncfbljkdgaaA3
namespace Go.Proofs.Ytbhgncfbljkdgaa.AI
open Go

variable {P : Program}

def Yields (nx : Next) (v : Value) : Prop := nx = .value v ∨ (nx = .skip ∧ v = undef)

/-- what is shown of an operation -/
def OpDoes (C : Stands) (P : Program) (s : Sem Next) (ρ : Ren) (g : Nat → Option AObj) (n : Nat) (w : World) (v : Value) (g' : Nat → Option AObj) (n' : Nat) : Prop :=
  ∃ nx v' w' ρ', s.run P w = .ok nx w' ∧ Yields nx v' ∧ VR ρ' v v' ∧ Ext C ρ g n w ρ' g' n' w'

section
variable {C : Stands} {ρ : Ren} {g : Nat → Option AObj} {n : Nat} {w : World}

/-- a value alone -/
theorem OpDoes.val {s : Sem Next} {v v' : Value} (hr : Rel C ρ g w) (h : s.run P w = .ok (.value v') w) (hv : VR ρ v v') : OpDoes C P s ρ g n w v g n :=
  ⟨_, v', w, ρ, h, .inl rfl, hv, Ext.refl hr⟩

theorem LR.toArray {l l' : List Value} (h : LR ρ l l') : AR ρ l.toArray l'.toArray := LR.toAR (by simpa using h)

/-- cells that are made -/
theorem ObjR.cells_new {ρ' : Ren} {w' : World} {cs : List Value} {c : Array Value} {el : TypeId} (h : LR ρ' cs c.toList) {b : Nat} (hw : w'.heap[b]? = some (.cells c el (0, 0))) (ro : Bool) :
    ObjR C ρ' ⟨b, 0, c.size⟩ w' (.cells ro cs) :=
  ⟨c, el, (0, 0), hw, by simp, by have := h.length; simp at this; simp [this], fun _ i _ => by simp [World.frozen?, hw], fun i v e => by
    obtain ⟨v', e', hv⟩ := h.get i v e
    exact ⟨v', by simpa using e', hv⟩⟩

/-- a row of cells is made, of which the first are known -/
theorem ObjR.cells_more {ρ' : Ren} {w' : World} {cs : List Value} {c : Array Value} {el : TypeId} {l' : List Value} (h : LR ρ' cs l') (hp : l' = c.toList.take l'.length) (hl : l'.length ≤ c.size) {b : Nat} {fr : Nat × Nat} (hw : w'.heap[b]? = some (.cells c el fr))
    (hfr : ∀ i, i < c.size → ¬ (fr.1 ≤ i ∧ i < fr.2)) (ro : Bool) :
    ObjR C ρ' ⟨b, 0, c.size⟩ w' (.cells ro cs) :=
  ⟨c, el, fr, hw, by simp, by have := h.length; simp; omega, fun _ i hi => by
    simp only [World.frozen?, hw, Nat.zero_add]
    have := hfr i hi
    simp only [Bool.and_eq_false_iff, decide_eq_false_iff_not]
    by_cases h1 : fr.1 ≤ i
    · exact .inr fun h2 => this ⟨h1, h2⟩
    · exact .inl h1, fun i v e => by
    obtain ⟨v', e', hv⟩ := h.get i v e
    refine ⟨v', ?_, hv⟩
    rw [hp] at e'
    have hi : i < l'.length := by
      rw [List.getElem?_eq_some_iff] at e'; obtain ⟨a, _⟩ := e'; simp at a; omega
    rw [List.getElem?_take_of_lt hi] at e'
    simpa using e'⟩

theorem new_cells {w' : World} {cs : List Value} {c : Array Value} {el : TypeId} (hr : Rel C ρ g w) (hf : ρ n = none) (h : LR ρ cs c.toList) (hw : w' = { w with heap := w.heap.push (.cells c el) })
    {g' : Nat → Option AObj} (hg : ∀ id, g' id = if id = n then some (.cells false cs) else g id) :
    Ext C ρ g n w (setRen ρ n ⟨w.heap.size, 0, c.size⟩) g' (n + 1) w' := by
  subst hw
  refine Ext.new (o := .cells false cs) (x := .cells c el) hr hf hg rfl rfl rfl rfl rfl ?_
  exact ObjR.cells_new (el := el) (h.mono (setRen_le hf _)) (by simp) false

theorem asIx_sound {v : Value} {j : Nat} (h : asIx v = some j) : ∃ k, v = .int k (j : Int) := by
  unfold asIx at h
  split at h
  · split at h
    · cases h; exact ⟨_, rfl⟩
    · cases h
  · cases h

theorem VR.int_inv {k : IntKind} {i : Int} {v : Value} (h : VR ρ (.int k i) v) : v = .int k i := by cases h; rfl
theorem VR.bool_inv {b : Bool} {v : Value} (h : VR ρ (.bool b) v) : v = .bool b := by cases h; rfl
theorem VR.string_inv {s : ByteArray} {v : Value} (h : VR ρ (.string s) v) : v = .string s := by cases h; rfl
theorem VR.ptr_inv {a : Addr} {v : Value} (h : VR ρ (.pointer (some a)) v) : ∃ id off s, a = ⟨id, off, none⟩ ∧ ρ id = some s ∧ v = .pointer (some ⟨s.b, s.o + off, none⟩) := by
  cases h with
  | ptr e => exact ⟨_, _, _, rfl, e, rfl⟩
theorem VR.agg_inv {cs : Array Value} {v : Value} (h : VR ρ (.agg cs) v) : ∃ cs', v = .agg cs' ∧ AR ρ cs cs' := by
  cases h with
  | agg a b => exact ⟨_, rfl, a, b⟩
theorem VR.tuple_inv {cs : Array Value} {v : Value} (h : VR ρ (.tuple cs) v) : ∃ cs', v = .tuple cs' ∧ AR ρ cs cs' := by
  cases h with
  | tuple a b => exact ⟨_, rfl, a, b⟩
theorem VR.map_inv {r : Nat} {v : Value} (h : VR ρ (.map (some r)) v) : ∃ s, ρ r = some s ∧ v = .map (some s.b) := by
  cases h with
  | map e => exact ⟨_, e, rfl⟩

theorem asIx_VR {v v' : Value} {j : Nat} (h : asIx v = some j) (hv : VR ρ v v') : ∃ k, v' = .int k (j : Int) := by
  obtain ⟨k, rfl⟩ := asIx_sound h
  exact ⟨k, hv.int_inv⟩

theorem run_asIntOf (k : IntKind) (i : Int) (w : World) : (asIntOf (.int k i)).run P w = .ok (k, i) w := rfl

/-- what an abstract object of cells says -/
theorem cells_get (hr : Rel C ρ g w) {id : Nat} {ro : Bool} {cs : List Value} (hg : g id = some (.cells ro cs)) {s : Slot} (hs : ρ id = some s) :
    ∃ c el fr, w.heap[s.b]? = some (.cells c el fr) ∧ s.o + s.ext ≤ c.size ∧ cs.length ≤ s.ext ∧
      (ro = false → ∀ i, i < s.ext → w.frozen? ⟨s.b, s.o + i, none⟩ = false) ∧ LR ρ cs ((c.toList.drop s.o).take cs.length) := by
  obtain ⟨c, el, fr, h1, h2, h3, h4, h5⟩ := hr.slot hg hs
  refine ⟨c, el, fr, h1, h2, h3, h4, LR.of_get (by simp; omega) fun i v e => ?_⟩
  obtain ⟨v', e', hv⟩ := h5 i v e
  have hi : i < cs.length := by rw [List.getElem?_eq_some_iff] at e; exact e.1
  exact ⟨v', by rw [List.getElem?_take_of_lt hi, List.getElem?_drop]; simpa using e', hv⟩

theorem partOf_sound {agg : Option Nat} {t : TypeId} (ht : chkAgg P t agg = true) {cs : Array Value} {cs' : Array Value} (h : AR ρ cs cs') {off : Nat} {v : Value} (hv : partOf agg cs.toList off = some v) :
    ∃ v', (part t cs' off).run P w = .ok v' w ∧ VR ρ v v' := by
  have hh := chkAgg_sound ht w
  cases agg with
  | none =>
    simp only at hh
    simp only [partOf] at hv
    obtain ⟨v', e, hv'⟩ := h.toList.get off v hv
    refine ⟨v', ?_, hv'⟩
    simp at e
    simp [part, hh, e]
  | some k =>
    simp only at hh
    obtain ⟨h1, h2⟩ := hh
    simp only [partOf] at hv
    split at hv
    · rename_i hle
      cases hv
      refine ⟨.agg (cs'.extract off (off + k)), by simp [part, h1, h2], ?_⟩
      have : LR ρ ((cs.toList.drop off).take k) ((cs'.toList.drop off).take k) := (h.toList.drop off).take k
      have h3 := this.toArray
      have e : ((cs'.toList.drop off).take k).toArray = cs'.extract off (off + k) := by
        apply Array.ext'; simp [Array.toList_extract, List.extract]
      rw [e] at h3
      exact .agg h3.1 h3.2
    · cases hv

/-! ### load, store -/

theorem load_sound {t : TypeId} {agg : Option Nat} (ht : chkAgg P t agg = true) {h : Heap} (hr : Rel C ρ h.get w) {p p' v : Value} (hp : VR ρ p p') (hl : loadAt h agg p = some v) :
    ∃ v', (Instr.loadAt t p').run P w = .ok v' w ∧ VR ρ v v' := by
  unfold loadAt at hl
  split at hl
  · rename_i id off
    split at hl
    · rename_i ro cs hg
      obtain ⟨id', off', s, e, hs, rfl⟩ := hp.ptr_inv
      cases e
      obtain ⟨c, el, fr, h1, h2, h3, h4, h5⟩ := cells_get hr hg hs
      have hh := chkAgg_sound ht w
      cases agg with
      | none =>
        simp only at hh
        simp only [partOf] at hl
        obtain ⟨v', e, hv'⟩ := h5.get off v hl
        refine ⟨v', ?_, hv'⟩
        have hi : off < cs.length := by rw [List.getElem?_eq_some_iff] at hl; exact hl.1
        rw [List.getElem?_take_of_lt hi, List.getElem?_drop] at e
        simp only [Instr.loadAt, Instr.sureAddr, loadVar, Sem.run_bind, Sem.run_pure, Result.andThen_ok, hh, Bool.false_eq_true, if_false]
        exact run_load_of h1 (by simpa using e)
      | some k =>
        simp only at hh
        obtain ⟨e1, e2⟩ := hh
        simp only [partOf] at hl
        split at hl
        · rename_i hle
          rw [Nat.ble_eq] at hle
          cases hl
          refine ⟨.agg ((c.toList.drop (s.o + off)).take k).toArray, ?_, ?_⟩
          · simp only [Instr.loadAt, Instr.sureAddr, loadVar, Sem.run_bind, Sem.run_pure, Result.andThen_ok, e1, e2, if_true]
            rw [run_loadCells_of h1 k (by omega)]
            rfl
          · have := ((h5.drop off).take k).toArray
            rw [List.drop_take, List.drop_drop, List.take_take, Nat.min_eq_left (by omega)] at this
            exact .agg this.1 this.2
        · cases hl
    · cases hl
  · cases hl

theorem putCells_get (vs : List Value) : ∀ (cs : List Value) (off i : Nat), off + vs.length ≤ cs.length → (putCells cs off vs)[i]? = if off ≤ i ∧ i < off + vs.length then vs[i - off]? else cs[i]? := by
  induction vs with
  | nil => intro cs off i _; rw [if_neg (by simp only [List.length_nil]; omega)]; rfl
  | cons v vs ih =>
    intro cs off i h
    simp only [List.length_cons] at h
    simp only [putCells, List.length_cons]
    rw [ih _ _ _ (by simp; omega)]
    by_cases h1 : off + 1 ≤ i ∧ i < off + 1 + vs.length
    · rw [if_pos h1, if_pos (by omega), show i - off = (i - (off + 1)) + 1 by omega]; simp
    · rw [if_neg h1]
      by_cases h2 : i = off
      · subst h2; rw [if_pos (by omega), List.getElem?_set_self (by omega)]; simp
      · rw [if_neg (by omega), List.getElem?_set_ne (by omega)]

/-- cells are written into an object -/
theorem write_sound {id : Nat} {cs : List Value} {s : Slot} (hr : Rel C ρ g w) (hg : g id = some (.cells false cs)) (hs : ρ id = some s) {off : Nat} {vs vs' : List Value} (hv : LR ρ vs vs') (hle : off + vs.length ≤ cs.length)
    (hsc : vs.all scalar = true) {g' : Nat → Option AObj} (hg' : ∀ j, g' j = if j = id then some (.cells false (putCells cs off vs)) else g j) :
    ∃ w', (storeCells ⟨s.b, s.o + off, none⟩ vs').run P w = .ok () w' ∧ Ext C ρ g n w ρ g' n w' := by
  obtain ⟨c, el, fr, h1, h2, h3, h4, h5⟩ := hr.slot hg hs
  have hlen := hv.length
  have hsc' : vs'.all scalar = true := by
    clear hle hg' hlen
    induction hv with
    | nil => rfl
    | cons a _ ih =>
      simp only [List.all_cons, Bool.and_eq_true] at hsc ⊢
      refine ⟨?_, ih hsc.2⟩
      have := hsc.1
      cases a <;> first | rfl | exact this
  obtain ⟨w', e1, e2, e3, e4, e5, e6, e7⟩ := run_storeCells_of (P := P) s.b el fr vs' (s.o + off) 0 c w h1 (by omega) (fun j hj => by
    have := h4 rfl (off + j) (by omega)
    rw [← Nat.add_assoc] at this
    simpa using this) hsc'
  refine ⟨w', e1, ?_⟩
  refine Ext.set hr hg hs rfl rfl hg' e3 (fun b hb => e4 b hb) e5 e6 e7 ?_
  refine ⟨_, el, fr, e2, by simp [putCells_length]; omega, by simp [putCells_length]; omega, fun _ i hi => ?_, fun i v hi => ?_⟩
  · have := h4 rfl i hi
    simp only [World.frozen?, h1] at this
    simp only [World.frozen?, e2]
    exact this
  · rw [putCells_get vs cs off i hle] at hi
    simp only [Nat.add_zero, List.getElem?_toArray]
    rw [putCells_get vs' c.toList (s.o + off) (s.o + i) (by simp; omega)]
    split at hi
    · rename_i hb
      obtain ⟨v', e', hv'⟩ := hv.get _ _ hi
      refine ⟨v', ?_, hv'⟩
      rw [if_pos (by omega), show s.o + i - (s.o + off) = i - off by omega]
      exact e'
    · rename_i hb
      obtain ⟨v', e', hv'⟩ := h5 i v hi
      refine ⟨v', ?_, hv'⟩
      rw [if_neg (by omega)]
      simpa using e'

theorem store_sound {t : TypeId} {size : Nat} (ht : sizeIs P t size = true) {h h' : Heap} (hr : Rel C ρ h.get w) {p p' x x' : Value} (hp : VR ρ p p') (hx : VR ρ x x') (hl : storeAt h size p x = some h') :
    ∃ w', (Instr.storeAt t p' x').run P w = .ok () w' ∧ Ext C ρ h.get n w ρ h'.get n w' := by
  unfold storeAt at hl
  split at hl
  · rename_i id off
    split at hl
    · rename_i cs hg
      obtain ⟨id', off', s, e, hs, rfl⟩ := hp.ptr_inv
      cases e
      simp only [] at hl
      split at hl
      · rename_i hc
        cases hl
        simp only [Bool.and_eq_true, Nat.ble_eq] at hc
        obtain ⟨⟨hc1, hc2⟩, hc3⟩ := hc
        have hc1 := eq_of_beq_nat hc1
        have hcells := hx.cells
        have hsz : x'.cells.size = size := by rw [← hcells.1]; simpa using hc1
        obtain ⟨w', e1, e2⟩ := write_sound (P := P) (n := n) hr hg hs hcells.toList (off := off) (by omega) hc3 (g' := (h.set id (some (.cells false (putCells cs off x.cells.toList)))).get) (fun j => Heap.get_set _ _ _ _)
        refine ⟨w', ?_, e2⟩
        simp only [Instr.storeAt, Instr.sureAddr, storeVar, Sem.run_bind, Sem.run_pure, Result.andThen_ok, sizeIs_sound ht w]
        simp [hsz, e1]
      · cases hl
    · cases hl
  · cases hl
end
end Go.Proofs.Ytbhgncfbljkdgaa.AI
