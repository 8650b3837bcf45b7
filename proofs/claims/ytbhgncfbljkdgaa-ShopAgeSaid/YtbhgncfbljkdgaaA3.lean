/-
  Small laws for the operations' soundness: operands, cells, types.
-/
import Derived.Test.YtbhgncfbljkdgaaA2
import Derived.Laws.Cells
import Derived.Laws.World
import Derived.Laws.Entries
namespace Go.Proofs.Ytbhgncfbljkdgaa.AI
open Go

variable {P : Program}

theorem eq_of_beq_nat {a b : Nat} (h : Nat.beq a b = true) : a = b := Nat.eq_of_beq_eq_true h

theorem chkOpd_sound {ρ : Ren} {env : Env} {a : Act} (he : EnvR ρ env a.tmps) {x : Operand} {y : AOpd} (hc : chkOpd x y = true) {v : Value} (hv : ev env y = some v) :
    VR ρ v (a.eval x) := by
  unfold chkOpd at hc
  split at hc
  case h_1 t u =>
    have := eq_of_beq_nat hc; subst this
    obtain ⟨v', h1, h2⟩ := he t v hv
    simpa [Act.eval, h1] using h2
  case h_2 f g =>
    have := eq_of_beq_nat hc; subst this
    simp [ev] at hv; subst hv
    exact .func f rfl (fun i h1 _ => absurd h1 (by simp)) rfl fun i h1 _ => absurd h1 (by simp)
  case h_3 p q => simp at hc; subst hc; simp [ev] at hv; subst hv; exact .bool _
  case h_4 k p k' q => simp at hc; obtain ⟨h1, h2⟩ := hc; subst h1; subst h2; simp [ev] at hv; subst hv; exact .int _ _
  case h_5 p q => simp at hc; subst hc; simp [ev] at hv; subst hv; exact .string _
  case h_6 => simp [ev] at hv; subst hv; exact .ptrN
  case h_7 => simp [ev] at hv; subst hv; exact .sliceN
  case h_8 => simp [ev] at hv; subst hv; exact .mapN
  case h_9 => simp [ev] at hv; subst hv; exact .nilFunc
  case h_10 => simp [ev] at hv; subst hv; exact .nilIface
  case h_11 => cases hc

theorem chkOpds_sound {ρ : Ren} {env : Env} {a : Act} (he : EnvR ρ env a.tmps) : ∀ {xs : List Operand} {ys : List AOpd}, chkOpds xs ys = true → ∀ {vs : List Value}, evs env ys = some vs →
    LR ρ vs (xs.map a.eval)
  | [], [], _, vs, hv => by simp [evs] at hv; subst hv; exact .nil
  | [], _ :: _, hc, _, _ => by simp [chkOpds] at hc
  | _ :: _, [], hc, _, _ => by simp [chkOpds] at hc
  | x :: xs, y :: ys, hc, vs, hv => by
    simp only [chkOpds, Bool.and_eq_true] at hc
    simp only [evs] at hv
    split at hv
    · rename_i v e
      split at hv
      · rename_i vs' e'
        cases hv
        exact .cons (chkOpd_sound he hc.1 e) (chkOpds_sound he hc.2 e')
      · cases hv
    · cases hv

/-- parts of an aggregate, related one by one -/
inductive PR (ρ : Ren) : List (Nat × Value) → List (Nat × Value) → Prop
  | nil : PR ρ [] []
  | cons {i : Nat} {v v' : Value} {l l' : List (Nat × Value)} (h : VR ρ v v') (t : PR ρ l l') : PR ρ ((i, v) :: l) ((i, v') :: l')

theorem chkParts_sound {ρ : Ren} {env : Env} {a : Act} (he : EnvR ρ env a.tmps) : ∀ {xs : List (Nat × Operand)} {ys : List (Nat × AOpd)}, chkParts xs ys = true → ∀ {vs : List (Nat × Value)}, evParts env ys = some vs →
    PR ρ vs (xs.map fun p => (p.1, a.eval p.2))
  | [], [], _, vs, hv => by simp [evParts] at hv; subst hv; exact .nil
  | [], _ :: _, hc, _, _ => by simp [chkParts] at hc
  | _ :: _, [], hc, _, _ => by simp [chkParts] at hc
  | (i, x) :: xs, (j, y) :: ys, hc, vs, hv => by
    simp only [chkParts, Bool.and_eq_true] at hc
    have := eq_of_beq_nat hc.1.1; subst this
    simp only [evParts] at hv
    split at hv
    · rename_i v e
      split at hv
      · rename_i vs' e'
        cases hv
        exact .cons (chkOpd_sound he hc.1.2 e) (chkParts_sound he hc.2 e')
      · cases hv
    · cases hv

theorem fold_set_get (l : List Value) (off : Nat) : ∀ (k : Nat) (cs : Array Value), (l.zipIdx k).foldl (fun cs (c, j) => cs.setIfInBounds (off + j) c) cs = (putCells cs.toList (off + k) l).toArray := by
  induction l with
  | nil => intro k cs; simp [putCells]
  | cons v l ih =>
    intro k cs
    simp only [List.zipIdx_cons, List.foldl_cons, putCells]
    rw [ih (k + 1)]
    simp [Nat.add_assoc]

theorem LR.putCells {ρ : Ren} {vs vs' : List Value} (h : LR ρ vs vs') : ∀ {cs cs' : List Value} (off : Nat), LR ρ cs cs' → LR ρ (putCells cs off vs) (AI.putCells cs' off vs') := by
  induction h with
  | nil => intro cs cs' off hc; exact hc
  | cons hv _ ih => intro cs cs' off hc; exact ih _ (hc.set hv off)

theorem putCells_length (vs : List Value) : ∀ (cs : List Value) (off : Nat), (putCells cs off vs).length = cs.length := by
  induction vs with
  | nil => intro cs off; rfl
  | cons v vs ih => intro cs off; simp [putCells, ih]

theorem fill_sound {ρ : Ren} {place place' : Nat → Option (Nat × Nat)} (hp : place = place') {ps ps' : List (Nat × Value)} (h : PR ρ ps ps') : ∀ {cs cs' r : Array Value}, AR ρ cs cs' → Instr.fill place cs ps = some r →
    ∃ r', Instr.fill place' cs' ps' = some r' ∧ AR ρ r r' := by
  subst hp
  induction h with
  | nil => intro cs cs' r hc hr; simp [Instr.fill] at hr; subst hr; exact ⟨cs', by simp [Instr.fill], hc⟩
  | @cons i v v' l l' hv _ ih =>
    intro cs cs' r hc hr
    simp only [Instr.fill] at hr ⊢
    split at hr
    · cases hr
    · rename_i off size e
      have hs := hv.cells
      split at hr
      · cases hr
      · rename_i hb
        rw [← hs.1, ← hc.1, if_neg hb]
        refine ih ?_ hr
        have key : ∀ (c x : Array Value), x.zipIdx.foldl (fun cs (p : Value × Nat) => cs.setIfInBounds (off + p.2) p.1) c = (AI.putCells c.toList off x.toList).toArray := fun c x => by
          rw [← Array.foldl_toList]
          have := fold_set_get x.toList off 0 c
          simpa using this
        rw [key, key]
        exact LR.toAR (by simpa using hs.toList.putCells off hc.toList)

/-! ### Types -/

theorem chkAgg_sound {t : TypeId} {agg : Option Nat} (h : chkAgg P t agg = true) (w : World) :
    match agg with
    | none => (isAgg t).run P w = .ok false w
    | some n => (isAgg t).run P w = .ok true w ∧ (sizeOf t).run P w = .ok n w := by
  unfold chkAgg at h
  split at h
  · rename_i x hx
    unfold tAgg at hx
    have hag : agg = x := by
      cases x <;> cases agg <;> simp [optNatBeq] at h
      · rfl
      · rw [h]
    subst hag
    split at hx
    · rename_i fs i e1 e2
      cases hx
      simp [isAgg, run_underlying e1, sizeOf, typeInfo, e2]
    · rename_i n e i e1 e2
      cases hx
      simp [isAgg, run_underlying e1, sizeOf, typeInfo, e2]
    · rename_i u i e1 e2 n1 n2
      cases hx
      simp [isAgg, run_underlying n1]
    · cases hx
  · cases h

theorem cellBeq_sound {v v' : Value} (h : cellBeq v v' = true) : v = v' ∧ pureB v = true := by
  unfold cellBeq at h
  split at h <;> first | (simp at h; simp [h, pureB]; done) | (exact ⟨rfl, rfl⟩) | (cases h)

theorem cellsBeq_sound : ∀ {l l' : List Value}, cellsBeq l l' = true → l = l' ∧ l.all pureB = true
  | [], [], _ => ⟨rfl, rfl⟩
  | [], _ :: _, h => by simp [cellsBeq] at h
  | _ :: _, [], h => by simp [cellsBeq] at h
  | x :: xs, y :: ys, h => by
    simp only [cellsBeq, Bool.and_eq_true] at h
    obtain ⟨e, p⟩ := cellBeq_sound h.1
    obtain ⟨e', p'⟩ := cellsBeq_sound h.2
    exact ⟨by rw [e, e'], by simp only [List.all_cons, p, p', Bool.and_self]⟩

theorem chkZero_sound {t : TypeId} {zero : List Value} (h : chkZero P t zero = true) (w : World) : ∃ z, (zeroValue t).run P w = .ok z w ∧ z.cells.toList = zero ∧ zero.all pureB = true := by
  unfold chkZero at h
  split at h
  · rename_i z e
    obtain ⟨i, hi, hz⟩ := Option.bind_eq_some_iff.1 e
    obtain ⟨e1, e2⟩ := cellsBeq_sound h
    exact ⟨z, by simp [zeroValue, typeInfo, hi, hz], e1, e1 ▸ e2⟩
  · cases h

theorem chkZeroV_sound {t : TypeId} {zero : Value} (h : chkZeroV P t zero = true) (w : World) (ρ : Ren) : ∃ z, (zeroValue t).run P w = .ok z w ∧ VR ρ zero z := by
  unfold chkZeroV at h
  split at h
  · rename_i cs ds e
    obtain ⟨i, hi, hz⟩ := Option.bind_eq_some_iff.1 e
    obtain ⟨e1, e2⟩ := cellsBeq_sound h
    refine ⟨.agg cs, by simp [zeroValue, typeInfo, hi, hz], ?_⟩
    have : ds = cs := by rw [← Array.toArray_toList (xs := ds), ← Array.toArray_toList (xs := cs), e1]
    subst this
    exact .agg rfl (AR.of_pure e2).2
  · rename_i z e _
    obtain ⟨i, hi, hz⟩ := Option.bind_eq_some_iff.1 e
    obtain ⟨e1, e2⟩ := cellBeq_sound h
    exact ⟨z, by simp [zeroValue, typeInfo, hi, hz], by rw [← e1]; exact VR.of_pure e2⟩
  · cases h

theorem sizeIs_sound {t : TypeId} {n : Nat} (h : sizeIs P t n = true) (w : World) : (sizeOf t).run P w = .ok n w := by
  unfold sizeIs at h
  split at h
  · rename_i i e; have := eq_of_beq_nat h; simp [sizeOf, typeInfo, e, this]
  · cases h

theorem bytesIs_sound {t : TypeId} {n : Nat} (h : bytesIs P t n = true) (w : World) : ∃ i, (typeInfo t).run P w = .ok i w ∧ i.bytes = n := by
  unfold bytesIs at h
  split at h
  · rename_i i e; have := eq_of_beq_nat h; exact ⟨i, by simp [typeInfo, e], this⟩
  · cases h

theorem elemOfSlice_sound {t e : TypeId} (h : elemOfSlice P t = some e) (w : World) : (underlying t).run P w = .ok (.slice e) w := by
  unfold elemOfSlice at h
  split at h
  · rename_i x hx; cases h; exact run_underlying hx w
  · cases h

theorem mapOf_sound {t k e : TypeId} (h : mapOf P t = some (k, e)) (w : World) : (underlying t).run P w = .ok (.map k e) w := by
  unfold mapOf at h
  split at h
  · rename_i a b hx; cases h; exact run_underlying hx w
  · cases h

/-! ### Cells -/

theorem cell_of {w : World} {b o : Nat} {c : Array Value} {el : TypeId} {fr : Nat × Nat} (h : w.heap[b]? = some (.cells c el fr)) (i : Nat) :
    w.cell? ⟨b, o + i, none⟩ = c[o + i]? := by simp [World.cell?, h]

theorem add_addr (b o i : Nat) : (⟨b, o, none⟩ : Addr).add i = ⟨b, o + i, none⟩ := by
  unfold Addr.add; split <;> simp_all

theorem run_load_of {w : World} {b o : Nat} {c : Array Value} {el : TypeId} {fr : Nat × Nat} {v : Value} (h : w.heap[b]? = some (.cells c el fr)) (hv : c[o]? = some v) :
    (load ⟨b, o, none⟩).run P w = .ok v w := by
  have : w.cell? ⟨b, o, none⟩ = some v := by simp [World.cell?, h, hv]
  simp [this]

theorem run_loadCells_of {w : World} {b o : Nat} {c : Array Value} {el : TypeId} {fr : Nat × Nat} (h : w.heap[b]? = some (.cells c el fr)) (n : Nat) (hn : o + n ≤ c.size) :
    (loadCells ⟨b, o, none⟩ n).run P w = .ok ((c.toList.drop o).take n).toArray w := by
  have hl : ((c.toList.drop o).take n).length = n := by simp; omega
  have := run_loadCells_list (P := P) (w := w) ⟨b, o, none⟩ ((c.toList.drop o).take n) (fun j v hj => by
    rw [add_addr]
    have hjn : j < n := by
      rw [List.getElem?_eq_some_iff] at hj; obtain ⟨a, _⟩ := hj; omega
    rw [List.getElem?_take_of_lt hjn] at hj
    simpa [World.cell?, h] using hj)
  rw [hl] at this
  exact this

/-- cells written one after another -/
theorem run_storeCells_of (b : Nat) (el : TypeId) (fr : Nat × Nat) : ∀ (vs : List Value) (o i : Nat) (c : Array Value) (w : World), w.heap[b]? = some (.cells c el fr) → o + i + vs.length ≤ c.size →
    (∀ j, j < vs.length → w.frozen? ⟨b, o + i + j, none⟩ = false) → (vs.all scalar = true) →
    ∃ w', (storeCells ⟨b, o, none⟩ vs i).run P w = .ok () w' ∧ w'.heap[b]? = some (.cells (putCells c.toList (o + i) vs).toArray el fr) ∧ w'.heap.size = w.heap.size ∧
      (∀ x, x ≠ b → w'.heap[x]? = w.heap[x]?) ∧ w'.os = w.os ∧ w'.output = w.output ∧ w'.tape = w.tape
  | [], o, i, c, w, h, _, _, _ => ⟨w, by simp [storeCells], by simp [putCells, h], rfl, fun _ _ => rfl, rfl, rfl, rfl⟩
  | v :: vs, o, i, c, w, h, hn, hfz, hsc => by
    simp only [List.length_cons] at hn hfz
    simp only [List.all_cons, Bool.and_eq_true] at hsc
    have hcell : w.cell? ⟨b, o + i, none⟩ = some c[o + i] := by simp [World.cell?, h, show o + i < c.size by omega]
    have hv : v.oneCell' = true := by cases v <;> first | rfl | (simp [scalar] at hsc)
    have hb : b < w.heap.size := by rw [Array.getElem?_eq_some_iff] at h; exact h.1
    have hbe : w.heap[b]? = some w.heap[b] := by simp [hb]
    have hset : (w.setCell ⟨b, o + i, none⟩ v).heap[b]? = some (.cells (c.setIfInBounds (o + i) v) el fr) := by
      simp [World.setCell, Array.getElem?_modify, h]
    obtain ⟨w', h1, h2, h3, h4, h5, h6, h7⟩ := run_storeCells_of b el fr vs o (i + 1) (c.setIfInBounds (o + i) v) (w.setCell ⟨b, o + i, none⟩ v) hset (by simp; omega)
      (fun j hj => by
        rw [World.frozen?_setCell]
        have := hfz (j + 1) (by omega)
        rw [show o + (i + 1) + j = o + i + (j + 1) by omega]; exact this) hsc.2
    refine ⟨w', ?_, ?_, ?_, ?_, ?_, ?_, ?_⟩
    · simp only [storeCells, add_addr, Sem.run_bind]
      rw [run_store _ _ _ _ _ hv, hcell]
      have := hfz 0 (by omega)
      simp only [Nat.add_zero] at this
      simp only [this, Bool.false_eq_true, if_false, Result.andThen_ok]
      exact h1
    · rw [h2]; simp [putCells, Nat.add_assoc]
    · rw [h3]; simp
    · intro x hx
      rw [h4 x hx]
      simp [World.setCell, Array.getElem?_modify, Ne.symm hx]
    · rw [h5]; rfl
    · rw [h6]; rfl
    · rw [h7]; rfl
end Go.Proofs.Ytbhgncfbljkdgaa.AI
