/-
  'forecourtlaw11.ShopAge' returns true, for any two dates, in every world, whatever order Go takes; nothing that was there is changed. No condition.
-/
import Derived.Test.YtbhgncfbljkdgaaRows
import Derived.Test.YtbhgncfbljkdgaaD6
import Derived.Test.YtbhgncfbljkdgaaA35
import Derived.ChangeArms
namespace Go.Proofs.Ytbhgncfbljkdgaa.shopAge
open Go.ChangeShapes Go.WideShapes Go.ChangeAt Go.RowKit
open Go.Proofs.Ytbhgncfbljkdgaa.AI Go.Proofs.Ytbhgncfbljkdgaa.Fn
set_option linter.unusedVariables false

theorem own : ownKnob Try.prog.godebug = none := by kernel_rfl
theorem cells50 : Try.prog.cellsOf 50 = 3 := by kernel_rfl
theorem cells3 : Try.prog.cellsOf 3 = 1 := by kernel_rfl

set_option maxRecDepth 100000 in
/-- a date's value -/
theorem open_date {H : Type} {enc : TypeId × Value → H} {w : World} {r : Reach} {b0 base : Nat} {spare : Nat → Bool} {held : Bool} {v : Value} {d : DataW H} {ps : List MemPlace}
    (hval : Value.okWide Try.prog w r b0 50 v) (hd : DataW.Trod enc Try.prog w base spare held 50 v d ps) : ∃ y m dd, v = dateV y m dd := by
  obtain ⟨cs, rfl, hsz⟩ := okWide_struct Try.underlying50 hval
  obtain ⟨fuel, hf⟩ := hd
  obtain ⟨xs, n, _, _, _, hlen, hx⟩ := DataW.trod_struct Try.underlying50 hf
  have hcells : (Value.agg cs).cells.toList = cs.toList := rfl
  rw [cells50] at hsz
  obtain ⟨a, b, c, habc⟩ : ∃ a b c, cs.toList = [a, b, c] := by
    have : cs.toList.length = 3 := by simpa using hsz
    match h : cs.toList, this with
    | [a, b, c], _ => exact ⟨a, b, c, rfl⟩
  rw [hcells, habc] at hx
  have x0 := hx 0 _ rfl
  have x1 := hx 1 _ rfl
  have x2 := hx 2 _ rfl
  have hxs : xs.length = 3 := hlen
  match xs, hxs with
  | [y0, y1, y2], _ =>
    have f0 : DataW.trod enc Try.prog w base spare held n 3 [a] = some y0 := by simpa [cells3] using x0
    have f1 : DataW.trod enc Try.prog w base spare held n 3 [b] = some y1 := by simpa [cells3] using x1
    have f2 : DataW.trod enc Try.prog w base spare held n 3 [c] = some y2 := by simpa [cells3] using x2
    obtain ⟨i, e0, _⟩ := DataW.trod_int Try.underlying3 f0
    obtain ⟨j, e1, _⟩ := DataW.trod_int Try.underlying3 f1
    obtain ⟨k, e2, _⟩ := DataW.trod_int Try.underlying3 f2
    cases e0; cases e1; cases e2
    refine ⟨i, j, k, ?_⟩
    unfold dateV
    rw [← habc]

theorem walk (y m d y' m' d' : Int) (w : World) : Calls Try.prog 14 #[dateV y m d, dateV y' m' d'] w fun e w' => e = .returned (.bool true) ∧ Stays w w' := by
  obtain ⟨v, h', n', e, rfl⟩ := run14 y m d y' m' d' ⟨.leaf, 0⟩ 0 (fun id o e => by simp [Heap.get, Tr.get] at e)
  refine law_of_sim (RO_sim O9_ok.1 tab mixed) e (ρ := fun _ => none) ?_ ⟨fun id o e => ?_, fun i j o o' s s' e => ?_⟩ (fun id o e => ?_) (fun _ _ => rfl) (fun id o e => ?_)
  · exact .cons (VR.of_plain rfl) (.cons (VR.of_plain rfl) .nil)
  all_goals (simp [Heap.get, Tr.get] at e)

set_option maxRecDepth 100000 in
theorem lifted (os : Os) (started : os.Started) (H : Type) (enc : TypeId × Value → H) :
    ReturnsInHanded {} Try.checked os 14 .any (Rows.shopAgeSpec.pre6 enc Try.prog Try.f14 Rows.shopAgeRow.domain false) (Rows.shopAgeSpec.post enc Try.prog Try.f14 false true false false) := by
  refine returnsInHanded_of_change (C := Try.checked) own started (by kernel_rfl) Try.func14
    (ChangeSpec.witness6 (enc := enc) (C := Try.checked) false ⟨#[], #[dateV 0 0 0, dateV 0 0 0], []⟩ 8 (by kernel_rfl) (by kernel_rfl) (by kernel_rfl) (by kernel_rfl)) ?_
  intro W base args ds gs before hval0 hW hcnd _
  have hval : ∀ (j : Nat) t v, Try.f14.params[j]? = some t → args[j]? = some v → Value.okWide Try.prog W .any base t v := hval0
  have hW' := hW
  obtain ⟨p, q, hA0, hV, rfl, hfz, hnd⟩ := hW
  have hA : DataW.TrodAll enc Try.prog W 0 (fun _ => true) true Try.f14.params.toList args.toList ds p := hA0
  have hagain := fun (W' : World) (hk : Stays W W') => args_again (enc := enc) (P := Try.prog) (by kernel_rfl) (by kernel_rfl) (by kernel_rfl) hk (ts := Try.f14.params.toList) (by kernel_rfl) hA
  rw [Try.params14] at hA hval
  obtain ⟨v0, vs0, d0, ds0, p0, q0, hargs, rfl, rfl, h0, r0⟩ := trodAll_cons hA
  obtain ⟨v1, vs1, d1, ds1, p1, q1, rfl, rfl, rfl, h1, r1⟩ := trodAll_cons r0
  obtain ⟨rfl, rfl, rfl⟩ := trodAll_nil r1
  obtain rfl : args = #[v0, v1] := by cases args; simp_all
  obtain ⟨rfl, rfl⟩ := trodVars_none hV
  obtain ⟨y, m, d, rfl⟩ := open_date (hval 0 50 v0 rfl rfl) h0
  obtain ⟨y', m', d', rfl⟩ := open_date (hval 1 50 v1 rfl rfl) h1
  clear hA0 hval0
  refine (walk y m d y' m' d' W).mono fun e W' ⟨he, hg⟩ => ?_
  subst he
  exact ⟨_, rfl, post_stays (pv := []) hW' (fun _ _ _ => (trodAll_cons_mk (shut_bool Try.underlying4 _) trodAll_mk0)) (fun sp hsp => hagain W' hg sp (fun x hx => hsp x (by simpa using hx))) (fun _ _ => rfl) rfl hg⟩

theorem over : Rows.shopAgeRow.holds Try.pinned (OpenSpec.ofChange Rows.shopAgeSpec) :=
  OpenClaim.holds_of_wide 14 Try.f14 rfl rfl rfl rfl rfl rfl rfl ⟨rfl, rfl, rfl, rfl, rfl⟩ rfl rfl rfl rfl rfl (by kernel_rfl) Try.func14 (by kernel_rfl)
    (of_decide_eq_true (by kernel_rfl)) (by unfold Func.isWrapper; first | (rw [if_pos (by decide +kernel)]; kernel_rfl) | (rw [if_neg (by decide +kernel)]; exact ⟨rfl, rfl⟩))
    (fun os started H enc _ => lifted os started H enc)

/-- THE STATEMENT -/
theorem proved : Rows.ShopAgeSaid := over
#print axioms proved
end Go.Proofs.Ytbhgncfbljkdgaa.shopAge
