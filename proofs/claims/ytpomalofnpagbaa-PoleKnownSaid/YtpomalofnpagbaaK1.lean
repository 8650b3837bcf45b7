/-
  'forecourtlaw09.PoleKnown' returns true, in every world, whatever order Go takes; nothing that was there is changed. No condition.
-/
import Derived.Test.YtpomalofnpagbaaRows
import Derived.Test.YtpomalofnpagbaaW1
import Derived.Test.YtpomalofnpagbaaA29
namespace Go.Proofs.Ytpomalofnpagbaa.poleKnown
open Go.ChangeShapes Go.WideShapes Go.ChangeAt Go.RowKit
open Go.Proofs.Ytpomalofnpagbaa.AI Go.Proofs.Ytpomalofnpagbaa.Fn
set_option linter.unusedVariables false

theorem own : ownKnob Try.prog.godebug = none := by kernel_rfl

def isTrue : Option (Value × Heap × Nat) → Bool
  | some (.bool true, _, _) => true
  | _ => false

theorem isTrue_some {x : Option (Value × Heap × Nat)} (h : isTrue x = true) : ∃ h' n', x = some (.bool true, h', n') := by
  unfold isTrue at h
  split at h
  · exact ⟨_, _, rfl⟩
  · cases h

theorem run3 : isTrue ((runO AP O0 60).call 3 [] ⟨.leaf, 0⟩ 0) = true := by kernel_rfl

theorem walk (w : World) : Calls Try.prog 3 #[] w fun e w' => e = .returned (.bool true) ∧ Stays w w' := by
  obtain ⟨h', n', e⟩ := isTrue_some run3
  exact law_closed_sim (runO_sound O0_ok tab mixed 60).1 e w

set_option maxRecDepth 100000 in
theorem lifted (os : Os) (started : os.Started) (H : Type) (enc : TypeId × Value → H) :
    ReturnsInHanded {} Try.checked os 3 .any (Rows.poleKnownSpec.pre6 enc Try.prog Try.f3 Rows.poleKnownRow.domain false) (Rows.poleKnownSpec.post enc Try.prog Try.f3 false true false false) := by
  refine returnsInHanded_of_change (C := Try.checked) own started (by kernel_rfl) Try.func3
    (ChangeSpec.witness6 (enc := enc) (C := Try.checked) false ⟨#[], #[], []⟩ 8 (by kernel_rfl) (by kernel_rfl) (by kernel_rfl) (by kernel_rfl)) ?_
  intro W base args ds gs before hval0 hW hcnd _
  have hW' := hW
  obtain ⟨p, q, hA0, hV, rfl, hfz, hnd⟩ := hW
  have hA : DataW.TrodAll enc Try.prog W 0 (fun _ => true) true Try.f3.params.toList args.toList ds p := hA0
  rw [Try.params3] at hA
  obtain ⟨rfl, rfl, rfl⟩ := trodAll_none hA
  obtain ⟨rfl, rfl⟩ := trodVars_none hV
  clear hA0 hval0
  simp only [List.append_nil] at hW'
  refine (walk W).mono fun e W' ⟨he, hg⟩ => ?_
  subst he
  exact ⟨_, rfl, post_stays (pa := []) (pv := []) hW' (fun _ _ _ => (trodAll_cons_mk (shut_bool Try.underlying4 _) trodAll_mk0)) (fun sp _ => rfl) (fun _ _ => rfl) rfl hg⟩

theorem over : Rows.poleKnownRow.holds Try.pinned (OpenSpec.ofChange Rows.poleKnownSpec) :=
  OpenClaim.holds_of_wide 3 Try.f3 rfl rfl rfl rfl rfl rfl rfl ⟨rfl, rfl, rfl, rfl, rfl⟩ rfl rfl rfl rfl rfl (by kernel_rfl) Try.func3 (by kernel_rfl)
    (of_decide_eq_true (by kernel_rfl)) (by unfold Func.isWrapper; first | (rw [if_pos (by decide +kernel)]; kernel_rfl) | (rw [if_neg (by decide +kernel)]; exact ⟨rfl, rfl⟩))
    (fun os started H enc _ => lifted os started H enc)

/-- THE STATEMENT -/
theorem proved : Rows.PoleKnownSaid := over
#print axioms proved
end Go.Proofs.Ytpomalofnpagbaa.poleKnown
