/-
  No cell of these rows narrows 'for every input' (looked for: loops, veiled, ifaces, maps, wideKeys, modest, calm, conditions, laid).
  DERIVED. THE GIVEN ROWS OF THIS SEAT. 3 by the template 'for every input the law returns true; each argument reads behind the call as it read before'; 0 by the template 'total and deterministic' (their statements: YtpomalofnpagbaaTotals.lean).
  GIVEN WITH THE SEED: the statements are not yours to turn. If you find one false, say at which input.
  Laid BY PROGRAM, IN A SANDBOX (cutbox-rows.mjs): the forced cells as the released guide's own fill.sh prints them over the translation 6b889dbdbab5f627… (all of the seat's roots in one cut). By AI agents, Wed Nov 11 2026. No macro, syntax, notation, axiom, sorry.
-/
import Derived.Test.YtpomalofnpagbaaChecked
import GoSem.Claim
import GoSem.ClaimJoined
import GoSem.ClaimMapViews
import Derived.JoinedTies
import Derived.KernelRfl
namespace Go.Proofs.Ytpomalofnpagbaa
/- THE CELL 'sum', in the pinned program and in every row, IS THE sha256 OF THE DUMP (.gsa) THAT YtpomalofnpagbaaProg.lean LOADS. Nothing in Lean hashes anything: it is a label: what it is worth is what the hold of that sum in a sandbox is worth. -/
noncomputable def Try.pinned : Pinned := { name := "ytpomalofnpagbaa", sum := "6b889dbdbab5f62753b83eccf167911f9fddd704b3c5d043c7cd64cd9fb93b83", checked := Try.checked }
namespace Rows
def none {H : Type} : Left H := { results := [], args := [] }

/-- 'forecourtlaw09.PoleKnown': WHATEVER THE INPUT: true; the input reads as it did. -/
def poleKnownSpec : ChangeSpec := { name := "poleKnown", fn := fun _ => fun
  | [] => { results := [.lit (.bool true)], args := [] }
  | _ => none }
def poleKnownRow : OpenClaim := { program := "ytpomalofnpagbaa", sum := "6b889dbdbab5f62753b83eccf167911f9fddd704b3c5d043c7cd64cd9fb93b83", func := "forecourt/forecourtlaw09.PoleKnown", spec := "poleKnown", unfollowed := true, recurses := true, apart := false }
def PoleKnownSaid : Prop := poleKnownRow.holds Try.pinned (OpenSpec.ofChange poleKnownSpec)

/-- ITS FALSE NEIGHBOUR: 'it returns false'. Refute it at one input. -/
def poleKnownWrong : ChangeSpec := { name := "poleKnown", fn := fun _ => fun
  | [] => { results := [.lit (.bool false)], args := [] }
  | _ => none }
def PoleKnownWrongFalsely : Prop := poleKnownRow.holds Try.pinned (OpenSpec.ofChange poleKnownWrong)

/-- 'forecourtlaw09.PoleMixes': WHATEVER THE INPUT: true; the input reads as it did. -/
def poleMixesSpec : ChangeSpec := { name := "poleMixes", fn := fun _ => fun
  | [d1, d2] => { results := [.lit (.bool true)], args := [d1, d2] }
  | _ => none }
def poleMixesRow : OpenClaim := { program := "ytpomalofnpagbaa", sum := "6b889dbdbab5f62753b83eccf167911f9fddd704b3c5d043c7cd64cd9fb93b83", func := "forecourt/forecourtlaw09.PoleMixes", spec := "poleMixes", unfollowed := true, recurses := true, apart := false }
def PoleMixesSaid : Prop := poleMixesRow.holds Try.pinned (OpenSpec.ofChange poleMixesSpec)

/-- ITS FALSE NEIGHBOUR: 'it returns false'. Refute it at one input. -/
def poleMixesWrong : ChangeSpec := { name := "poleMixes", fn := fun _ => fun
  | [d1, d2] => { results := [.lit (.bool false)], args := [d1, d2] }
  | _ => none }
def PoleMixesWrongFalsely : Prop := poleMixesRow.holds Try.pinned (OpenSpec.ofChange poleMixesWrong)

/-- 'forecourtlaw09.PoleAverage': WHATEVER THE INPUT: true; the input reads as it did. -/
def poleAverageSpec : ChangeSpec := { name := "poleAverage", fn := fun _ => fun
  | [d1, d2] => { results := [.lit (.bool true)], args := [d1, d2] }
  | _ => none }
def poleAverageRow : OpenClaim := { program := "ytpomalofnpagbaa", sum := "6b889dbdbab5f62753b83eccf167911f9fddd704b3c5d043c7cd64cd9fb93b83", func := "forecourt/forecourtlaw09.PoleAverage", spec := "poleAverage", unfollowed := true, recurses := true, apart := false }
def PoleAverageSaid : Prop := poleAverageRow.holds Try.pinned (OpenSpec.ofChange poleAverageSpec)

/-- ITS FALSE NEIGHBOUR: 'it returns false'. Refute it at one input. -/
def poleAverageWrong : ChangeSpec := { name := "poleAverage", fn := fun _ => fun
  | [d1, d2] => { results := [.lit (.bool false)], args := [d1, d2] }
  | _ => none }
def PoleAverageWrongFalsely : Prop := poleAverageRow.holds Try.pinned (OpenSpec.ofChange poleAverageWrong)

/- THE SECOND FORM. 'bulk': how many values and letters a reading holds, each counted each time it is reached (what is shared counts as often as it is met; a slice's spare places count too). A statement '..UptoSaid' is the law's where the arguments, and the package variables that the reading takes, are together of bulk at most 1048576: NARROWER than '..Said'. Prove '..Said' where nothing that the law and all that it calls make is longer than what came in: it says more and counts as full. Else prove '..UptoSaid'. A law counts once. -/
mutual
def uptoBulk {H : Type} : DataW H → Nat
  | .lit (.string bytes) => bytes.length + 1
  | .lit _ => 1
  | .nil => 1
  | .ptr d => uptoBulk d + 1
  | .slice elems spare => uptoBulkAll elems + uptoBulkAll spare + 1
  | .agg parts => uptoBulkAll parts + 1
  | .iface _ d => uptoBulk d + 1
  | .map entries => uptoBulkEntries entries + 1
  | .held _ => 1
def uptoBulkAll {H : Type} : List (DataW H) → Nat
  | [] => 0
  | d :: r => uptoBulk d + uptoBulkAll r
def uptoBulkEntries {H : Type} : List (Lit × DataW H) → Nat
  | [] => 0
  | x :: r => uptoBulkEntry x + uptoBulkEntries r
def uptoBulkEntry {H : Type} : Lit × DataW H → Nat
  | (.string bytes, d) => bytes.length + uptoBulk d + 1
  | (_, d) => uptoBulk d + 1
 end
def uptoSmall : (H : Type) → List (DataW H) → Bool := fun _ ds => decide (uptoBulkAll ds ≤ 1048576)
def OpenSpec.upto (s : _root_.Go.ChangeSpec) : _root_.Go.OpenSpec := { _root_.Go.OpenSpec.ofChange s with cond := some uptoSmall }

/-- 'forecourtlaw09.PoleKnown', WHERE WHAT IT READS IS OF BULK AT MOST 1048576: true; the input reads as it did. -/
def poleKnownUptoRow : OpenClaim := { program := "ytpomalofnpagbaa", sum := "6b889dbdbab5f62753b83eccf167911f9fddd704b3c5d043c7cd64cd9fb93b83", func := "forecourt/forecourtlaw09.PoleKnown", spec := "poleKnown", unfollowed := true, recurses := true, apart := false, narrowed := true }
def PoleKnownUptoSaid : Prop := poleKnownUptoRow.holds Try.pinned (OpenSpec.upto poleKnownSpec)

/-- 'forecourtlaw09.PoleMixes', WHERE WHAT IT READS IS OF BULK AT MOST 1048576: true; the input reads as it did. -/
def poleMixesUptoRow : OpenClaim := { program := "ytpomalofnpagbaa", sum := "6b889dbdbab5f62753b83eccf167911f9fddd704b3c5d043c7cd64cd9fb93b83", func := "forecourt/forecourtlaw09.PoleMixes", spec := "poleMixes", unfollowed := true, recurses := true, apart := false, narrowed := true }
def PoleMixesUptoSaid : Prop := poleMixesUptoRow.holds Try.pinned (OpenSpec.upto poleMixesSpec)

/-- 'forecourtlaw09.PoleAverage', WHERE WHAT IT READS IS OF BULK AT MOST 1048576: true; the input reads as it did. -/
def poleAverageUptoRow : OpenClaim := { program := "ytpomalofnpagbaa", sum := "6b889dbdbab5f62753b83eccf167911f9fddd704b3c5d043c7cd64cd9fb93b83", func := "forecourt/forecourtlaw09.PoleAverage", spec := "poleAverage", unfollowed := true, recurses := true, apart := false, narrowed := true }
def PoleAverageUptoSaid : Prop := poleAverageUptoRow.holds Try.pinned (OpenSpec.upto poleAverageSpec)

end Rows
end Go.Proofs.Ytpomalofnpagbaa
