/-
  No cell of these rows narrows 'for every input' (looked for: loops, veiled, ifaces, maps, wideKeys, modest, calm, conditions, laid).
  DERIVED. THE GIVEN ROWS OF THIS SEAT. 13 by the template 'for every input the law returns true; each argument reads behind the call as it read before'; 0 by the template 'total and deterministic' (their statements: YtbhgncfbljkdgaaTotals.lean).
  GIVEN WITH THE SEED: the statements are not yours to turn. If you find one false, say at which input.
  Laid BY PROGRAM, IN A SANDBOX (cutbox-rows.mjs): the forced cells as the released guide's own fill.sh prints them over the translation 3f2df66663c67d8b… (all of the seat's roots in one cut). By AI agents, Wed Nov 11 2026. No macro, syntax, notation, axiom, sorry.
-/
import Derived.Test.YtbhgncfbljkdgaaChecked
import GoSem.Claim
import GoSem.ClaimJoined
import GoSem.ClaimMapViews
import Derived.JoinedTies
import Derived.KernelRfl
namespace Go.Proofs.Ytbhgncfbljkdgaa
/- THE CELL 'sum', in the pinned program and in every row, IS THE sha256 OF THE DUMP (.gsa) THAT YtbhgncfbljkdgaaProg.lean LOADS. Nothing in Lean hashes anything: it is a label: what it is worth is what the hold of that sum in a sandbox is worth. -/
noncomputable def Try.pinned : Pinned := { name := "ytbhgncfbljkdgaa", sum := "3f2df66663c67d8b50ee3d8c7f3802e7bcfa6fde5b24de612aba45eab3a2cb07", checked := Try.checked }
namespace Rows
def none {H : Type} : Left H := { results := [], args := [] }

/-- 'forecourtlaw11.ShopDays': WHATEVER THE INPUT: true; the input reads as it did. -/
def shopDaysSpec : ChangeSpec := { name := "shopDays", fn := fun _ => fun
  | [d1, d2] => { results := [.lit (.bool true)], args := [d1, d2] }
  | _ => none }
def shopDaysRow : OpenClaim := { program := "ytbhgncfbljkdgaa", sum := "3f2df66663c67d8b50ee3d8c7f3802e7bcfa6fde5b24de612aba45eab3a2cb07", func := "forecourt/forecourtlaw11.ShopDays", spec := "shopDays", unfollowed := true, recurses := true, plainKeys := false, apart := false }
def ShopDaysSaid : Prop := shopDaysRow.holds Try.pinned (OpenSpec.ofChange shopDaysSpec)

/-- ITS FALSE NEIGHBOUR: 'it returns false'. Refute it at one input. -/
def shopDaysWrong : ChangeSpec := { name := "shopDays", fn := fun _ => fun
  | [d1, d2] => { results := [.lit (.bool false)], args := [d1, d2] }
  | _ => none }
def ShopDaysWrongFalsely : Prop := shopDaysRow.holds Try.pinned (OpenSpec.ofChange shopDaysWrong)

/-- 'forecourtlaw11.ShopCharges': WHATEVER THE INPUT: true; the input reads as it did. -/
def shopChargesSpec : ChangeSpec := { name := "shopCharges", fn := fun _ => fun
  | [d1, d2] => { results := [.lit (.bool true)], args := [d1, d2] }
  | _ => none }
def shopChargesRow : OpenClaim := { program := "ytbhgncfbljkdgaa", sum := "3f2df66663c67d8b50ee3d8c7f3802e7bcfa6fde5b24de612aba45eab3a2cb07", func := "forecourt/forecourtlaw11.ShopCharges", spec := "shopCharges", unfollowed := true, recurses := true, plainKeys := false, apart := false }
def ShopChargesSaid : Prop := shopChargesRow.holds Try.pinned (OpenSpec.ofChange shopChargesSpec)

/-- ITS FALSE NEIGHBOUR: 'it returns false'. Refute it at one input. -/
def shopChargesWrong : ChangeSpec := { name := "shopCharges", fn := fun _ => fun
  | [d1, d2] => { results := [.lit (.bool false)], args := [d1, d2] }
  | _ => none }
def ShopChargesWrongFalsely : Prop := shopChargesRow.holds Try.pinned (OpenSpec.ofChange shopChargesWrong)

/-- 'forecourtlaw11.ShopBests': WHATEVER THE INPUT: true; the input reads as it did. -/
def shopBestsSpec : ChangeSpec := { name := "shopBests", fn := fun _ => fun
  | [d] => { results := [.lit (.bool true)], args := [d] }
  | _ => none }
def shopBestsRow : OpenClaim := { program := "ytbhgncfbljkdgaa", sum := "3f2df66663c67d8b50ee3d8c7f3802e7bcfa6fde5b24de612aba45eab3a2cb07", func := "forecourt/forecourtlaw11.ShopBests", spec := "shopBests", unfollowed := true, recurses := true, plainKeys := false, apart := false }
def ShopBestsSaid : Prop := shopBestsRow.holds Try.pinned (OpenSpec.ofChange shopBestsSpec)

/-- ITS FALSE NEIGHBOUR: 'it returns false'. Refute it at one input. -/
def shopBestsWrong : ChangeSpec := { name := "shopBests", fn := fun _ => fun
  | [d] => { results := [.lit (.bool false)], args := [d] }
  | _ => none }
def ShopBestsWrongFalsely : Prop := shopBestsRow.holds Try.pinned (OpenSpec.ofChange shopBestsWrong)

/-- 'forecourtlaw11.ShopPriced': WHATEVER THE INPUT: true; the input reads as it did. -/
def shopPricedSpec : ChangeSpec := { name := "shopPriced", fn := fun _ => fun
  | [d1, d2] => { results := [.lit (.bool true)], args := [d1, d2] }
  | _ => none }
def shopPricedRow : OpenClaim := { program := "ytbhgncfbljkdgaa", sum := "3f2df66663c67d8b50ee3d8c7f3802e7bcfa6fde5b24de612aba45eab3a2cb07", func := "forecourt/forecourtlaw11.ShopPriced", spec := "shopPriced", unfollowed := true, recurses := true, plainKeys := false, apart := false }
def ShopPricedSaid : Prop := shopPricedRow.holds Try.pinned (OpenSpec.ofChange shopPricedSpec)

/-- ITS FALSE NEIGHBOUR: 'it returns false'. Refute it at one input. -/
def shopPricedWrong : ChangeSpec := { name := "shopPriced", fn := fun _ => fun
  | [d1, d2] => { results := [.lit (.bool false)], args := [d1, d2] }
  | _ => none }
def ShopPricedWrongFalsely : Prop := shopPricedRow.holds Try.pinned (OpenSpec.ofChange shopPricedWrong)

/-- 'forecourtlaw11.ShopShelves': WHATEVER THE INPUT: true; the input reads as it did. -/
def shopShelvesSpec : ChangeSpec := { name := "shopShelves", fn := fun _ => fun
  | [d1, d2, d3, d4] => { results := [.lit (.bool true)], args := [d1, d2, d3, d4] }
  | _ => none }
def shopShelvesRow : OpenClaim := { program := "ytbhgncfbljkdgaa", sum := "3f2df66663c67d8b50ee3d8c7f3802e7bcfa6fde5b24de612aba45eab3a2cb07", func := "forecourt/forecourtlaw11.ShopShelves", spec := "shopShelves", unfollowed := true, recurses := true, plainKeys := false, apart := false }
def ShopShelvesSaid : Prop := shopShelvesRow.holds Try.pinned (OpenSpec.ofChange shopShelvesSpec)

/-- ITS FALSE NEIGHBOUR: 'it returns false'. Refute it at one input. -/
def shopShelvesWrong : ChangeSpec := { name := "shopShelves", fn := fun _ => fun
  | [d1, d2, d3, d4] => { results := [.lit (.bool false)], args := [d1, d2, d3, d4] }
  | _ => none }
def ShopShelvesWrongFalsely : Prop := shopShelvesRow.holds Try.pinned (OpenSpec.ofChange shopShelvesWrong)

/-- 'forecourtlaw11.ShopProved': WHATEVER THE INPUT: true; the input reads as it did. -/
def shopProvedSpec : ChangeSpec := { name := "shopProved", fn := fun _ => fun
  | [d1, d2, d3, d4] => { results := [.lit (.bool true)], args := [d1, d2, d3, d4] }
  | _ => none }
def shopProvedRow : OpenClaim := { program := "ytbhgncfbljkdgaa", sum := "3f2df66663c67d8b50ee3d8c7f3802e7bcfa6fde5b24de612aba45eab3a2cb07", func := "forecourt/forecourtlaw11.ShopProved", spec := "shopProved", unfollowed := true, recurses := true, plainKeys := false, apart := false }
def ShopProvedSaid : Prop := shopProvedRow.holds Try.pinned (OpenSpec.ofChange shopProvedSpec)

/-- ITS FALSE NEIGHBOUR: 'it returns false'. Refute it at one input. -/
def shopProvedWrong : ChangeSpec := { name := "shopProved", fn := fun _ => fun
  | [d1, d2, d3, d4] => { results := [.lit (.bool false)], args := [d1, d2, d3, d4] }
  | _ => none }
def ShopProvedWrongFalsely : Prop := shopProvedRow.holds Try.pinned (OpenSpec.ofChange shopProvedWrong)

/-- 'forecourtlaw11.ShopEither': WHATEVER THE INPUT: true; the input reads as it did. -/
def shopEitherSpec : ChangeSpec := { name := "shopEither", fn := fun _ => fun
  | [d1, d2, d3] => { results := [.lit (.bool true)], args := [d1, d2, d3] }
  | _ => none }
def shopEitherRow : OpenClaim := { program := "ytbhgncfbljkdgaa", sum := "3f2df66663c67d8b50ee3d8c7f3802e7bcfa6fde5b24de612aba45eab3a2cb07", func := "forecourt/forecourtlaw11.ShopEither", spec := "shopEither", unfollowed := true, recurses := true, plainKeys := false, apart := false }
def ShopEitherSaid : Prop := shopEitherRow.holds Try.pinned (OpenSpec.ofChange shopEitherSpec)

/-- ITS FALSE NEIGHBOUR: 'it returns false'. Refute it at one input. -/
def shopEitherWrong : ChangeSpec := { name := "shopEither", fn := fun _ => fun
  | [d1, d2, d3] => { results := [.lit (.bool false)], args := [d1, d2, d3] }
  | _ => none }
def ShopEitherWrongFalsely : Prop := shopEitherRow.holds Try.pinned (OpenSpec.ofChange shopEitherWrong)

/-- 'forecourtlaw11.ShopCertain': WHATEVER THE INPUT: true; the input reads as it did. -/
def shopCertainSpec : ChangeSpec := { name := "shopCertain", fn := fun _ => fun
  | [d1, d2, d3, d4] => { results := [.lit (.bool true)], args := [d1, d2, d3, d4] }
  | _ => none }
def shopCertainRow : OpenClaim := { program := "ytbhgncfbljkdgaa", sum := "3f2df66663c67d8b50ee3d8c7f3802e7bcfa6fde5b24de612aba45eab3a2cb07", func := "forecourt/forecourtlaw11.ShopCertain", spec := "shopCertain", unfollowed := true, recurses := true, plainKeys := false, apart := false }
def ShopCertainSaid : Prop := shopCertainRow.holds Try.pinned (OpenSpec.ofChange shopCertainSpec)

/-- ITS FALSE NEIGHBOUR: 'it returns false'. Refute it at one input. -/
def shopCertainWrong : ChangeSpec := { name := "shopCertain", fn := fun _ => fun
  | [d1, d2, d3, d4] => { results := [.lit (.bool false)], args := [d1, d2, d3, d4] }
  | _ => none }
def ShopCertainWrongFalsely : Prop := shopCertainRow.holds Try.pinned (OpenSpec.ofChange shopCertainWrong)

/-- 'forecourtlaw11.ShopMore': WHATEVER THE INPUT: true; the input reads as it did. -/
def shopMoreSpec : ChangeSpec := { name := "shopMore", fn := fun _ => fun
  | [d1, d2, d3, d4, d5] => { results := [.lit (.bool true)], args := [d1, d2, d3, d4, d5] }
  | _ => none }
def shopMoreRow : OpenClaim := { program := "ytbhgncfbljkdgaa", sum := "3f2df66663c67d8b50ee3d8c7f3802e7bcfa6fde5b24de612aba45eab3a2cb07", func := "forecourt/forecourtlaw11.ShopMore", spec := "shopMore", unfollowed := true, recurses := true, plainKeys := false, apart := false }
def ShopMoreSaid : Prop := shopMoreRow.holds Try.pinned (OpenSpec.ofChange shopMoreSpec)

/-- ITS FALSE NEIGHBOUR: 'it returns false'. Refute it at one input. -/
def shopMoreWrong : ChangeSpec := { name := "shopMore", fn := fun _ => fun
  | [d1, d2, d3, d4, d5] => { results := [.lit (.bool false)], args := [d1, d2, d3, d4, d5] }
  | _ => none }
def ShopMoreWrongFalsely : Prop := shopMoreRow.holds Try.pinned (OpenSpec.ofChange shopMoreWrong)

/-- 'forecourtlaw11.ShopTurned': WHATEVER THE INPUT: true; the input reads as it did. -/
def shopTurnedSpec : ChangeSpec := { name := "shopTurned", fn := fun _ => fun
  | [d1, d2, d3] => { results := [.lit (.bool true)], args := [d1, d2, d3] }
  | _ => none }
def shopTurnedRow : OpenClaim := { program := "ytbhgncfbljkdgaa", sum := "3f2df66663c67d8b50ee3d8c7f3802e7bcfa6fde5b24de612aba45eab3a2cb07", func := "forecourt/forecourtlaw11.ShopTurned", spec := "shopTurned", unfollowed := true, recurses := true, plainKeys := false, apart := false }
def ShopTurnedSaid : Prop := shopTurnedRow.holds Try.pinned (OpenSpec.ofChange shopTurnedSpec)

/-- ITS FALSE NEIGHBOUR: 'it returns false'. Refute it at one input. -/
def shopTurnedWrong : ChangeSpec := { name := "shopTurned", fn := fun _ => fun
  | [d1, d2, d3] => { results := [.lit (.bool false)], args := [d1, d2, d3] }
  | _ => none }
def ShopTurnedWrongFalsely : Prop := shopTurnedRow.holds Try.pinned (OpenSpec.ofChange shopTurnedWrong)

/-- 'forecourtlaw11.ShopThrown': WHATEVER THE INPUT: true; the input reads as it did. -/
def shopThrownSpec : ChangeSpec := { name := "shopThrown", fn := fun _ => fun
  | [d1, d2, d3, d4, d5] => { results := [.lit (.bool true)], args := [d1, d2, d3, d4, d5] }
  | _ => none }
def shopThrownRow : OpenClaim := { program := "ytbhgncfbljkdgaa", sum := "3f2df66663c67d8b50ee3d8c7f3802e7bcfa6fde5b24de612aba45eab3a2cb07", func := "forecourt/forecourtlaw11.ShopThrown", spec := "shopThrown", unfollowed := true, recurses := true, plainKeys := false, apart := false }
def ShopThrownSaid : Prop := shopThrownRow.holds Try.pinned (OpenSpec.ofChange shopThrownSpec)

/-- ITS FALSE NEIGHBOUR: 'it returns false'. Refute it at one input. -/
def shopThrownWrong : ChangeSpec := { name := "shopThrown", fn := fun _ => fun
  | [d1, d2, d3, d4, d5] => { results := [.lit (.bool false)], args := [d1, d2, d3, d4, d5] }
  | _ => none }
def ShopThrownWrongFalsely : Prop := shopThrownRow.holds Try.pinned (OpenSpec.ofChange shopThrownWrong)

/-- 'forecourtlaw11.ShopAge': WHATEVER THE INPUT: true; the input reads as it did. -/
def shopAgeSpec : ChangeSpec := { name := "shopAge", fn := fun _ => fun
  | [d1, d2] => { results := [.lit (.bool true)], args := [d1, d2] }
  | _ => none }
def shopAgeRow : OpenClaim := { program := "ytbhgncfbljkdgaa", sum := "3f2df66663c67d8b50ee3d8c7f3802e7bcfa6fde5b24de612aba45eab3a2cb07", func := "forecourt/forecourtlaw11.ShopAge", spec := "shopAge", unfollowed := true, recurses := true, plainKeys := false, apart := false }
def ShopAgeSaid : Prop := shopAgeRow.holds Try.pinned (OpenSpec.ofChange shopAgeSpec)

/-- ITS FALSE NEIGHBOUR: 'it returns false'. Refute it at one input. -/
def shopAgeWrong : ChangeSpec := { name := "shopAge", fn := fun _ => fun
  | [d1, d2] => { results := [.lit (.bool false)], args := [d1, d2] }
  | _ => none }
def ShopAgeWrongFalsely : Prop := shopAgeRow.holds Try.pinned (OpenSpec.ofChange shopAgeWrong)

/-- 'forecourtlaw11.ShopKnown': WHATEVER THE INPUT: true; the input reads as it did. -/
def shopKnownSpec : ChangeSpec := { name := "shopKnown", fn := fun _ => fun
  | [] => { results := [.lit (.bool true)], args := [] }
  | _ => none }
def shopKnownRow : OpenClaim := { program := "ytbhgncfbljkdgaa", sum := "3f2df66663c67d8b50ee3d8c7f3802e7bcfa6fde5b24de612aba45eab3a2cb07", func := "forecourt/forecourtlaw11.ShopKnown", spec := "shopKnown", unfollowed := true, recurses := true, plainKeys := false, apart := false }
def ShopKnownSaid : Prop := shopKnownRow.holds Try.pinned (OpenSpec.ofChange shopKnownSpec)

/-- ITS FALSE NEIGHBOUR: 'it returns false'. Refute it at one input. -/
def shopKnownWrong : ChangeSpec := { name := "shopKnown", fn := fun _ => fun
  | [] => { results := [.lit (.bool false)], args := [] }
  | _ => none }
def ShopKnownWrongFalsely : Prop := shopKnownRow.holds Try.pinned (OpenSpec.ofChange shopKnownWrong)

/- THE SECOND FORM. 'bulk': how many values and letters a reading holds, each counted each time it is reached (what is shared counts as often as it is met; a slice's spare places count too). A statement '..UptoSaid' is the law's where the arguments, and the package variables that the reading takes, are together of bulk at most 1048576: NARROWER than '..Said'. Prove '..Said' where nothing that the law and all that it calls make is longer than what came in: it says more and counts as full. Else prove '..UptoSaid'. A law counts once. -/
mutual
def uptoBulk {H : Type} : DataW H → Nat
  | .lit (.string bytes) => bytes.length + 1
  | .lit _ => 1
  | .nil => 1
  | .ptr d => uptoBulk d + 1
  | .slice elems spare => uptoBulkAll elems + uptoBulkAll spare + 1
  | .agg parts => uptoBulkAll parts + 1
  | .iface _ d => uptoBulk d + 1
  | .map entries => uptoBulkEntries entries + 1
  | .held _ => 1
def uptoBulkAll {H : Type} : List (DataW H) → Nat
  | [] => 0
  | d :: r => uptoBulk d + uptoBulkAll r
def uptoBulkEntries {H : Type} : List (Lit × DataW H) → Nat
  | [] => 0
  | x :: r => uptoBulkEntry x + uptoBulkEntries r
def uptoBulkEntry {H : Type} : Lit × DataW H → Nat
  | (.string bytes, d) => bytes.length + uptoBulk d + 1
  | (_, d) => uptoBulk d + 1
 end
def uptoSmall : (H : Type) → List (DataW H) → Bool := fun _ ds => decide (uptoBulkAll ds ≤ 1048576)
def OpenSpec.upto (s : _root_.Go.ChangeSpec) : _root_.Go.OpenSpec := { _root_.Go.OpenSpec.ofChange s with cond := some uptoSmall }

/-- 'forecourtlaw11.ShopDays', WHERE WHAT IT READS IS OF BULK AT MOST 1048576: true; the input reads as it did. -/
def shopDaysUptoRow : OpenClaim := { program := "ytbhgncfbljkdgaa", sum := "3f2df66663c67d8b50ee3d8c7f3802e7bcfa6fde5b24de612aba45eab3a2cb07", func := "forecourt/forecourtlaw11.ShopDays", spec := "shopDays", unfollowed := true, recurses := true, plainKeys := false, apart := false, narrowed := true }
def ShopDaysUptoSaid : Prop := shopDaysUptoRow.holds Try.pinned (OpenSpec.upto shopDaysSpec)

/-- 'forecourtlaw11.ShopCharges', WHERE WHAT IT READS IS OF BULK AT MOST 1048576: true; the input reads as it did. -/
def shopChargesUptoRow : OpenClaim := { program := "ytbhgncfbljkdgaa", sum := "3f2df66663c67d8b50ee3d8c7f3802e7bcfa6fde5b24de612aba45eab3a2cb07", func := "forecourt/forecourtlaw11.ShopCharges", spec := "shopCharges", unfollowed := true, recurses := true, plainKeys := false, apart := false, narrowed := true }
def ShopChargesUptoSaid : Prop := shopChargesUptoRow.holds Try.pinned (OpenSpec.upto shopChargesSpec)

/-- 'forecourtlaw11.ShopBests', WHERE WHAT IT READS IS OF BULK AT MOST 1048576: true; the input reads as it did. -/
def shopBestsUptoRow : OpenClaim := { program := "ytbhgncfbljkdgaa", sum := "3f2df66663c67d8b50ee3d8c7f3802e7bcfa6fde5b24de612aba45eab3a2cb07", func := "forecourt/forecourtlaw11.ShopBests", spec := "shopBests", unfollowed := true, recurses := true, plainKeys := false, apart := false, narrowed := true }
def ShopBestsUptoSaid : Prop := shopBestsUptoRow.holds Try.pinned (OpenSpec.upto shopBestsSpec)

/-- 'forecourtlaw11.ShopPriced', WHERE WHAT IT READS IS OF BULK AT MOST 1048576: true; the input reads as it did. -/
def shopPricedUptoRow : OpenClaim := { program := "ytbhgncfbljkdgaa", sum := "3f2df66663c67d8b50ee3d8c7f3802e7bcfa6fde5b24de612aba45eab3a2cb07", func := "forecourt/forecourtlaw11.ShopPriced", spec := "shopPriced", unfollowed := true, recurses := true, plainKeys := false, apart := false, narrowed := true }
def ShopPricedUptoSaid : Prop := shopPricedUptoRow.holds Try.pinned (OpenSpec.upto shopPricedSpec)

/-- 'forecourtlaw11.ShopShelves', WHERE WHAT IT READS IS OF BULK AT MOST 1048576: true; the input reads as it did. -/
def shopShelvesUptoRow : OpenClaim := { program := "ytbhgncfbljkdgaa", sum := "3f2df66663c67d8b50ee3d8c7f3802e7bcfa6fde5b24de612aba45eab3a2cb07", func := "forecourt/forecourtlaw11.ShopShelves", spec := "shopShelves", unfollowed := true, recurses := true, plainKeys := false, apart := false, narrowed := true }
def ShopShelvesUptoSaid : Prop := shopShelvesUptoRow.holds Try.pinned (OpenSpec.upto shopShelvesSpec)

/-- 'forecourtlaw11.ShopProved', WHERE WHAT IT READS IS OF BULK AT MOST 1048576: true; the input reads as it did. -/
def shopProvedUptoRow : OpenClaim := { program := "ytbhgncfbljkdgaa", sum := "3f2df66663c67d8b50ee3d8c7f3802e7bcfa6fde5b24de612aba45eab3a2cb07", func := "forecourt/forecourtlaw11.ShopProved", spec := "shopProved", unfollowed := true, recurses := true, plainKeys := false, apart := false, narrowed := true }
def ShopProvedUptoSaid : Prop := shopProvedUptoRow.holds Try.pinned (OpenSpec.upto shopProvedSpec)

/-- 'forecourtlaw11.ShopEither', WHERE WHAT IT READS IS OF BULK AT MOST 1048576: true; the input reads as it did. -/
def shopEitherUptoRow : OpenClaim := { program := "ytbhgncfbljkdgaa", sum := "3f2df66663c67d8b50ee3d8c7f3802e7bcfa6fde5b24de612aba45eab3a2cb07", func := "forecourt/forecourtlaw11.ShopEither", spec := "shopEither", unfollowed := true, recurses := true, plainKeys := false, apart := false, narrowed := true }
def ShopEitherUptoSaid : Prop := shopEitherUptoRow.holds Try.pinned (OpenSpec.upto shopEitherSpec)

/-- 'forecourtlaw11.ShopCertain', WHERE WHAT IT READS IS OF BULK AT MOST 1048576: true; the input reads as it did. -/
def shopCertainUptoRow : OpenClaim := { program := "ytbhgncfbljkdgaa", sum := "3f2df66663c67d8b50ee3d8c7f3802e7bcfa6fde5b24de612aba45eab3a2cb07", func := "forecourt/forecourtlaw11.ShopCertain", spec := "shopCertain", unfollowed := true, recurses := true, plainKeys := false, apart := false, narrowed := true }
def ShopCertainUptoSaid : Prop := shopCertainUptoRow.holds Try.pinned (OpenSpec.upto shopCertainSpec)

/-- 'forecourtlaw11.ShopMore', WHERE WHAT IT READS IS OF BULK AT MOST 1048576: true; the input reads as it did. -/
def shopMoreUptoRow : OpenClaim := { program := "ytbhgncfbljkdgaa", sum := "3f2df66663c67d8b50ee3d8c7f3802e7bcfa6fde5b24de612aba45eab3a2cb07", func := "forecourt/forecourtlaw11.ShopMore", spec := "shopMore", unfollowed := true, recurses := true, plainKeys := false, apart := false, narrowed := true }
def ShopMoreUptoSaid : Prop := shopMoreUptoRow.holds Try.pinned (OpenSpec.upto shopMoreSpec)

/-- 'forecourtlaw11.ShopTurned', WHERE WHAT IT READS IS OF BULK AT MOST 1048576: true; the input reads as it did. -/
def shopTurnedUptoRow : OpenClaim := { program := "ytbhgncfbljkdgaa", sum := "3f2df66663c67d8b50ee3d8c7f3802e7bcfa6fde5b24de612aba45eab3a2cb07", func := "forecourt/forecourtlaw11.ShopTurned", spec := "shopTurned", unfollowed := true, recurses := true, plainKeys := false, apart := false, narrowed := true }
def ShopTurnedUptoSaid : Prop := shopTurnedUptoRow.holds Try.pinned (OpenSpec.upto shopTurnedSpec)

/-- 'forecourtlaw11.ShopThrown', WHERE WHAT IT READS IS OF BULK AT MOST 1048576: true; the input reads as it did. -/
def shopThrownUptoRow : OpenClaim := { program := "ytbhgncfbljkdgaa", sum := "3f2df66663c67d8b50ee3d8c7f3802e7bcfa6fde5b24de612aba45eab3a2cb07", func := "forecourt/forecourtlaw11.ShopThrown", spec := "shopThrown", unfollowed := true, recurses := true, plainKeys := false, apart := false, narrowed := true }
def ShopThrownUptoSaid : Prop := shopThrownUptoRow.holds Try.pinned (OpenSpec.upto shopThrownSpec)

/-- 'forecourtlaw11.ShopAge', WHERE WHAT IT READS IS OF BULK AT MOST 1048576: true; the input reads as it did. -/
def shopAgeUptoRow : OpenClaim := { program := "ytbhgncfbljkdgaa", sum := "3f2df66663c67d8b50ee3d8c7f3802e7bcfa6fde5b24de612aba45eab3a2cb07", func := "forecourt/forecourtlaw11.ShopAge", spec := "shopAge", unfollowed := true, recurses := true, plainKeys := false, apart := false, narrowed := true }
def ShopAgeUptoSaid : Prop := shopAgeUptoRow.holds Try.pinned (OpenSpec.upto shopAgeSpec)

/-- 'forecourtlaw11.ShopKnown', WHERE WHAT IT READS IS OF BULK AT MOST 1048576: true; the input reads as it did. -/
def shopKnownUptoRow : OpenClaim := { program := "ytbhgncfbljkdgaa", sum := "3f2df66663c67d8b50ee3d8c7f3802e7bcfa6fde5b24de612aba45eab3a2cb07", func := "forecourt/forecourtlaw11.ShopKnown", spec := "shopKnown", unfollowed := true, recurses := true, plainKeys := false, apart := false, narrowed := true }
def ShopKnownUptoSaid : Prop := shopKnownUptoRow.holds Try.pinned (OpenSpec.upto shopKnownSpec)

end Rows
end Go.Proofs.Ytbhgncfbljkdgaa
