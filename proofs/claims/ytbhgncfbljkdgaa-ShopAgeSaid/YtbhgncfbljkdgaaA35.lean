/-
  Arguments read again behind a run that changes nothing.
-/
import Derived.Test.YtbhgncfbljkdgaaA34
import Derived.Test.YtbhgncfbljkdgaaA29
import Derived.ReadAgain
import Derived.ChangeOld
namespace Go.Proofs.Ytbhgncfbljkdgaa.AI
open Go

theorem Stays.same {w w' : World} (h : Stays w w') {p : MemPlace} (hp : p.block < w.heap.size) : w.sameAt w' p := by
  obtain ⟨_, _, _, _, h5⟩ := h
  cases p with
  | cell b off => exact World.cell?_of_block (w := w) (a := ⟨b, off, none⟩) (h5 b hp)
  | map b => exact h5 b hp

theorem trodAll_stays {H : Type} {enc : TypeId × Value → H} {P : Program} {w w' : World} (hk : Stays w w') {base : Nat} {spare : Nat → Bool} {held : Bool} : ∀ {ts : List TypeId} {vs : List Value} {ds : List (DataW H)} {ps : List MemPlace},
    DataW.TrodAll enc P w base spare held ts vs ds ps → DataW.TrodAll enc P w' base spare held ts vs ds ps
  | [], [], [], _, h => h
  | t :: ts, v :: vs, d :: ds, ps, ⟨p, q, ⟨n, h1⟩, h2, e⟩ =>
    ⟨p, q, ⟨n, DataW.trod_carry n t _ (d, p) h1 fun x hx => hk.same (DataW.trod_lt n t _ _ h1 x hx)⟩, trodAll_stays hk h2, e⟩

theorem args_again {H : Type} {enc : TypeId × Value → H} {P : Program} (hl : laidOutB P = true) (hm : mapsRowed P = true)
    (hz : ((List.range P.types.size).all fun t => match P.underlying t with | some (.slice e) => decide (0 < P.cellsOf e) | _ => true) = true)
    {w w' : World} (hk : Stays w w') {ts : List TypeId} {vs : List Value} {ds : List (DataW H)} {ps : List MemPlace} (hts : (ts.all fun t => decide (t < P.types.size)) = true)
    (h : DataW.TrodAll enc P w 0 (fun _ => true) true ts vs ds ps) (sp : Nat → Bool) (hs : ∀ p ∈ ps, sp p.block = true) : DataW.TrodAll enc P w' 0 sp true ts vs ds ps :=
  (trodAll_stays hk h).respare (kids_rows hl hm) (slices_full_of P hz) (fun t ht => by simpa using List.all_eq_true.1 hts t ht) hs

end Go.Proofs.Ytbhgncfbljkdgaa.AI
