/-
  The abstract code of the functions that the laws reach, part 3. Printed by a program (Emit.lean).
-/
import Derived.Test.YtpomalofnpagbaaA1
namespace Go.Proofs.Ytpomalofnpagbaa.Fn
open Go Go.Proofs.Ytpomalofnpagbaa.AI

/-- (*forecourt/pole.book).steps$1 -/
def f90 : AFunc := ⟨5, [],
  (.seq (.region [⟨(some 9), .load none (.tmp 1), none, .seq, [], []⟩,
    ⟨(some 10), .nilCheck (.tmp 9), none, .seq, [], []⟩,
    ⟨(some 11), .fieldAddr 2 (.tmp 10), none, .seq, [], []⟩,
    ⟨(some 12), .load none (.tmp 11), none, .seq, [], []⟩,
    ⟨(some 13), .len .sl (.tmp 12), none, .seq, [], []⟩,
    ⟨(some 14), .move (.const (.int .i64 0)), none, .seq, [], []⟩])
  (.block 0
   (.loop
    (.keep [0, 2, 3, 4, 12, 13, 14]
     (.seq (.region [⟨(some 15), .bin .lss (.tmp 14) (.tmp 13), none, .seq, [], []⟩])
     (.seq (.cond (.tmp 15)
       .skip
       (.exit 0))
     (.seq (.block 1
       (.seq (.region [⟨(some 16), .move (.tmp 14), none, .seq, [], []⟩,
         ⟨(some 17), .indexAddr none 3 (.tmp 12) (.tmp 14), none, .seq, [], []⟩,
         ⟨(some 18), .load (some 3) (.tmp 17), none, .seq, [], []⟩,
         ⟨(some 7), .alloc [(.int .i64 0), (.int .i64 0), (.int .i64 0)], none, .seq, [], []⟩,
         ⟨(some 6), .move (.tmp 16), none, .seq, [], []⟩,
         ⟨none, .store 3 (.tmp 7) (.tmp 18), none, .seq, [], []⟩])
       (.seq (.region [⟨(some 19), .move (.tmp 6), none, .seq, [], []⟩,
         ⟨(some 20), .fieldAddr 0 (.tmp 7), none, .seq, [], []⟩,
         ⟨(some 21), .load none (.tmp 20), none, .seq, [], []⟩,
         ⟨(some 22), .fieldAddr 1 (.tmp 7), none, .seq, [], []⟩,
         ⟨(some 23), .load none (.tmp 22), none, .seq, [], []⟩,
         ⟨(some 24), .build [(.int .i64 0), (.int .i64 0), (.int .i64 0)] (.list [(0, 1), (1, 1), (2, 1)]) [(0, (.tmp 19)), (1, (.tmp 21)), (2, (.tmp 23))], none, .seq, [], []⟩,
         ⟨(some 8), .alloc [(.int .i64 0), (.int .i64 0), (.int .i64 0)], none, .seq, [], []⟩,
         ⟨none, .store 3 (.tmp 8) (.tmp 24), none, .seq, [], []⟩])
       (.seq (.seq (.region [⟨(some 25), .fieldAddr 1 (.tmp 7), none, .seq, [], []⟩,
          ⟨(some 26), .load none (.tmp 25), none, .seq, [], []⟩,
          ⟨(some 27), .load none (.tmp 2), none, .seq, [], []⟩,
          ⟨(some 28), .bin .eql (.tmp 26) (.tmp 27), none, .seq, [], []⟩])
        (.cond (.tmp 28)
         (.region [⟨(some 29), .move (.tmp 6), none, .seq, [], []⟩,
          ⟨(some 30), .fieldAddr 1 (.tmp 7), none, .seq, [], []⟩,
          ⟨(some 31), .load none (.tmp 30), none, .seq, [], []⟩,
          ⟨(some 32), .fieldAddr 0 (.tmp 7), none, .seq, [], []⟩,
          ⟨(some 33), .load none (.tmp 32), none, .seq, [], []⟩,
          ⟨(some 34), .build [(.int .i64 0), (.int .i64 0), (.int .i64 0)] (.list [(0, 1), (1, 1), (2, 1)]) [(0, (.tmp 29)), (1, (.tmp 31)), (2, (.tmp 33))], none, .seq, [], []⟩,
          ⟨none, .store 3 (.tmp 8) (.tmp 34), none, .seq, [], []⟩])
         .skip))
       (.seq (.region [⟨(some 35), .move (.tmp 6), none, .seq, [], []⟩,
         ⟨(some 36), .load none (.tmp 3), none, .seq, [], []⟩,
         ⟨(some 37), .bin .neq (.tmp 35) (.tmp 36), none, .seq, [], []⟩,
         ⟨(some 38), .move (.tmp 37), none, .seq, [], []⟩,
         ⟨(some 39), .fieldAddr 1 (.tmp 8), some (38, true), .seq, [], []⟩,
         ⟨(some 40), .load none (.tmp 39), some (38, true), .seq, [], []⟩,
         ⟨(some 41), .load none (.tmp 2), some (38, true), .seq, [], []⟩,
         ⟨(some 42), .bin .eql (.tmp 40) (.tmp 41), some (38, true), .seq, [], []⟩,
         ⟨(some 43), .pick (.tmp 38) (.tmp 42) (.const (.bool false)), none, .seq, [], []⟩,
         ⟨(some 44), .move (.tmp 43), none, .seq, [], []⟩,
         ⟨(some 45), .load none (.tmp 4), some (44, true), .seq, [], []⟩,
         ⟨(some 46), .move (.tmp 6), some (44, true), .seq, [], []⟩,
         ⟨(some 47), .callv (.tmp 45) [(.tmp 46)], some (44, true), .seq, [], []⟩,
         ⟨(some 48), .pick (.tmp 44) (.tmp 47) (.const (.bool false)), none, .seq, [], []⟩,
         ⟨(some 49), .move (.tmp 48), none, .seq, [], []⟩,
         ⟨(some 50), .move (.tmp 0), some (49, true), .seq, [], []⟩,
         ⟨(some 51), .load (some 3) (.tmp 8), some (49, true), .seq, [], []⟩,
         ⟨(some 52), .callv (.tmp 50) [(.tmp 51)], some (49, true), .seq, [], []⟩,
         ⟨(some 53), .un .not (.tmp 52), some (49, true), .seq, [], []⟩,
         ⟨(some 54), .pick (.tmp 49) (.tmp 53) (.const (.bool false)), none, .seq, [], []⟩])
       (.cond (.tmp 54)
        .ret
        .skip))))))
     (.region [⟨(some 55), .bin .add (.tmp 14) (.const (.int .i64 1)), none, .seq, [], []⟩,
      ⟨(some 14), .move (.tmp 55), none, .seq, [], []⟩]))))))))⟩

/-- slices.order2Ordered[int64] -/
def f91 : AFunc := ⟨4, [.tmp 8, .tmp 9],
  (.seq (.region [⟨(some 8), .move (.const (.int .i64 0)), none, .seq, [], []⟩,
    ⟨(some 9), .move (.const (.int .i64 0)), none, .seq, [], []⟩])
  (.seq (.seq (.region [⟨(some 10), .move (.tmp 0), none, .still, [], []⟩,
     ⟨(some 11), .move (.tmp 2), none, .still, [], []⟩,
     ⟨(some 12), .indexAddr none 1 (.tmp 10) (.tmp 11), none, .still, [], []⟩,
     ⟨(some 13), .load none (.tmp 12), none, .rd, [], []⟩,
     ⟨(some 14), .move (.tmp 0), none, .still, [], []⟩,
     ⟨(some 15), .move (.tmp 1), none, .still, [], []⟩,
     ⟨(some 16), .indexAddr none 1 (.tmp 14) (.tmp 15), none, .still, [], []⟩,
     ⟨(some 17), .load none (.tmp 16), none, .rd, [], []⟩,
     ⟨(some 18), .call 78 [(.tmp 13), (.tmp 17)], none, .seq, [], []⟩])
   (.cond (.tmp 18)
    (.seq (.region [⟨(some 19), .move (.tmp 3), none, .seq, [], []⟩,
      ⟨(some 20), .nilCheck (.tmp 19), none, .seq, [], []⟩,
      ⟨(some 21), .load none (.tmp 20), none, .seq, [], []⟩,
      ⟨(some 22), .bin .add (.tmp 21) (.const (.int .i64 1)), none, .seq, [], []⟩,
      ⟨(some 23), .nilCheck (.tmp 19), none, .seq, [], []⟩,
      ⟨none, .store 1 (.tmp 23) (.tmp 22), none, .seq, [], []⟩])
    (.seq (.region [⟨(some 24), .move (.tmp 2), none, .seq, [], []⟩,
      ⟨(some 25), .move (.tmp 1), none, .seq, [], []⟩,
      ⟨(some 8), .move (.tmp 24), none, .seq, [], []⟩,
      ⟨(some 9), .move (.tmp 25), none, .seq, [], []⟩])
    .ret))
    .skip))
  (.seq (.region [⟨(some 26), .move (.tmp 1), none, .seq, [], []⟩,
    ⟨(some 27), .move (.tmp 2), none, .seq, [], []⟩,
    ⟨(some 8), .move (.tmp 26), none, .seq, [], []⟩,
    ⟨(some 9), .move (.tmp 27), none, .seq, [], []⟩])
  .ret)))⟩

end Go.Proofs.Ytpomalofnpagbaa.Fn
