/-
  The abstract code of the functions that the laws reach, part 1. Printed by a program (Emit.lean).
-/
import Derived.Test.YtpomalofnpagbaaA1
namespace Go.Proofs.Ytpomalofnpagbaa.Fn
open Go Go.Proofs.Ytpomalofnpagbaa.AI

/-- forecourt/forecourtref09.CheckRounding -/
def f24 : AFunc := ⟨2, [.tmp 4],
  (.seq (.region [⟨(some 2), .box (.tmp 0), none, .seq, [], []⟩,
    ⟨(some 4), .move (.const (.int .i64 0)), none, .seq, [], []⟩])
  (.seq (.seq (.region [⟨(some 10), .load (some 2) (.tmp 2), none, .seq, [], []⟩,
     ⟨(some 11), .call 20 [(.tmp 10)], none, .seq, [], []⟩,
     ⟨(some 12), .bin .neq (.tmp 11) (.const (.int .i64 0)), none, .seq, [], []⟩])
   (.cond (.tmp 12)
    (.seq (.region [⟨(some 13), .load (some 2) (.tmp 2), none, .seq, [], []⟩,
      ⟨(some 14), .call 20 [(.tmp 13)], none, .seq, [], []⟩,
      ⟨(some 4), .move (.tmp 14), none, .seq, [], []⟩])
    .ret)
    .skip))
  (.seq (.seq (.region [⟨(some 15), .load (some 2) (.tmp 2), none, .seq, [], []⟩,
     ⟨(some 16), .move (.tmp 1), none, .seq, [], []⟩,
     ⟨(some 17), .call 45 [(.tmp 15), (.tmp 16)], none, .seq, [], []⟩,
     ⟨(some 18), .un .not (.tmp 17), none, .seq, [], []⟩])
   (.cond (.tmp 18)
    (.seq (.region [⟨(some 4), .move (.const (.int .i64 15)), none, .seq, [], []⟩])
    .ret)
    .skip))
  (.seq (.seq (.region [⟨(some 5), .move (.const (.int .i64 0)), none, .seq, [], []⟩])
   (.block 0
    (.loop
     (.keep [1, 2, 5]
      (.seq (.seq (.region [⟨(some 19), .move (.tmp 5), none, .seq, [], []⟩,
         ⟨(some 20), .move (.tmp 1), none, .seq, [], []⟩,
         ⟨(some 21), .len .sl (.tmp 20), none, .seq, [], []⟩,
         ⟨(some 22), .bin .lss (.tmp 19) (.tmp 21), none, .seq, [], []⟩])
       (.cond (.tmp 22)
        .skip
        (.exit 0)))
      (.seq (.block 1
        (.seq (.region [⟨(some 6), .move (.const (.int .i64 0)), none, .seq, [], []⟩])
        (.block 2
         (.loop
          (.keep [1, 2, 5, 6]
           (.seq (.seq (.region [⟨(some 25), .move (.tmp 6), none, .seq, [], []⟩,
              ⟨(some 26), .move (.tmp 1), none, .seq, [], []⟩,
              ⟨(some 27), .move (.tmp 5), none, .seq, [], []⟩,
              ⟨(some 28), .indexAddr none 1 (.tmp 26) (.tmp 27), none, .seq, [], []⟩,
              ⟨(some 29), .load none (.tmp 28), none, .seq, [], []⟩,
              ⟨(some 30), .len .sl (.tmp 29), none, .seq, [], []⟩,
              ⟨(some 31), .bin .lss (.tmp 25) (.tmp 30), none, .seq, [], []⟩])
            (.cond (.tmp 31)
             .skip
             (.exit 2)))
           (.seq (.block 3
             (.seq (.region [⟨(some 34), .move (.tmp 1), none, .seq, [], []⟩,
               ⟨(some 35), .move (.tmp 5), none, .seq, [], []⟩,
               ⟨(some 36), .indexAddr none 1 (.tmp 34) (.tmp 35), none, .seq, [], []⟩,
               ⟨(some 37), .load none (.tmp 36), none, .seq, [], []⟩,
               ⟨(some 38), .move (.tmp 6), none, .seq, [], []⟩,
               ⟨(some 39), .indexAddr none 1 (.tmp 37) (.tmp 38), none, .seq, [], []⟩,
               ⟨(some 40), .load none (.tmp 39), none, .seq, [], []⟩,
               ⟨(some 41), .bin .lss (.tmp 40) (.const (.int .i64 0)), none, .seq, [], []⟩,
               ⟨(some 42), .move (.tmp 41), none, .seq, [], []⟩,
               ⟨(some 43), .move (.tmp 1), some (42, false), .seq, [], []⟩,
               ⟨(some 44), .move (.tmp 5), some (42, false), .seq, [], []⟩,
               ⟨(some 45), .indexAddr none 1 (.tmp 43) (.tmp 44), some (42, false), .seq, [], []⟩,
               ⟨(some 46), .load none (.tmp 45), some (42, false), .seq, [], []⟩,
               ⟨(some 47), .move (.tmp 6), some (42, false), .seq, [], []⟩,
               ⟨(some 48), .indexAddr none 1 (.tmp 46) (.tmp 47), some (42, false), .seq, [], []⟩,
               ⟨(some 49), .load none (.tmp 48), some (42, false), .seq, [], []⟩,
               ⟨(some 50), .bin .gtr (.tmp 49) (.const (.int .i64 36000000)), some (42, false), .seq, [], []⟩,
               ⟨(some 51), .pick (.tmp 42) (.const (.bool true)) (.tmp 50), none, .seq, [], []⟩])
             (.cond (.tmp 51)
              (.seq (.region [⟨(some 4), .move (.const (.int .i64 16)), none, .seq, [], []⟩])
              .ret)
              .skip)))
           (.region [⟨(some 32), .move (.tmp 6), none, .seq, [], []⟩,
            ⟨(some 33), .bin .add (.tmp 32) (.const (.int .i64 1)), none, .seq, [], []⟩,
            ⟨(some 6), .move (.tmp 33), none, .seq, [], []⟩]))))))))
      (.region [⟨(some 23), .move (.tmp 5), none, .seq, [], []⟩,
       ⟨(some 24), .bin .add (.tmp 23) (.const (.int .i64 1)), none, .seq, [], []⟩,
       ⟨(some 5), .move (.tmp 24), none, .seq, [], []⟩])))))))
  (.seq (.region [⟨(some 52), .fieldAddr 1 (.tmp 2), none, .seq, [], []⟩,
    ⟨(some 53), .load none (.tmp 52), none, .seq, [], []⟩,
    ⟨(some 54), .call 22 [(.tmp 53)], none, .seq, [], []⟩,
    ⟨(some 55), .move (.tmp 1), none, .seq, [], []⟩,
    ⟨(some 56), .call 22 [(.tmp 55)], none, .seq, [], []⟩,
    ⟨(some 7), .move (.tmp 54), none, .seq, [], []⟩,
    ⟨(some 8), .move (.tmp 56), none, .seq, [], []⟩])
  (.seq (.seq (.region [⟨(some 9), .move (.const (.int .i64 0)), none, .seq, [], []⟩])
   (.block 4
    (.loop
     (.keep [2, 7, 8, 9]
      (.seq (.seq (.region [⟨(some 57), .move (.tmp 9), none, .seq, [], []⟩,
         ⟨(some 58), .move (.tmp 7), none, .seq, [], []⟩,
         ⟨(some 59), .len .sl (.tmp 58), none, .seq, [], []⟩,
         ⟨(some 60), .bin .lss (.tmp 57) (.tmp 59), none, .seq, [], []⟩])
       (.cond (.tmp 60)
        .skip
        (.exit 4)))
      (.seq (.block 5
        (.seq (.region [⟨(some 63), .move (.tmp 8), none, .still, [], []⟩,
          ⟨(some 64), .move (.tmp 9), none, .still, [], []⟩,
          ⟨(some 65), .indexAddr none 1 (.tmp 63) (.tmp 64), none, .still, [], []⟩,
          ⟨(some 66), .load none (.tmp 65), none, .rd, [], []⟩,
          ⟨(some 67), .move (.tmp 7), none, .still, [], []⟩,
          ⟨(some 68), .move (.tmp 9), none, .still, [], []⟩,
          ⟨(some 69), .indexAddr none 1 (.tmp 67) (.tmp 68), none, .still, [], []⟩,
          ⟨(some 70), .load none (.tmp 69), none, .rd, [], []⟩,
          ⟨(some 71), .fieldAddr 0 (.tmp 2), none, .still, [], []⟩,
          ⟨(some 72), .load none (.tmp 71), none, .rd, [], []⟩,
          ⟨(some 73), .bin .quo (.tmp 70) (.tmp 72), none, .still, [], []⟩,
          ⟨(some 74), .bin .neq (.tmp 66) (.tmp 73), none, .still, [], []⟩,
          ⟨(some 75), .move (.tmp 74), none, .still, [], []⟩,
          ⟨(some 76), .move (.tmp 8), some (75, true), .still, [], []⟩,
          ⟨(some 77), .move (.tmp 9), some (75, true), .still, [], []⟩,
          ⟨(some 78), .indexAddr none 1 (.tmp 76) (.tmp 77), some (75, true), .still, [], []⟩,
          ⟨(some 79), .load none (.tmp 78), some (75, true), .rd, [], []⟩,
          ⟨(some 80), .move (.tmp 7), some (75, true), .still, [], []⟩,
          ⟨(some 81), .move (.tmp 9), some (75, true), .still, [], []⟩,
          ⟨(some 82), .indexAddr none 1 (.tmp 80) (.tmp 81), some (75, true), .still, [], []⟩,
          ⟨(some 83), .load none (.tmp 82), some (75, true), .rd, [], []⟩,
          ⟨(some 84), .fieldAddr 0 (.tmp 2), some (75, true), .still, [], []⟩,
          ⟨(some 85), .load none (.tmp 84), some (75, true), .rd, [], []⟩,
          ⟨(some 86), .bin .add (.tmp 83) (.tmp 85), some (75, true), .still, [], []⟩,
          ⟨(some 87), .bin .sub (.tmp 86) (.const (.int .i64 1)), some (75, true), .still, [], []⟩,
          ⟨(some 88), .fieldAddr 0 (.tmp 2), some (75, true), .still, [], []⟩,
          ⟨(some 89), .load none (.tmp 88), some (75, true), .rd, [], []⟩,
          ⟨(some 90), .bin .quo (.tmp 87) (.tmp 89), some (75, true), .still, [], []⟩,
          ⟨(some 91), .bin .neq (.tmp 79) (.tmp 90), some (75, true), .still, [], []⟩,
          ⟨(some 92), .pick (.tmp 75) (.tmp 91) (.const (.bool false)), none, .still, [], []⟩])
        (.cond (.tmp 92)
         (.seq (.region [⟨(some 4), .move (.const (.int .i64 16)), none, .seq, [], []⟩])
         .ret)
         .skip)))
      (.region [⟨(some 61), .move (.tmp 9), none, .seq, [], []⟩,
       ⟨(some 62), .bin .add (.tmp 61) (.const (.int .i64 1)), none, .seq, [], []⟩,
       ⟨(some 9), .move (.tmp 62), none, .seq, [], []⟩])))))))
  (.seq (.region [⟨(some 4), .move (.const (.int .i64 0)), none, .seq, [], []⟩])
  .ret)))))))⟩

/-- forecourt/forecourtlaw09.same -/
def f25 : AFunc := ⟨2, [.tmp 4],
  (.seq (.region [⟨(some 4), .move (.const (.bool false)), none, .seq, [], []⟩])
  (.seq (.seq (.region [⟨(some 7), .move (.tmp 0), none, .seq, [], []⟩,
     ⟨(some 8), .len .sl (.tmp 7), none, .seq, [], []⟩,
     ⟨(some 9), .move (.tmp 1), none, .seq, [], []⟩,
     ⟨(some 10), .len .sl (.tmp 9), none, .seq, [], []⟩,
     ⟨(some 11), .bin .neq (.tmp 8) (.tmp 10), none, .seq, [], []⟩])
   (.cond (.tmp 11)
    (.seq (.region [⟨(some 4), .move (.const (.bool false)), none, .seq, [], []⟩])
    .ret)
    .skip))
  (.seq (.seq (.region [⟨(some 5), .move (.const (.int .i64 0)), none, .seq, [], []⟩])
   (.block 0
    (.loop
     (.keep [0, 1, 5]
      (.seq (.seq (.region [⟨(some 12), .move (.tmp 5), none, .seq, [], []⟩,
         ⟨(some 13), .move (.tmp 0), none, .seq, [], []⟩,
         ⟨(some 14), .len .sl (.tmp 13), none, .seq, [], []⟩,
         ⟨(some 15), .bin .lss (.tmp 12) (.tmp 14), none, .seq, [], []⟩])
       (.cond (.tmp 15)
        .skip
        (.exit 0)))
      (.seq (.block 1
        (.seq (.seq (.region [⟨(some 18), .move (.tmp 0), none, .still, [], []⟩,
           ⟨(some 19), .move (.tmp 5), none, .still, [], []⟩,
           ⟨(some 20), .indexAddr none 1 (.tmp 18) (.tmp 19), none, .still, [], []⟩,
           ⟨(some 21), .load none (.tmp 20), none, .rd, [], []⟩,
           ⟨(some 22), .len .sl (.tmp 21), none, .still, [], []⟩,
           ⟨(some 23), .move (.tmp 1), none, .still, [], []⟩,
           ⟨(some 24), .move (.tmp 5), none, .still, [], []⟩,
           ⟨(some 25), .indexAddr none 1 (.tmp 23) (.tmp 24), none, .still, [], []⟩,
           ⟨(some 26), .load none (.tmp 25), none, .rd, [], []⟩,
           ⟨(some 27), .len .sl (.tmp 26), none, .still, [], []⟩,
           ⟨(some 28), .bin .neq (.tmp 22) (.tmp 27), none, .still, [], []⟩])
         (.cond (.tmp 28)
          (.seq (.region [⟨(some 4), .move (.const (.bool false)), none, .seq, [], []⟩])
          .ret)
          .skip))
        (.seq (.region [⟨(some 6), .move (.const (.int .i64 0)), none, .seq, [], []⟩])
        (.block 2
         (.loop
          (.keep [0, 1, 5, 6]
           (.seq (.seq (.region [⟨(some 29), .move (.tmp 6), none, .seq, [], []⟩,
              ⟨(some 30), .move (.tmp 0), none, .seq, [], []⟩,
              ⟨(some 31), .move (.tmp 5), none, .seq, [], []⟩,
              ⟨(some 32), .indexAddr none 1 (.tmp 30) (.tmp 31), none, .seq, [], []⟩,
              ⟨(some 33), .load none (.tmp 32), none, .seq, [], []⟩,
              ⟨(some 34), .len .sl (.tmp 33), none, .seq, [], []⟩,
              ⟨(some 35), .bin .lss (.tmp 29) (.tmp 34), none, .seq, [], []⟩])
            (.cond (.tmp 35)
             .skip
             (.exit 2)))
           (.seq (.block 3
             (.seq (.region [⟨(some 38), .move (.tmp 0), none, .still, [], []⟩,
               ⟨(some 39), .move (.tmp 5), none, .still, [], []⟩,
               ⟨(some 40), .indexAddr none 1 (.tmp 38) (.tmp 39), none, .still, [], []⟩,
               ⟨(some 41), .load none (.tmp 40), none, .rd, [], []⟩,
               ⟨(some 42), .move (.tmp 6), none, .still, [], []⟩,
               ⟨(some 43), .indexAddr none 1 (.tmp 41) (.tmp 42), none, .still, [], []⟩,
               ⟨(some 44), .load none (.tmp 43), none, .rd, [], []⟩,
               ⟨(some 45), .move (.tmp 1), none, .still, [], []⟩,
               ⟨(some 46), .move (.tmp 5), none, .still, [], []⟩,
               ⟨(some 47), .indexAddr none 1 (.tmp 45) (.tmp 46), none, .still, [], []⟩,
               ⟨(some 48), .load none (.tmp 47), none, .rd, [], []⟩,
               ⟨(some 49), .move (.tmp 6), none, .still, [], []⟩,
               ⟨(some 50), .indexAddr none 1 (.tmp 48) (.tmp 49), none, .still, [], []⟩,
               ⟨(some 51), .load none (.tmp 50), none, .rd, [], []⟩,
               ⟨(some 52), .bin .neq (.tmp 44) (.tmp 51), none, .still, [], []⟩])
             (.cond (.tmp 52)
              (.seq (.region [⟨(some 4), .move (.const (.bool false)), none, .seq, [], []⟩])
              .ret)
              .skip)))
           (.region [⟨(some 36), .move (.tmp 6), none, .seq, [], []⟩,
            ⟨(some 37), .bin .add (.tmp 36) (.const (.int .i64 1)), none, .seq, [], []⟩,
            ⟨(some 6), .move (.tmp 37), none, .seq, [], []⟩])))))))))
      (.region [⟨(some 16), .move (.tmp 5), none, .seq, [], []⟩,
       ⟨(some 17), .bin .add (.tmp 16) (.const (.int .i64 1)), none, .seq, [], []⟩,
       ⟨(some 5), .move (.tmp 17), none, .seq, [], []⟩])))))))
  (.seq (.region [⟨(some 4), .move (.const (.bool true)), none, .seq, [], []⟩])
  .ret))))⟩

/-- forecourt/pole.CheckSign -/
def f26 : AFunc := ⟨1, [.tmp 2],
  (.seq (.region [⟨(some 2), .move (.const (.int .i64 0)), none, .seq, [], []⟩])
  (.seq (.seq (.region [⟨(some 6), .move (.tmp 0), none, .seq, [], []⟩,
     ⟨(some 7), .len .sl (.tmp 6), none, .seq, [], []⟩,
     ⟨(some 8), .bin .eql (.tmp 7) (.const (.int .i64 0)), none, .seq, [], []⟩,
     ⟨(some 9), .move (.tmp 8), none, .seq, [], []⟩,
     ⟨(some 10), .move (.tmp 0), some (9, false), .seq, [], []⟩,
     ⟨(some 11), .len .sl (.tmp 10), some (9, false), .seq, [], []⟩,
     ⟨(some 12), .bin .gtr (.tmp 11) (.const (.int .i64 30)), some (9, false), .seq, [], []⟩,
     ⟨(some 13), .pick (.tmp 9) (.const (.bool true)) (.tmp 12), none, .seq, [], []⟩])
   (.cond (.tmp 13)
    (.seq (.region [⟨(some 2), .move (.const (.int .i64 6)), none, .seq, [], []⟩])
    .ret)
    .skip))
  (.seq (.region [⟨(some 3), .move (.const (.int .i64 0)), none, .seq, [], []⟩])
  (.seq (.seq (.region [⟨(some 14), .move (.tmp 0), none, .seq, [], []⟩,
     ⟨(some 15), .len .sl (.tmp 14), none, .seq, [], []⟩,
     ⟨(some 16), .move (.const (.int .i64 0)), none, .seq, [], []⟩])
   (.block 0
    (.loop
     (.keep [0, 3, 14, 15, 16]
      (.seq (.region [⟨(some 17), .bin .lss (.tmp 16) (.tmp 15), none, .seq, [], []⟩])
      (.seq (.cond (.tmp 17)
        .skip
        (.exit 0))
      (.seq (.block 1
        (.seq (.region [⟨(some 18), .move (.tmp 16), none, .seq, [], []⟩,
          ⟨(some 19), .indexAddr none 2 (.tmp 14) (.tmp 16), none, .seq, [], []⟩,
          ⟨(some 20), .load (some 2) (.tmp 19), none, .seq, [], []⟩,
          ⟨(some 5), .alloc [(.int .i64 0), (.int .i64 0)], none, .seq, [], []⟩,
          ⟨(some 4), .move (.tmp 18), none, .seq, [], []⟩,
          ⟨none, .store 2 (.tmp 5) (.tmp 20), none, .seq, [], []⟩])
        (.seq (.seq (.region [⟨(some 21), .fieldAddr 0 (.tmp 5), none, .seq, [], []⟩,
           ⟨(some 22), .load none (.tmp 21), none, .seq, [], []⟩,
           ⟨(some 23), .move (.tmp 3), none, .seq, [], []⟩,
           ⟨(some 24), .bin .lss (.tmp 22) (.tmp 23), none, .seq, [], []⟩,
           ⟨(some 25), .move (.tmp 24), none, .seq, [], []⟩,
           ⟨(some 26), .move (.tmp 4), some (25, false), .seq, [], []⟩,
           ⟨(some 27), .bin .eql (.tmp 26) (.const (.int .i64 0)), some (25, false), .seq, [], []⟩,
           ⟨(some 28), .move (.tmp 27), some (25, false), .seq, [], []⟩,
           ⟨(some 29), .fieldAddr 0 (.tmp 5), some (28, true), .seq, [], []⟩,
           ⟨(some 30), .load none (.tmp 29), some (28, true), .seq, [], []⟩,
           ⟨(some 31), .bin .gtr (.tmp 30) (.const (.int .i64 0)), some (28, true), .seq, [], []⟩,
           ⟨(some 32), .pick (.tmp 28) (.tmp 31) (.const (.bool false)), some (25, false), .seq, [], []⟩,
           ⟨(some 33), .pick (.tmp 25) (.const (.bool true)) (.tmp 32), none, .seq, [], []⟩,
           ⟨(some 34), .move (.tmp 33), none, .seq, [], []⟩,
           ⟨(some 35), .fieldAddr 0 (.tmp 5), some (34, false), .seq, [], []⟩,
           ⟨(some 36), .load none (.tmp 35), some (34, false), .seq, [], []⟩,
           ⟨(some 37), .bin .gtr (.tmp 36) (.const (.int .i64 2000)), some (34, false), .seq, [], []⟩,
           ⟨(some 38), .pick (.tmp 34) (.const (.bool true)) (.tmp 37), none, .seq, [], []⟩])
         (.cond (.tmp 38)
          (.seq (.region [⟨(some 2), .move (.const (.int .i64 3)), none, .seq, [], []⟩])
          .ret)
          .skip))
        (.region [⟨(some 39), .fieldAddr 0 (.tmp 5), none, .seq, [], []⟩,
         ⟨(some 40), .load none (.tmp 39), none, .seq, [], []⟩,
         ⟨(some 41), .bin .add (.tmp 40) (.const (.int .i64 1)), none, .seq, [], []⟩,
         ⟨(some 3), .move (.tmp 41), none, .seq, [], []⟩]))))
      (.region [⟨(some 42), .bin .add (.tmp 16) (.const (.int .i64 1)), none, .seq, [], []⟩,
       ⟨(some 16), .move (.tmp 42), none, .seq, [], []⟩]))))))))
  (.seq (.seq (.region [⟨(some 43), .move (.tmp 0), none, .seq, [], []⟩,
     ⟨(some 44), .call 46 [(.tmp 43), (.fn 47)], none, .seq, [], []⟩])
   (.cond (.tmp 44)
    (.seq (.region [⟨(some 2), .move (.const (.int .i64 22)), none, .seq, [], []⟩])
    .ret)
    .skip))
  (.seq (.region [⟨(some 2), .move (.const (.int .i64 0)), none, .seq, [], []⟩])
  .ret))))))⟩

/-- forecourt/pole.within -/
def f27 : AFunc := ⟨3, [.tmp 6],
  (.seq (.region [⟨(some 3), .box (.tmp 0), none, .seq, [], []⟩,
    ⟨(some 4), .box (.tmp 1), none, .seq, [], []⟩,
    ⟨(some 6), .move (.const (.bool false)), none, .seq, [], []⟩])
  (.seq (.region [⟨(some 7), .move (.tmp 2), none, .seq, [], []⟩,
    ⟨(some 8), .makeFunc 49 [] [(.tmp 3), (.tmp 4)], none, .seq, [], []⟩,
    ⟨(some 9), .call 48 [(.tmp 7), (.tmp 8)], none, .seq, [], []⟩,
    ⟨(some 10), .un .not (.tmp 9), none, .seq, [], []⟩,
    ⟨(some 6), .move (.tmp 10), none, .seq, [], []⟩])
  .ret))⟩

/-- forecourt/pole.at -/
def f28 : AFunc := ⟨2, [.tmp 4],
  (.seq (.region [⟨(some 4), .move (.const (.int .i64 0)), none, .seq, [], []⟩])
  (.seq (.region [⟨(some 6), .move (.tmp 0), none, .seq, [], []⟩,
    ⟨(some 7), .len .sl (.tmp 6), none, .seq, [], []⟩,
    ⟨(some 8), .bin .sub (.tmp 7) (.const (.int .i64 1)), none, .seq, [], []⟩,
    ⟨(some 5), .move (.tmp 8), none, .seq, [], []⟩])
  (.seq (.block 0
    (.loop
     (.keep [0, 1, 5]
      (.seq (.seq (.region [⟨(some 9), .move (.tmp 5), none, .seq, [], []⟩,
         ⟨(some 10), .bin .gtr (.tmp 9) (.const (.int .i64 0)), none, .seq, [], []⟩,
         ⟨(some 11), .move (.tmp 10), none, .seq, [], []⟩,
         ⟨(some 12), .move (.tmp 0), some (11, true), .seq, [], []⟩,
         ⟨(some 13), .move (.tmp 5), some (11, true), .seq, [], []⟩,
         ⟨(some 14), .indexAddr none 2 (.tmp 12) (.tmp 13), some (11, true), .seq, [], []⟩,
         ⟨(some 15), .fieldAddr 0 (.tmp 14), some (11, true), .seq, [], []⟩,
         ⟨(some 16), .load none (.tmp 15), some (11, true), .seq, [], []⟩,
         ⟨(some 17), .move (.tmp 1), some (11, true), .seq, [], []⟩,
         ⟨(some 18), .bin .gtr (.tmp 16) (.tmp 17), some (11, true), .seq, [], []⟩,
         ⟨(some 19), .pick (.tmp 11) (.tmp 18) (.const (.bool false)), none, .seq, [], []⟩])
       (.cond (.tmp 19)
        .skip
        (.exit 0)))
      (.block 1
       (.region [⟨(some 20), .move (.tmp 5), none, .seq, [], []⟩,
        ⟨(some 21), .bin .sub (.tmp 20) (.const (.int .i64 1)), none, .seq, [], []⟩,
        ⟨(some 5), .move (.tmp 21), none, .seq, [], []⟩]))))))
  (.seq (.region [⟨(some 22), .move (.tmp 5), none, .seq, [], []⟩,
    ⟨(some 4), .move (.tmp 22), none, .seq, [], []⟩])
  .ret))))⟩

/-- forecourt/pole.checkClocks -/
def f29 : AFunc := ⟨2, [.tmp 4],
  (.seq (.region [⟨(some 3), .box (.tmp 1), none, .seq, [], []⟩,
    ⟨(some 4), .move (.const (.int .i64 0)), none, .seq, [], []⟩])
  (.seq (.region [⟨(some 6), .move (.tmp 0), none, .seq, [], []⟩,
    ⟨(some 7), .call 26 [(.tmp 6)], none, .seq, [], []⟩,
    ⟨(some 5), .move (.tmp 7), none, .seq, [], []⟩])
  (.seq (.block 0
    (.seq (.region [⟨(some 9), .move (.tmp 5), none, .seq, [], []⟩,
      ⟨(some 10), .bin .neq (.tmp 9) (.const (.int .i64 0)), none, .seq, [], []⟩,
      ⟨(some 8), .move (.tmp 10), none, .seq, [], []⟩])
    (.cond (.tmp 8)
     (.seq (.region [⟨(some 11), .move (.tmp 5), none, .seq, [], []⟩,
       ⟨(some 4), .move (.tmp 11), none, .seq, [], []⟩])
     .ret)
     (.seq (.region [⟨(some 13), .fieldAddr 0 (.tmp 3), none, .seq, [], []⟩,
       ⟨(some 14), .load none (.tmp 13), none, .seq, [], []⟩,
       ⟨(some 15), .fieldAddr 1 (.tmp 3), none, .seq, [], []⟩,
       ⟨(some 16), .load none (.tmp 15), none, .seq, [], []⟩,
       ⟨(some 17), .buildSlice 1 [(.int .i64 0)] 2 [(0, (.tmp 14)), (1, (.tmp 16))], none, .seq, [], []⟩,
       ⟨(some 18), .call 27 [(.const (.int .i64 (-100))), (.const (.int .i64 100)), (.tmp 17)], none, .seq, [], []⟩,
       ⟨(some 19), .un .not (.tmp 18), none, .seq, [], []⟩,
       ⟨(some 20), .move (.tmp 19), none, .seq, [], []⟩,
       ⟨(some 21), .fieldAddr 0 (.tmp 3), some (20, false), .seq, [], []⟩,
       ⟨(some 22), .load none (.tmp 21), some (20, false), .seq, [], []⟩,
       ⟨(some 23), .fieldAddr 1 (.tmp 3), some (20, false), .seq, [], []⟩,
       ⟨(some 24), .load none (.tmp 23), some (20, false), .seq, [], []⟩,
       ⟨(some 25), .bin .gtr (.tmp 22) (.tmp 24), some (20, false), .seq, [], []⟩,
       ⟨(some 26), .pick (.tmp 20) (.const (.bool true)) (.tmp 25), none, .seq, [], []⟩,
       ⟨(some 12), .move (.tmp 26), none, .seq, [], []⟩])
     (.cond (.tmp 12)
      (.seq (.region [⟨(some 4), .move (.const (.int .i64 2)), none, .seq, [], []⟩])
      .ret)
      .skip)))))
  (.seq (.region [⟨(some 4), .move (.const (.int .i64 0)), none, .seq, [], []⟩])
  .ret))))⟩

/-- forecourt/pole.fair -/
def f30 : AFunc := ⟨3, [.tmp 6],
  (.seq (.region [⟨(some 4), .box (.tmp 1), none, .seq, [], []⟩,
    ⟨(some 6), .move (.const (.int .i64 0)), none, .seq, [], []⟩])
  (.seq (.region [⟨(some 8), .move (.tmp 0), none, .still, [], []⟩,
    ⟨(some 9), .move (.tmp 0), none, .still, [], []⟩,
    ⟨(some 10), .move (.tmp 2), none, .still, [], []⟩,
    ⟨(some 11), .fieldAddr 0 (.tmp 4), none, .still, [], []⟩,
    ⟨(some 12), .load none (.tmp 11), none, .rd, [], []⟩,
    ⟨(some 13), .bin .add (.tmp 10) (.tmp 12), none, .still, [], []⟩,
    ⟨(some 14), .call 28 [(.tmp 9), (.tmp 13)], none, .ro, [], []⟩,
    ⟨(some 15), .move (.tmp 0), none, .still, [], []⟩,
    ⟨(some 16), .move (.tmp 2), none, .still, [], []⟩,
    ⟨(some 17), .fieldAddr 1 (.tmp 4), none, .still, [], []⟩,
    ⟨(some 18), .load none (.tmp 17), none, .rd, [3], []⟩,
    ⟨(some 19), .bin .add (.tmp 16) (.tmp 18), none, .still, [], []⟩,
    ⟨(some 20), .call 28 [(.tmp 15), (.tmp 19)], none, .seq, [], []⟩,
    ⟨(some 21), .bin .add (.tmp 20) (.const (.int .i64 1)), none, .still, [], []⟩,
    ⟨(some 22), .slice (.sl 2) (.tmp 8) (some (.tmp 14)) (some (.tmp 21)) none, none, .seq, [], []⟩,
    ⟨(some 7), .move (.tmp 22), none, .still, [], []⟩])
  (.seq (.region [⟨(some 23), .move (.tmp 7), none, .seq, [], []⟩,
    ⟨(some 24), .call 50 [(.tmp 23), (.fn 51)], none, .seq, [], []⟩,
    ⟨(some 25), .field none 1 (.tmp 24), none, .seq, [], []⟩,
    ⟨(some 6), .move (.tmp 25), none, .seq, [], []⟩])
  .ret)))⟩

/-- forecourt/pole.changes -/
def f31 : AFunc := ⟨2, [.tmp 4],
  (.seq (.region [⟨(some 3), .box (.tmp 1), none, .seq, [], []⟩,
    ⟨(some 4), .move (.const (.slice none 0 0)), none, .seq, [], []⟩])
  (.seq (.region [⟨(some 10), .buildSlice 1 [(.int .i64 0)] 1 [(0, (.const (.int .i64 0)))], none, .seq, [], []⟩,
    ⟨(some 5), .move (.tmp 10), none, .seq, [], []⟩])
  (.seq (.seq (.region [⟨(some 11), .move (.tmp 0), none, .seq, [], []⟩,
     ⟨(some 12), .slice (.sl 2) (.tmp 11) (some (.const (.int .i64 1))) none none, none, .seq, [], []⟩,
     ⟨(some 13), .len .sl (.tmp 12), none, .seq, [], []⟩,
     ⟨(some 14), .move (.const (.int .i64 0)), none, .seq, [], []⟩])
   (.block 0
    (.loop
     (.keep [3, 5, 12, 13, 14]
      (.seq (.region [⟨(some 15), .bin .lss (.tmp 14) (.tmp 13), none, .seq, [], []⟩])
      (.seq (.cond (.tmp 15)
        .skip
        (.exit 0))
      (.seq (.block 1
        (.seq (.region [⟨(some 16), .indexAddr none 2 (.tmp 12) (.tmp 14), none, .seq, [], []⟩,
          ⟨(some 17), .load (some 2) (.tmp 16), none, .seq, [], []⟩,
          ⟨(some 7), .alloc [(.int .i64 0), (.int .i64 0)], none, .seq, [], []⟩,
          ⟨none, .store 2 (.tmp 7) (.tmp 17), none, .seq, [], []⟩])
        (.seq (.region [⟨(some 18), .fieldAddr 0 (.tmp 7), none, .seq, [], []⟩,
          ⟨(some 19), .load none (.tmp 18), none, .seq, [], []⟩,
          ⟨(some 20), .fieldAddr 1 (.tmp 3), none, .seq, [], []⟩,
          ⟨(some 21), .load none (.tmp 20), none, .seq, [], []⟩,
          ⟨(some 22), .bin .sub (.tmp 19) (.tmp 21), none, .seq, [], []⟩,
          ⟨(some 23), .fieldAddr 0 (.tmp 7), none, .seq, [], []⟩,
          ⟨(some 24), .load none (.tmp 23), none, .seq, [], []⟩,
          ⟨(some 25), .fieldAddr 0 (.tmp 3), none, .seq, [], []⟩,
          ⟨(some 26), .load none (.tmp 25), none, .seq, [], []⟩,
          ⟨(some 27), .bin .sub (.tmp 24) (.tmp 26), none, .seq, [], []⟩,
          ⟨(some 28), .buildSlice 1 [(.int .i64 0)] 2 [(0, (.tmp 22)), (1, (.tmp 27))], none, .seq, [], []⟩,
          ⟨(some 29), .len .sl (.tmp 28), none, .seq, [], []⟩,
          ⟨(some 30), .move (.const (.int .i64 0)), none, .seq, [], []⟩])
        (.block 2
         (.loop
          (.keep [3, 5, 12, 13, 14, 28, 29, 30]
           (.seq (.region [⟨(some 31), .bin .lss (.tmp 30) (.tmp 29), none, .seq, [], []⟩])
           (.seq (.cond (.tmp 31)
             .skip
             (.exit 2))
           (.seq (.block 3
             (.seq (.region [⟨(some 32), .indexAddr none 1 (.tmp 28) (.tmp 30), none, .seq, [], []⟩,
               ⟨(some 33), .load none (.tmp 32), none, .seq, [], []⟩,
               ⟨(some 9), .move (.tmp 33), none, .seq, [], []⟩])
             (.seq (.region [⟨(some 34), .move (.tmp 9), none, .seq, [], []⟩,
               ⟨(some 35), .buildSlice 1 [(.int .i64 0)] 1 [(0, (.tmp 34))], none, .seq, [], []⟩,
               ⟨(some 36), .call 27 [(.const (.int .i64 1)), (.const (.int .i64 2000)), (.tmp 35)], none, .seq, [], []⟩])
             (.cond (.tmp 36)
              (.region [⟨(some 37), .move (.tmp 5), none, .seq, [], []⟩,
               ⟨(some 38), .move (.tmp 9), none, .seq, [], []⟩,
               ⟨(some 39), .buildSlice 1 [(.int .i64 0)] 1 [(0, (.tmp 38))], none, .seq, [], []⟩,
               ⟨(some 40), .append 1 8 (.tmp 37) (.tmp 39), none, .seq, [], []⟩,
               ⟨(some 5), .move (.tmp 40), none, .seq, [], []⟩])
              .skip))))
           (.region [⟨(some 41), .bin .add (.tmp 30) (.const (.int .i64 1)), none, .seq, [], []⟩,
            ⟨(some 30), .move (.tmp 41), none, .seq, [], []⟩]))))))))))
      (.region [⟨(some 42), .bin .add (.tmp 14) (.const (.int .i64 1)), none, .seq, [], []⟩,
       ⟨(some 14), .move (.tmp 42), none, .seq, [], []⟩]))))))))
  (.seq (.region [⟨(some 43), .move (.tmp 5), none, .seq, [], []⟩,
    ⟨(some 44), .call 52 [(.tmp 43)], none, .seq, [], []⟩])
  (.seq (.region [⟨(some 45), .move (.tmp 5), none, .seq, [], []⟩,
    ⟨(some 46), .call 53 [(.tmp 45)], none, .seq, [], []⟩,
    ⟨(some 4), .move (.tmp 46), none, .seq, [], []⟩])
  .ret)))))⟩

/-- forecourt/pole.CheckTable -/
def f32 : AFunc := ⟨1, [.tmp 2],
  (.seq (.region [⟨(some 1), .box (.tmp 0), none, .seq, [], []⟩,
    ⟨(some 2), .move (.const (.int .i64 0)), none, .seq, [], []⟩])
  (.seq (.region [⟨(some 4), .fieldAddr 1 (.tmp 1), none, .seq, [], []⟩,
    ⟨(some 5), .load none (.tmp 4), none, .seq, [], []⟩,
    ⟨(some 6), .len .sl (.tmp 5), none, .seq, [], []⟩,
    ⟨(some 3), .move (.tmp 6), none, .seq, [], []⟩])
  (.seq (.seq (.region [⟨(some 7), .move (.tmp 3), none, .seq, [], []⟩,
     ⟨(some 8), .bin .eql (.tmp 7) (.const (.int .i64 0)), none, .seq, [], []⟩,
     ⟨(some 9), .move (.tmp 8), none, .seq, [], []⟩,
     ⟨(some 10), .move (.tmp 3), some (9, false), .seq, [], []⟩,
     ⟨(some 11), .bin .gtr (.tmp 10) (.const (.int .i64 6)), some (9, false), .seq, [], []⟩,
     ⟨(some 12), .pick (.tmp 9) (.const (.bool true)) (.tmp 11), none, .seq, [], []⟩,
     ⟨(some 13), .move (.tmp 12), none, .seq, [], []⟩,
     ⟨(some 14), .fieldAddr 1 (.tmp 1), some (13, false), .seq, [], []⟩,
     ⟨(some 15), .load none (.tmp 14), some (13, false), .seq, [], []⟩,
     ⟨(some 16), .indexAddr none 1 (.tmp 15) (.const (.int .i64 0)), some (13, false), .seq, [], []⟩,
     ⟨(some 17), .load none (.tmp 16), some (13, false), .seq, [], []⟩,
     ⟨(some 18), .len .sl (.tmp 17), some (13, false), .seq, [], []⟩,
     ⟨(some 19), .bin .eql (.tmp 18) (.const (.int .i64 0)), some (13, false), .seq, [], []⟩,
     ⟨(some 20), .pick (.tmp 13) (.const (.bool true)) (.tmp 19), none, .seq, [], []⟩,
     ⟨(some 21), .move (.tmp 20), none, .seq, [], []⟩,
     ⟨(some 22), .fieldAddr 1 (.tmp 1), some (21, false), .seq, [], []⟩,
     ⟨(some 23), .load none (.tmp 22), some (21, false), .seq, [], []⟩,
     ⟨(some 24), .indexAddr none 1 (.tmp 23) (.const (.int .i64 0)), some (21, false), .seq, [], []⟩,
     ⟨(some 25), .load none (.tmp 24), some (21, false), .seq, [], []⟩,
     ⟨(some 26), .len .sl (.tmp 25), some (21, false), .seq, [], []⟩,
     ⟨(some 27), .bin .gtr (.tmp 26) (.const (.int .i64 6)), some (21, false), .seq, [], []⟩,
     ⟨(some 28), .pick (.tmp 21) (.const (.bool true)) (.tmp 27), none, .seq, [], []⟩])
   (.cond (.tmp 28)
    (.seq (.region [⟨(some 2), .move (.const (.int .i64 6)), none, .seq, [], []⟩])
    .ret)
    .skip))
  (.seq (.block 0
    (.seq (.region [⟨(some 30), .fieldAddr 1 (.tmp 1), none, .seq, [], []⟩,
      ⟨(some 31), .load none (.tmp 30), none, .seq, [], []⟩,
      ⟨(some 32), .makeFunc 54 [] [(.tmp 1)], none, .seq, [], []⟩,
      ⟨(some 33), .call 33 [(.tmp 31), (.tmp 32)], none, .seq, [], []⟩,
      ⟨(some 29), .move (.tmp 33), none, .seq, [], []⟩])
    (.cond (.tmp 29)
     (.seq (.region [⟨(some 2), .move (.const (.int .i64 15)), none, .seq, [], []⟩])
     .ret)
     (.seq (.region [⟨(some 35), .fieldAddr 0 (.tmp 1), none, .seq, [], []⟩,
       ⟨(some 36), .load none (.tmp 35), none, .seq, [], []⟩,
       ⟨(some 37), .buildSlice 1 [(.int .i64 0)] 1 [(0, (.tmp 36))], none, .seq, [], []⟩,
       ⟨(some 38), .call 27 [(.const (.int .i64 1)), (.const (.int .i64 1000)), (.tmp 37)], none, .seq, [], []⟩,
       ⟨(some 39), .un .not (.tmp 38), none, .seq, [], []⟩,
       ⟨(some 34), .move (.tmp 39), none, .seq, [], []⟩])
     (.cond (.tmp 34)
      (.seq (.region [⟨(some 2), .move (.const (.int .i64 2)), none, .seq, [], []⟩])
      .ret)
      (.seq (.region [⟨(some 41), .fieldAddr 1 (.tmp 1), none, .seq, [], []⟩,
        ⟨(some 42), .load none (.tmp 41), none, .seq, [], []⟩,
        ⟨(some 43), .call 33 [(.tmp 42), (.fn 55)], none, .seq, [], []⟩,
        ⟨(some 40), .move (.tmp 43), none, .seq, [], []⟩])
      (.cond (.tmp 40)
       (.seq (.region [⟨(some 2), .move (.const (.int .i64 3)), none, .seq, [], []⟩])
       .ret)
       .skip)))))))
  (.seq (.region [⟨(some 2), .move (.const (.int .i64 0)), none, .seq, [], []⟩])
  .ret)))))⟩

/-- slices.ContainsFunc[[][]int64,[]int64] -/
def f33 : AFunc := ⟨2, [.tmp 4],
  (.seq (.region [⟨(some 4), .move (.const (.bool false)), none, .seq, [], []⟩])
  (.seq (.region [⟨(some 5), .move (.tmp 0), none, .seq, [], []⟩,
    ⟨(some 6), .move (.tmp 1), none, .seq, [], []⟩,
    ⟨(some 7), .call 56 [(.tmp 5), (.tmp 6)], none, .seq, [], []⟩,
    ⟨(some 8), .bin .geq (.tmp 7) (.const (.int .i64 0)), none, .seq, [], []⟩,
    ⟨(some 4), .move (.tmp 8), none, .seq, [], []⟩])
  .ret))⟩

/-- forecourt/pole.CheckRounding$1 -/
def f34 : AFunc := ⟨2, [.tmp 3],
  (.seq (.region [⟨(some 3), .move (.const (.bool false)), none, .seq, [], []⟩])
  (.seq (.region [⟨(some 4), .move (.tmp 0), none, .seq, [], []⟩,
    ⟨(some 5), .len .sl (.tmp 4), none, .seq, [], []⟩,
    ⟨(some 6), .fieldAddr 1 (.tmp 1), none, .seq, [], []⟩,
    ⟨(some 7), .load none (.tmp 6), none, .seq, [], []⟩,
    ⟨(some 8), .indexAddr none 1 (.tmp 7) (.const (.int .i64 0)), none, .seq, [], []⟩,
    ⟨(some 9), .load none (.tmp 8), none, .seq, [], []⟩,
    ⟨(some 10), .len .sl (.tmp 9), none, .seq, [], []⟩,
    ⟨(some 11), .bin .neq (.tmp 5) (.tmp 10), none, .seq, [], []⟩,
    ⟨(some 3), .move (.tmp 11), none, .seq, [], []⟩])
  .ret))⟩

/-- forecourt/pole.CheckRounding$2 -/
def f35 : AFunc := ⟨3, [.tmp 5],
  (.seq (.region [⟨(some 5), .move (.const (.bool false)), none, .seq, [], []⟩])
  (.seq (.region [⟨(some 6), .move (.tmp 1), none, .seq, [], []⟩,
    ⟨(some 7), .move (.tmp 0), none, .seq, [], []⟩,
    ⟨(some 8), .fieldAddr 0 (.tmp 2), none, .seq, [], []⟩,
    ⟨(some 9), .load none (.tmp 8), none, .seq, [], []⟩,
    ⟨(some 10), .bin .quo (.tmp 7) (.tmp 9), none, .seq, [], []⟩,
    ⟨(some 11), .bin .eql (.tmp 6) (.tmp 10), none, .seq, [], []⟩,
    ⟨(some 12), .move (.tmp 11), none, .seq, [], []⟩,
    ⟨(some 13), .move (.tmp 1), some (12, false), .seq, [], []⟩,
    ⟨(some 14), .move (.tmp 0), some (12, false), .seq, [], []⟩,
    ⟨(some 15), .fieldAddr 0 (.tmp 2), some (12, false), .seq, [], []⟩,
    ⟨(some 16), .load none (.tmp 15), some (12, false), .seq, [], []⟩,
    ⟨(some 17), .bin .add (.tmp 14) (.tmp 16), some (12, false), .seq, [], []⟩,
    ⟨(some 18), .bin .sub (.tmp 17) (.const (.int .i64 1)), some (12, false), .seq, [], []⟩,
    ⟨(some 19), .fieldAddr 0 (.tmp 2), some (12, false), .seq, [], []⟩,
    ⟨(some 20), .load none (.tmp 19), some (12, false), .seq, [], []⟩,
    ⟨(some 21), .bin .quo (.tmp 18) (.tmp 20), some (12, false), .seq, [], []⟩,
    ⟨(some 22), .bin .eql (.tmp 13) (.tmp 21), some (12, false), .seq, [], []⟩,
    ⟨(some 23), .pick (.tmp 12) (.const (.bool true)) (.tmp 22), none, .seq, [], []⟩,
    ⟨(some 5), .move (.tmp 23), none, .seq, [], []⟩])
  .ret))⟩

/-- forecourt/pole.newBook -/
def f36 : AFunc := ⟨1, [.tmp 2],
  (.seq (.region [⟨(some 1), .box (.tmp 0), none, .seq, [], []⟩,
    ⟨(some 2), .move (.const (.pointer none)), none, .seq, [], []⟩])
  (.seq (.region [⟨(some 16), .load (some 2) (.tmp 1), none, .seq, [], []⟩,
    ⟨(some 17), .build [(.int .i64 0), (.slice none 0 0), (.slice none 0 0), (.int .i64 0), (.int .i64 0), (.int .i64 0), (.int .i64 0), (.int .i64 0), (.int .i64 0), (.int .i64 0), (.int .i64 0), (.int .i64 0), (.int .i64 0), (.int .i64 0), (.int .i64 0), (.int .i64 0), (.int .i64 0)] (.list [(0, 2), (2, 1), (3, 14)]) [(0, (.tmp 16))], none, .seq, [], []⟩,
    ⟨(some 18), .box (.tmp 17), none, .seq, [], []⟩,
    ⟨(some 3), .move (.tmp 18), none, .seq, [], []⟩])
  (.seq (.region [⟨(some 19), .fieldAddr 1 (.tmp 1), none, .still, [], []⟩,
    ⟨(some 20), .load none (.tmp 19), none, .rd, [], []⟩,
    ⟨(some 21), .len .sl (.tmp 20), none, .still, [], []⟩,
    ⟨(some 22), .fieldAddr 1 (.tmp 1), none, .still, [], []⟩,
    ⟨(some 23), .load none (.tmp 22), none, .rd, [], []⟩,
    ⟨(some 24), .indexAddr none 1 (.tmp 23) (.const (.int .i64 0)), none, .still, [], []⟩,
    ⟨(some 25), .load none (.tmp 24), none, .rd, [], []⟩,
    ⟨(some 26), .len .sl (.tmp 25), none, .still, [], []⟩,
    ⟨(some 4), .move (.tmp 21), none, .still, [], []⟩,
    ⟨(some 5), .move (.tmp 26), none, .still, [], []⟩])
  (.seq (.region [⟨(some 27), .move (.tmp 4), none, .seq, [], []⟩,
    ⟨(some 28), .move (.tmp 5), none, .seq, [], []⟩,
    ⟨(some 29), .bin .add (.tmp 27) (.tmp 28), none, .seq, [], []⟩,
    ⟨(some 30), .makeSlice 1 8 [(.int .i64 0)] (.tmp 29) (.tmp 29), none, .seq, [], []⟩,
    ⟨(some 6), .move (.tmp 30), none, .seq, [], []⟩])
  (.seq (.region [⟨(some 7), .move (.const (.int .i64 0)), none, .seq, [], []⟩])
  (.seq (.seq (.region [⟨(some 31), .fieldAddr 1 (.tmp 1), none, .seq, [], []⟩,
     ⟨(some 32), .load none (.tmp 31), none, .seq, [], []⟩,
     ⟨(some 33), .len .sl (.tmp 32), none, .seq, [], []⟩,
     ⟨(some 34), .move (.const (.int .i64 0)), none, .seq, [], []⟩])
   (.block 0
    (.loop
     (.keep [3, 4, 5, 6, 7, 32, 33, 34]
      (.seq (.region [⟨(some 35), .bin .lss (.tmp 34) (.tmp 33), none, .seq, [], []⟩])
      (.seq (.cond (.tmp 35)
        .skip
        (.exit 0))
      (.seq (.block 1
        (.seq (.region [⟨(some 36), .move (.tmp 34), none, .seq, [], []⟩,
          ⟨(some 37), .indexAddr none 1 (.tmp 32) (.tmp 34), none, .seq, [], []⟩,
          ⟨(some 38), .load none (.tmp 37), none, .seq, [], []⟩,
          ⟨(some 8), .move (.tmp 36), none, .seq, [], []⟩,
          ⟨(some 9), .move (.tmp 38), none, .seq, [], []⟩])
        (.seq (.region [⟨(some 39), .move (.tmp 9), none, .seq, [], []⟩,
          ⟨(some 40), .len .sl (.tmp 39), none, .seq, [], []⟩,
          ⟨(some 41), .move (.const (.int .i64 0)), none, .seq, [], []⟩])
        (.block 2
         (.loop
          (.keep [3, 4, 5, 6, 7, 8, 32, 33, 34, 39, 40, 41]
           (.seq (.region [⟨(some 42), .bin .lss (.tmp 41) (.tmp 40), none, .seq, [], []⟩])
           (.seq (.cond (.tmp 42)
             .skip
             (.exit 2))
           (.seq (.block 3
             (.seq (.region [⟨(some 43), .move (.tmp 41), none, .seq, [], []⟩,
               ⟨(some 44), .indexAddr none 1 (.tmp 39) (.tmp 41), none, .seq, [], []⟩,
               ⟨(some 45), .load none (.tmp 44), none, .seq, [], []⟩,
               ⟨(some 10), .move (.tmp 43), none, .seq, [], []⟩,
               ⟨(some 11), .move (.tmp 45), none, .seq, [], []⟩])
             (.seq (.region [⟨(some 46), .move (.tmp 3), none, .seq, [], []⟩,
               ⟨(some 47), .move (.tmp 3), none, .seq, [], []⟩,
               ⟨(some 48), .nilCheck (.tmp 47), none, .seq, [], []⟩,
               ⟨(some 49), .fieldAddr 2 (.tmp 48), none, .seq, [], []⟩,
               ⟨(some 50), .load none (.tmp 49), none, .seq, [], []⟩,
               ⟨(some 51), .move (.tmp 8), none, .seq, [], []⟩,
               ⟨(some 52), .move (.tmp 10), none, .seq, [], []⟩,
               ⟨(some 53), .bin .add (.const (.int .i64 6)) (.tmp 52), none, .seq, [], []⟩,
               ⟨(some 54), .move (.tmp 11), none, .seq, [], []⟩,
               ⟨(some 55), .build [(.int .i64 0), (.int .i64 0), (.int .i64 0)] (.list [(0, 1), (1, 1), (2, 1)]) [(0, (.tmp 51)), (1, (.tmp 53)), (2, (.tmp 54))], none, .seq, [], []⟩,
               ⟨(some 56), .buildSlice 3 [(.int .i64 0), (.int .i64 0), (.int .i64 0)] 1 [(0, (.tmp 55))], none, .seq, [], []⟩,
               ⟨(some 57), .append 3 24 (.tmp 50) (.tmp 56), none, .seq, [], []⟩,
               ⟨(some 58), .nilCheck (.tmp 46), none, .seq, [], []⟩,
               ⟨(some 59), .fieldAddr 2 (.tmp 58), none, .seq, [], []⟩,
               ⟨none, .store 1 (.tmp 59) (.tmp 57), none, .seq, [], []⟩])
             (.seq (.region [⟨(some 60), .move (.tmp 6), none, .seq, [], []⟩,
               ⟨(some 61), .move (.tmp 8), none, .seq, [], []⟩,
               ⟨(some 62), .indexAddr none 1 (.tmp 60) (.tmp 61), none, .seq, [], []⟩,
               ⟨(some 63), .load none (.tmp 62), none, .seq, [], []⟩,
               ⟨(some 64), .move (.tmp 11), none, .seq, [], []⟩,
               ⟨(some 65), .bin .add (.tmp 63) (.tmp 64), none, .seq, [], []⟩,
               ⟨(some 66), .indexAddr none 1 (.tmp 60) (.tmp 61), none, .seq, [], []⟩,
               ⟨none, .store 1 (.tmp 66) (.tmp 65), none, .seq, [], []⟩])
             (.seq (.region [⟨(some 67), .move (.tmp 6), none, .seq, [], []⟩,
               ⟨(some 68), .move (.tmp 4), none, .seq, [], []⟩,
               ⟨(some 69), .move (.tmp 10), none, .seq, [], []⟩,
               ⟨(some 70), .bin .add (.tmp 68) (.tmp 69), none, .seq, [], []⟩,
               ⟨(some 71), .indexAddr none 1 (.tmp 67) (.tmp 70), none, .seq, [], []⟩,
               ⟨(some 72), .load none (.tmp 71), none, .seq, [], []⟩,
               ⟨(some 73), .move (.tmp 11), none, .seq, [], []⟩,
               ⟨(some 74), .bin .add (.tmp 72) (.tmp 73), none, .seq, [], []⟩,
               ⟨(some 75), .indexAddr none 1 (.tmp 67) (.tmp 70), none, .seq, [], []⟩,
               ⟨none, .store 1 (.tmp 75) (.tmp 74), none, .seq, [], []⟩])
             (.region [⟨(some 76), .move (.tmp 7), none, .seq, [], []⟩,
              ⟨(some 77), .move (.tmp 11), none, .seq, [], []⟩,
              ⟨(some 78), .bin .add (.tmp 76) (.tmp 77), none, .seq, [], []⟩,
              ⟨(some 7), .move (.tmp 78), none, .seq, [], []⟩]))))))
           (.region [⟨(some 79), .bin .add (.tmp 41) (.const (.int .i64 1)), none, .seq, [], []⟩,
            ⟨(some 41), .move (.tmp 79), none, .seq, [], []⟩]))))))))))
      (.region [⟨(some 80), .bin .add (.tmp 34) (.const (.int .i64 1)), none, .seq, [], []⟩,
       ⟨(some 34), .move (.tmp 80), none, .seq, [], []⟩]))))))))
  (.seq (.region [⟨(some 12), .move (.const (.int .i64 12)), none, .seq, [], []⟩,
    ⟨(some 13), .move (.const (.int .i64 13)), none, .seq, [], []⟩])
  (.seq (.seq (.region [⟨(some 81), .move (.tmp 4), none, .seq, [], []⟩,
     ⟨(some 82), .move (.const (.int .i64 0)), none, .seq, [], []⟩])
   (.block 4
    (.loop
     (.keep [3, 4, 5, 6, 7, 12, 13, 81, 82]
      (.seq (.region [⟨(some 83), .bin .lss (.tmp 82) (.tmp 81), none, .seq, [], []⟩])
      (.seq (.cond (.tmp 83)
        .skip
        (.exit 4))
      (.seq (.block 5
        (.seq (.region [⟨(some 84), .move (.tmp 82), none, .seq, [], []⟩,
          ⟨(some 14), .move (.tmp 84), none, .seq, [], []⟩])
        (.region [⟨(some 85), .move (.tmp 3), none, .still, [], []⟩,
         ⟨(some 86), .move (.tmp 3), none, .still, [], []⟩,
         ⟨(some 87), .nilCheck (.tmp 86), none, .still, [], []⟩,
         ⟨(some 88), .fieldAddr 2 (.tmp 87), none, .still, [], []⟩,
         ⟨(some 89), .load none (.tmp 88), none, .rd, [], []⟩,
         ⟨(some 90), .move (.tmp 12), none, .still, [], []⟩,
         ⟨(some 91), .move (.tmp 14), none, .still, [], []⟩,
         ⟨(some 92), .move (.tmp 6), none, .still, [], []⟩,
         ⟨(some 93), .move (.tmp 14), none, .still, [], []⟩,
         ⟨(some 94), .indexAddr none 1 (.tmp 92) (.tmp 93), none, .still, [], []⟩,
         ⟨(some 95), .load none (.tmp 94), none, .rd, [], []⟩,
         ⟨(some 96), .build [(.int .i64 0), (.int .i64 0), (.int .i64 0)] (.list [(0, 1), (1, 1), (2, 1)]) [(0, (.tmp 90)), (1, (.tmp 91)), (2, (.tmp 95))], none, .still, [], []⟩,
         ⟨(some 97), .buildSlice 3 [(.int .i64 0), (.int .i64 0), (.int .i64 0)] 1 [(0, (.tmp 96))], none, .mk, [], []⟩,
         ⟨(some 98), .append 3 24 (.tmp 89) (.tmp 97), none, .seq, [], []⟩,
         ⟨(some 99), .nilCheck (.tmp 85), none, .still, [], []⟩,
         ⟨(some 100), .fieldAddr 2 (.tmp 99), none, .still, [], []⟩,
         ⟨none, .store 1 (.tmp 100) (.tmp 98), none, .seq, [], []⟩])))
      (.region [⟨(some 101), .bin .add (.tmp 82) (.const (.int .i64 1)), none, .seq, [], []⟩,
       ⟨(some 82), .move (.tmp 101), none, .seq, [], []⟩]))))))))
  (.seq (.seq (.region [⟨(some 102), .move (.tmp 5), none, .seq, [], []⟩,
     ⟨(some 103), .move (.const (.int .i64 0)), none, .seq, [], []⟩])
   (.block 6
    (.loop
     (.keep [3, 4, 6, 7, 12, 13, 102, 103]
      (.seq (.region [⟨(some 104), .bin .lss (.tmp 103) (.tmp 102), none, .seq, [], []⟩])
      (.seq (.cond (.tmp 104)
        .skip
        (.exit 6))
      (.seq (.block 7
        (.seq (.region [⟨(some 105), .move (.tmp 103), none, .seq, [], []⟩,
          ⟨(some 15), .move (.tmp 105), none, .seq, [], []⟩])
        (.region [⟨(some 106), .move (.tmp 3), none, .still, [], []⟩,
         ⟨(some 107), .move (.tmp 3), none, .still, [], []⟩,
         ⟨(some 108), .nilCheck (.tmp 107), none, .still, [], []⟩,
         ⟨(some 109), .fieldAddr 2 (.tmp 108), none, .still, [], []⟩,
         ⟨(some 110), .load none (.tmp 109), none, .rd, [], []⟩,
         ⟨(some 111), .move (.tmp 15), none, .still, [], []⟩,
         ⟨(some 112), .bin .add (.const (.int .i64 6)) (.tmp 111), none, .still, [], []⟩,
         ⟨(some 113), .move (.tmp 13), none, .still, [], []⟩,
         ⟨(some 114), .move (.tmp 6), none, .still, [], []⟩,
         ⟨(some 115), .move (.tmp 4), none, .still, [], []⟩,
         ⟨(some 116), .move (.tmp 15), none, .still, [], []⟩,
         ⟨(some 117), .bin .add (.tmp 115) (.tmp 116), none, .still, [], []⟩,
         ⟨(some 118), .indexAddr none 1 (.tmp 114) (.tmp 117), none, .still, [], []⟩,
         ⟨(some 119), .load none (.tmp 118), none, .rd, [], []⟩,
         ⟨(some 120), .build [(.int .i64 0), (.int .i64 0), (.int .i64 0)] (.list [(0, 1), (1, 1), (2, 1)]) [(0, (.tmp 112)), (1, (.tmp 113)), (2, (.tmp 119))], none, .still, [], []⟩,
         ⟨(some 121), .buildSlice 3 [(.int .i64 0), (.int .i64 0), (.int .i64 0)] 1 [(0, (.tmp 120))], none, .mk, [], []⟩,
         ⟨(some 122), .append 3 24 (.tmp 110) (.tmp 121), none, .seq, [], []⟩,
         ⟨(some 123), .nilCheck (.tmp 106), none, .still, [], []⟩,
         ⟨(some 124), .fieldAddr 2 (.tmp 123), none, .still, [], []⟩,
         ⟨none, .store 1 (.tmp 124) (.tmp 122), none, .seq, [], []⟩])))
      (.region [⟨(some 125), .bin .add (.tmp 103) (.const (.int .i64 1)), none, .seq, [], []⟩,
       ⟨(some 103), .move (.tmp 125), none, .seq, [], []⟩]))))))))
  (.seq (.region [⟨(some 126), .move (.tmp 3), none, .seq, [], []⟩,
    ⟨(some 127), .move (.tmp 3), none, .seq, [], []⟩,
    ⟨(some 128), .nilCheck (.tmp 127), none, .seq, [], []⟩,
    ⟨(some 129), .fieldAddr 2 (.tmp 128), none, .seq, [], []⟩,
    ⟨(some 130), .load none (.tmp 129), none, .seq, [], []⟩,
    ⟨(some 131), .move (.tmp 13), none, .seq, [], []⟩,
    ⟨(some 132), .move (.tmp 12), none, .seq, [], []⟩,
    ⟨(some 133), .move (.tmp 7), none, .seq, [], []⟩,
    ⟨(some 134), .build [(.int .i64 0), (.int .i64 0), (.int .i64 0)] (.list [(0, 1), (1, 1), (2, 1)]) [(0, (.tmp 131)), (1, (.tmp 132)), (2, (.tmp 133))], none, .seq, [], []⟩,
    ⟨(some 135), .buildSlice 3 [(.int .i64 0), (.int .i64 0), (.int .i64 0)] 1 [(0, (.tmp 134))], none, .seq, [], []⟩,
    ⟨(some 136), .append 3 24 (.tmp 130) (.tmp 135), none, .seq, [], []⟩,
    ⟨(some 137), .nilCheck (.tmp 126), none, .seq, [], []⟩,
    ⟨(some 138), .fieldAddr 2 (.tmp 137), none, .seq, [], []⟩,
    ⟨none, .store 1 (.tmp 138) (.tmp 136), none, .seq, [], []⟩])
  (.seq (.region [⟨(some 139), .move (.tmp 3), none, .seq, [], []⟩,
    ⟨(some 2), .move (.tmp 139), none, .seq, [], []⟩])
  .ret)))))))))))⟩

/-- forecourt/pole.Cheat -/
def f37 : AFunc := ⟨3, [.tmp 6, .tmp 7],
  (.seq (.region [⟨(some 3), .box (.tmp 0), none, .seq, [], []⟩,
    ⟨(some 4), .box (.tmp 1), none, .seq, [], []⟩,
    ⟨(some 5), .box (.tmp 2), none, .seq, [], []⟩,
    ⟨(some 6), .move (.const (.int .i64 0)), none, .seq, [], []⟩,
    ⟨(some 7), .move (.const (.int .i64 0)), none, .seq, [], []⟩])
  (.seq (.seq (.region [⟨(some 16), .load none (.tmp 3), none, .seq, [], []⟩,
     ⟨(some 17), .call 26 [(.tmp 16)], none, .seq, [], []⟩,
     ⟨(some 8), .move (.tmp 17), none, .seq, [], []⟩])
   (.seq (.region [⟨(some 18), .move (.tmp 8), none, .seq, [], []⟩,
     ⟨(some 19), .bin .neq (.tmp 18) (.const (.int .i64 0)), none, .seq, [], []⟩])
   (.cond (.tmp 19)
    (.seq (.region [⟨(some 20), .move (.tmp 8), none, .seq, [], []⟩,
      ⟨(some 6), .move (.const (.int .i64 0)), none, .seq, [], []⟩,
      ⟨(some 7), .move (.tmp 20), none, .seq, [], []⟩])
    .ret)
    .skip)))
  (.seq (.seq (.region [⟨(some 21), .load none (.tmp 4), none, .seq, [], []⟩,
     ⟨(some 22), .call 26 [(.tmp 21)], none, .seq, [], []⟩,
     ⟨(some 9), .move (.tmp 22), none, .seq, [], []⟩])
   (.seq (.region [⟨(some 23), .move (.tmp 9), none, .seq, [], []⟩,
     ⟨(some 24), .bin .neq (.tmp 23) (.const (.int .i64 0)), none, .seq, [], []⟩])
   (.cond (.tmp 24)
    (.seq (.region [⟨(some 25), .move (.tmp 9), none, .seq, [], []⟩,
      ⟨(some 6), .move (.const (.int .i64 0)), none, .seq, [], []⟩,
      ⟨(some 7), .move (.tmp 25), none, .seq, [], []⟩])
    .ret)
    .skip)))
  (.seq (.seq (.region [⟨(some 26), .load none (.tmp 3), none, .seq, [], []⟩,
     ⟨(some 27), .load (some 2) (.tmp 5), none, .seq, [], []⟩,
     ⟨(some 28), .call 29 [(.tmp 26), (.tmp 27)], none, .seq, [], []⟩,
     ⟨(some 10), .move (.tmp 28), none, .seq, [], []⟩])
   (.seq (.region [⟨(some 29), .move (.tmp 10), none, .seq, [], []⟩,
     ⟨(some 30), .bin .neq (.tmp 29) (.const (.int .i64 0)), none, .seq, [], []⟩])
   (.cond (.tmp 30)
    (.seq (.region [⟨(some 31), .move (.tmp 10), none, .seq, [], []⟩,
      ⟨(some 6), .move (.const (.int .i64 0)), none, .seq, [], []⟩,
      ⟨(some 7), .move (.tmp 31), none, .seq, [], []⟩])
    .ret)
    .skip)))
  (.seq (.region [⟨(some 32), .load none (.tmp 3), none, .seq, [], []⟩,
    ⟨(some 33), .load (some 2) (.tmp 5), none, .seq, [], []⟩,
    ⟨(some 34), .call 31 [(.tmp 32), (.tmp 33)], none, .seq, [], []⟩,
    ⟨(some 11), .move (.tmp 34), none, .seq, [], []⟩])
  (.seq (.seq (.region [⟨(some 35), .load none (.tmp 4), none, .seq, [], []⟩,
     ⟨(some 36), .len .sl (.tmp 35), none, .seq, [], []⟩,
     ⟨(some 37), .move (.const (.int .i64 0)), none, .seq, [], []⟩])
   (.block 0
    (.loop
     (.keep [3, 4, 5, 11, 35, 36, 37]
      (.seq (.region [⟨(some 38), .bin .lss (.tmp 37) (.tmp 36), none, .seq, [], []⟩])
      (.seq (.cond (.tmp 38)
        .skip
        (.exit 0))
      (.seq (.block 1
        (.seq (.region [⟨(some 39), .indexAddr none 2 (.tmp 35) (.tmp 37), none, .seq, [], []⟩,
          ⟨(some 40), .load (some 2) (.tmp 39), none, .seq, [], []⟩,
          ⟨(some 13), .alloc [(.int .i64 0), (.int .i64 0)], none, .seq, [], []⟩,
          ⟨none, .store 2 (.tmp 13) (.tmp 40), none, .seq, [], []⟩])
        (.region [⟨(some 41), .move (.tmp 11), none, .seq, [], []⟩,
         ⟨(some 42), .fieldAddr 0 (.tmp 13), none, .seq, [], []⟩,
         ⟨(some 43), .load none (.tmp 42), none, .seq, [], []⟩,
         ⟨(some 44), .buildSlice 1 [(.int .i64 0)] 1 [(0, (.tmp 43))], none, .seq, [], []⟩,
         ⟨(some 45), .append 1 8 (.tmp 41) (.tmp 44), none, .seq, [], []⟩,
         ⟨(some 11), .move (.tmp 45), none, .seq, [], []⟩])))
      (.region [⟨(some 46), .bin .add (.tmp 37) (.const (.int .i64 1)), none, .seq, [], []⟩,
       ⟨(some 37), .move (.tmp 46), none, .seq, [], []⟩]))))))))
  (.seq (.region [⟨(some 47), .move (.tmp 11), none, .seq, [], []⟩,
    ⟨(some 48), .call 52 [(.tmp 47)], none, .seq, [], []⟩])
  (.seq (.region [⟨(some 49), .makeFunc 57 [] [(.tmp 4), (.tmp 3), (.tmp 5)], none, .seq, [], []⟩,
    ⟨(some 14), .move (.tmp 49), none, .seq, [], []⟩])
  (.seq (.region [⟨(some 50), .move (.tmp 11), none, .seq, [], []⟩,
    ⟨(some 51), .move (.tmp 14), none, .seq, [], []⟩,
    ⟨(some 52), .call 58 [(.tmp 50), (.tmp 51)], none, .seq, [], []⟩,
    ⟨(some 15), .move (.tmp 52), none, .seq, [], []⟩])
  (.seq (.seq (.region [⟨(some 53), .move (.tmp 15), none, .seq, [], []⟩,
     ⟨(some 54), .bin .lss (.tmp 53) (.const (.int .i64 0)), none, .seq, [], []⟩])
   (.cond (.tmp 54)
    (.seq (.region [⟨(some 6), .move (.const (.int .i64 0)), none, .seq, [], []⟩,
      ⟨(some 7), .move (.const (.int .i64 5)), none, .seq, [], []⟩])
    .ret)
    .skip))
  (.seq (.region [⟨(some 55), .move (.tmp 11), none, .seq, [], []⟩,
    ⟨(some 56), .move (.tmp 15), none, .seq, [], []⟩,
    ⟨(some 57), .indexAddr none 1 (.tmp 55) (.tmp 56), none, .seq, [], []⟩,
    ⟨(some 58), .load none (.tmp 57), none, .seq, [], []⟩,
    ⟨(some 6), .move (.tmp 58), none, .seq, [], []⟩,
    ⟨(some 7), .move (.const (.int .i64 0)), none, .seq, [], []⟩])
  .ret)))))))))))⟩

/-- forecourt/pole.Force -/
def f38 : AFunc := ⟨4, [.tmp 8, .tmp 9],
  (.seq (.region [⟨(some 4), .box (.tmp 0), none, .seq, [], []⟩,
    ⟨(some 8), .move (.const (.slice none 0 0)), none, .seq, [], []⟩,
    ⟨(some 9), .move (.const (.int .i64 0)), none, .seq, [], []⟩])
  (.seq (.region [⟨(some 13), .load (some 2) (.tmp 4), none, .seq, [], []⟩,
    ⟨(some 14), .call 32 [(.tmp 13)], none, .seq, [], []⟩,
    ⟨(some 10), .move (.tmp 14), none, .seq, [], []⟩])
  (.seq (.block 0
    (.seq (.region [⟨(some 16), .move (.tmp 10), none, .seq, [], []⟩,
      ⟨(some 17), .bin .neq (.tmp 16) (.const (.int .i64 0)), none, .seq, [], []⟩,
      ⟨(some 15), .move (.tmp 17), none, .seq, [], []⟩])
    (.cond (.tmp 15)
     (.seq (.region [⟨(some 18), .move (.tmp 10), none, .seq, [], []⟩,
       ⟨(some 8), .move (.const (.slice none 0 0)), none, .seq, [], []⟩,
       ⟨(some 9), .move (.tmp 18), none, .seq, [], []⟩])
     .ret)
     (.seq (.region [⟨(some 20), .move (.tmp 1), none, .seq, [], []⟩,
       ⟨(some 21), .bin .lss (.tmp 20) (.const (.int .i64 0)), none, .seq, [], []⟩,
       ⟨(some 22), .move (.tmp 21), none, .seq, [], []⟩,
       ⟨(some 23), .move (.tmp 1), some (22, false), .seq, [], []⟩,
       ⟨(some 24), .fieldAddr 1 (.tmp 4), some (22, false), .seq, [], []⟩,
       ⟨(some 25), .load none (.tmp 24), some (22, false), .seq, [], []⟩,
       ⟨(some 26), .len .sl (.tmp 25), some (22, false), .seq, [], []⟩,
       ⟨(some 27), .bin .geq (.tmp 23) (.tmp 26), some (22, false), .seq, [], []⟩,
       ⟨(some 28), .pick (.tmp 22) (.const (.bool true)) (.tmp 27), none, .seq, [], []⟩,
       ⟨(some 29), .move (.tmp 28), none, .seq, [], []⟩,
       ⟨(some 30), .move (.tmp 2), some (29, false), .seq, [], []⟩,
       ⟨(some 31), .bin .lss (.tmp 30) (.const (.int .i64 0)), some (29, false), .seq, [], []⟩,
       ⟨(some 32), .pick (.tmp 29) (.const (.bool true)) (.tmp 31), none, .seq, [], []⟩,
       ⟨(some 33), .move (.tmp 32), none, .seq, [], []⟩,
       ⟨(some 34), .move (.tmp 2), some (33, false), .seq, [], []⟩,
       ⟨(some 35), .fieldAddr 1 (.tmp 4), some (33, false), .seq, [], []⟩,
       ⟨(some 36), .load none (.tmp 35), some (33, false), .seq, [], []⟩,
       ⟨(some 37), .indexAddr none 1 (.tmp 36) (.const (.int .i64 0)), some (33, false), .seq, [], []⟩,
       ⟨(some 38), .load none (.tmp 37), some (33, false), .seq, [], []⟩,
       ⟨(some 39), .len .sl (.tmp 38), some (33, false), .seq, [], []⟩,
       ⟨(some 40), .bin .geq (.tmp 34) (.tmp 39), some (33, false), .seq, [], []⟩,
       ⟨(some 41), .pick (.tmp 33) (.const (.bool true)) (.tmp 40), none, .seq, [], []⟩,
       ⟨(some 19), .move (.tmp 41), none, .seq, [], []⟩])
     (.cond (.tmp 19)
      (.seq (.region [⟨(some 8), .move (.const (.slice none 0 0)), none, .seq, [], []⟩,
        ⟨(some 9), .move (.const (.int .i64 3)), none, .seq, [], []⟩])
      .ret)
      (.seq (.region [⟨(some 43), .fieldAddr 1 (.tmp 4), none, .still, [], []⟩,
        ⟨(some 44), .load none (.tmp 43), none, .rd, [], []⟩,
        ⟨(some 45), .move (.tmp 1), none, .still, [], []⟩,
        ⟨(some 46), .indexAddr none 1 (.tmp 44) (.tmp 45), none, .still, [], []⟩,
        ⟨(some 47), .load none (.tmp 46), none, .rd, [], []⟩,
        ⟨(some 48), .move (.tmp 2), none, .still, [], []⟩,
        ⟨(some 49), .indexAddr none 1 (.tmp 47) (.tmp 48), none, .still, [], []⟩,
        ⟨(some 50), .load none (.tmp 49), none, .rd, [], []⟩,
        ⟨(some 51), .fieldAddr 0 (.tmp 4), none, .still, [], []⟩,
        ⟨(some 52), .load none (.tmp 51), none, .rd, [], []⟩,
        ⟨(some 53), .bin .rem (.tmp 50) (.tmp 52), none, .still, [], []⟩,
        ⟨(some 54), .bin .eql (.tmp 53) (.const (.int .i64 0)), none, .still, [], []⟩,
        ⟨(some 42), .move (.tmp 54), none, .still, [], []⟩])
      (.cond (.tmp 42)
       (.seq (.region [⟨(some 8), .move (.const (.slice none 0 0)), none, .seq, [], []⟩,
         ⟨(some 9), .move (.const (.int .i64 5)), none, .seq, [], []⟩])
       .ret)
       .skip)))))))
  (.seq (.region [⟨(some 55), .load (some 2) (.tmp 4), none, .seq, [], []⟩,
    ⟨(some 56), .call 36 [(.tmp 55)], none, .seq, [], []⟩,
    ⟨(some 11), .move (.tmp 56), none, .seq, [], []⟩])
  (.seq (.region [⟨(some 57), .move (.tmp 1), none, .seq, [], []⟩,
    ⟨(some 58), .fieldAddr 1 (.tmp 4), none, .seq, [], []⟩,
    ⟨(some 59), .load none (.tmp 58), none, .seq, [], []⟩,
    ⟨(some 60), .indexAddr none 1 (.tmp 59) (.const (.int .i64 0)), none, .seq, [], []⟩,
    ⟨(some 61), .load none (.tmp 60), none, .seq, [], []⟩,
    ⟨(some 62), .len .sl (.tmp 61), none, .seq, [], []⟩,
    ⟨(some 63), .bin .mul (.tmp 57) (.tmp 62), none, .seq, [], []⟩,
    ⟨(some 64), .move (.tmp 2), none, .seq, [], []⟩,
    ⟨(some 65), .bin .add (.tmp 63) (.tmp 64), none, .seq, [], []⟩,
    ⟨(some 12), .move (.tmp 65), none, .seq, [], []⟩])
  (.seq (.block 1
    (.loop
     (.keep [3, 11, 12]
      (.seq (.seq (.region [⟨(some 66), .move (.tmp 11), none, .seq, [], []⟩,
         ⟨(some 67), .move (.tmp 12), none, .seq, [], []⟩,
         ⟨(some 68), .call 59 [(.tmp 66), (.tmp 67)], none, .seq, [], []⟩])
       (.cond (.tmp 68)
        .skip
        (.exit 1)))
      (.block 2
       (.region [⟨(some 69), .move (.tmp 11), none, .seq, [], []⟩,
        ⟨(some 70), .move (.tmp 12), none, .seq, [], []⟩,
        ⟨(some 71), .move (.tmp 3), none, .seq, [], []⟩,
        ⟨(some 72), .call 60 [(.tmp 69), (.tmp 70), (.tmp 71)], none, .seq, [], []⟩]))))))
  (.seq (.region [⟨(some 73), .move (.tmp 11), none, .seq, [], []⟩,
    ⟨(some 74), .call 61 [(.tmp 73)], none, .seq, [], []⟩])
  (.seq (.region [⟨(some 75), .move (.tmp 11), none, .seq, [], []⟩,
    ⟨(some 76), .call 62 [(.tmp 75)], none, .seq, [], []⟩,
    ⟨(some 8), .move (.tmp 76), none, .seq, [], []⟩,
    ⟨(some 9), .move (.const (.int .i64 0)), none, .seq, [], []⟩])
  .ret))))))))⟩

/-- slices.ContainsFunc[[]forecourt/api.PolePart,forecourt/api.PolePart] -/
def f39 : AFunc := ⟨2, [.tmp 4],
  (.seq (.region [⟨(some 4), .move (.const (.bool false)), none, .seq, [], []⟩])
  (.seq (.region [⟨(some 5), .move (.tmp 0), none, .seq, [], []⟩,
    ⟨(some 6), .move (.tmp 1), none, .seq, [], []⟩,
    ⟨(some 7), .call 63 [(.tmp 5), (.tmp 6)], none, .seq, [], []⟩,
    ⟨(some 8), .bin .geq (.tmp 7) (.const (.int .i64 0)), none, .seq, [], []⟩,
    ⟨(some 4), .move (.tmp 8), none, .seq, [], []⟩])
  .ret))⟩

/-- forecourt/pole.CheckMix$1 -/
def f40 : AFunc := ⟨2, [.tmp 3],
  (.seq (.region [⟨(some 2), .box (.tmp 0), none, .seq, [], []⟩,
    ⟨(some 3), .move (.const (.bool false)), none, .seq, [], []⟩])
  (.seq (.region [⟨(some 4), .fieldAddr 0 (.tmp 1), none, .seq, [], []⟩,
    ⟨(some 5), .load none (.tmp 4), none, .seq, [], []⟩,
    ⟨(some 6), .fieldAddr 0 (.tmp 2), none, .seq, [], []⟩,
    ⟨(some 7), .load none (.tmp 6), none, .seq, [], []⟩,
    ⟨(some 8), .buildSlice 1 [(.int .i64 0)] 1 [(0, (.tmp 7))], none, .seq, [], []⟩,
    ⟨(some 9), .call 27 [(.const (.int .i64 1)), (.tmp 5), (.tmp 8)], none, .seq, [], []⟩,
    ⟨(some 10), .un .not (.tmp 9), none, .seq, [], []⟩,
    ⟨(some 3), .move (.tmp 10), none, .seq, [], []⟩])
  .ret))⟩

/-- forecourt/pole.copied -/
def f41 : AFunc := ⟨1, [.tmp 2],
  (.seq (.region [⟨(some 2), .move (.const (.slice none 0 0)), none, .seq, [], []⟩])
  (.seq (.region [⟨(some 3), .move (.const (.slice none 0 0)), none, .seq, [], []⟩])
  (.seq (.seq (.region [⟨(some 7), .move (.tmp 0), none, .seq, [], []⟩,
     ⟨(some 8), .len .sl (.tmp 7), none, .seq, [], []⟩,
     ⟨(some 9), .move (.const (.int .i64 0)), none, .seq, [], []⟩])
   (.block 0
    (.loop
     (.keep [3, 7, 8, 9]
      (.seq (.region [⟨(some 10), .bin .lss (.tmp 9) (.tmp 8), none, .seq, [], []⟩])
      (.seq (.cond (.tmp 10)
        .skip
        (.exit 0))
      (.seq (.block 1
        (.seq (.region [⟨(some 11), .indexAddr none 1 (.tmp 7) (.tmp 9), none, .seq, [], []⟩,
          ⟨(some 12), .load none (.tmp 11), none, .seq, [], []⟩,
          ⟨(some 5), .move (.tmp 12), none, .seq, [], []⟩])
        (.seq (.region [⟨(some 13), .move (.tmp 5), none, .seq, [], []⟩,
          ⟨(some 14), .len .sl (.tmp 13), none, .seq, [], []⟩,
          ⟨(some 15), .makeSlice 1 8 [(.int .i64 0)] (.tmp 14) (.tmp 14), none, .seq, [], []⟩,
          ⟨(some 6), .move (.tmp 15), none, .seq, [], []⟩])
        (.seq (.region [⟨(some 16), .move (.tmp 6), none, .seq, [], []⟩,
          ⟨(some 17), .move (.tmp 5), none, .seq, [], []⟩,
          ⟨(some 18), .copy 1 (.tmp 16) (.tmp 17), none, .seq, [], []⟩])
        (.region [⟨(some 19), .move (.tmp 3), none, .seq, [], []⟩,
         ⟨(some 20), .move (.tmp 6), none, .seq, [], []⟩,
         ⟨(some 21), .buildSlice 1 [(.slice none 0 0)] 1 [(0, (.tmp 20))], none, .seq, [], []⟩,
         ⟨(some 22), .append 1 24 (.tmp 19) (.tmp 21), none, .seq, [], []⟩,
         ⟨(some 3), .move (.tmp 22), none, .seq, [], []⟩])))))
      (.region [⟨(some 23), .bin .add (.tmp 9) (.const (.int .i64 1)), none, .seq, [], []⟩,
       ⟨(some 9), .move (.tmp 23), none, .seq, [], []⟩]))))))))
  (.seq (.region [⟨(some 24), .move (.tmp 3), none, .seq, [], []⟩,
    ⟨(some 2), .move (.tmp 24), none, .seq, [], []⟩])
  .ret))))⟩

/-- forecourt/pole.take -/
def f42 : AFunc := ⟨2, [],
  (.seq (.region [⟨(some 3), .box (.tmp 1), none, .seq, [], []⟩])
  (.seq (.region [⟨(some 8), .fieldAddr 1 (.tmp 3), none, .seq, [], []⟩,
    ⟨(some 9), .load none (.tmp 8), none, .seq, [], []⟩,
    ⟨(some 10), .len .sl (.tmp 9), none, .seq, [], []⟩,
    ⟨(some 11), .move (.const (.int .i64 0)), none, .seq, [], []⟩])
  (.block 0
   (.loop
    (.keep [0, 3, 9, 10, 11]
     (.seq (.region [⟨(some 12), .bin .lss (.tmp 11) (.tmp 10), none, .seq, [], []⟩])
     (.seq (.cond (.tmp 12)
       .skip
       (.exit 0))
     (.seq (.block 1
       (.seq (.region [⟨(some 13), .move (.tmp 11), none, .seq, [], []⟩,
         ⟨(some 14), .indexAddr none 1 (.tmp 9) (.tmp 11), none, .seq, [], []⟩,
         ⟨(some 15), .load none (.tmp 14), none, .seq, [], []⟩,
         ⟨(some 4), .move (.tmp 13), none, .seq, [], []⟩,
         ⟨(some 5), .move (.tmp 15), none, .seq, [], []⟩])
       (.seq (.region [⟨(some 16), .move (.tmp 5), none, .seq, [], []⟩,
         ⟨(some 17), .len .sl (.tmp 16), none, .seq, [], []⟩,
         ⟨(some 18), .move (.const (.int .i64 0)), none, .seq, [], []⟩])
       (.block 2
        (.loop
         (.keep [0, 3, 4, 9, 10, 11, 16, 17, 18]
          (.seq (.region [⟨(some 19), .bin .lss (.tmp 18) (.tmp 17), none, .seq, [], []⟩])
          (.seq (.cond (.tmp 19)
            .skip
            (.exit 2))
          (.seq (.block 3
            (.seq (.region [⟨(some 20), .move (.tmp 18), none, .seq, [], []⟩,
              ⟨(some 21), .indexAddr none 1 (.tmp 16) (.tmp 18), none, .seq, [], []⟩,
              ⟨(some 22), .load none (.tmp 21), none, .seq, [], []⟩,
              ⟨(some 6), .move (.tmp 20), none, .seq, [], []⟩,
              ⟨(some 7), .move (.tmp 22), none, .seq, [], []⟩])
            (.region [⟨(some 23), .move (.tmp 0), none, .still, [], []⟩,
             ⟨(some 24), .move (.tmp 4), none, .still, [], []⟩,
             ⟨(some 25), .indexAddr none 1 (.tmp 23) (.tmp 24), none, .still, [], []⟩,
             ⟨(some 26), .load none (.tmp 25), none, .rd, [], []⟩,
             ⟨(some 27), .move (.tmp 6), none, .still, [], []⟩,
             ⟨(some 28), .indexAddr none 1 (.tmp 26) (.tmp 27), none, .still, [], []⟩,
             ⟨(some 29), .load none (.tmp 28), none, .rd, [], []⟩,
             ⟨(some 30), .fieldAddr 0 (.tmp 3), none, .still, [], []⟩,
             ⟨(some 31), .load none (.tmp 30), none, .rd, [], []⟩,
             ⟨(some 32), .move (.tmp 7), none, .still, [], []⟩,
             ⟨(some 33), .bin .mul (.tmp 31) (.tmp 32), none, .still, [], []⟩,
             ⟨(some 34), .bin .sub (.tmp 29) (.tmp 33), none, .still, [], []⟩,
             ⟨(some 35), .indexAddr none 1 (.tmp 26) (.tmp 27), none, .still, [], []⟩,
             ⟨none, .store 1 (.tmp 35) (.tmp 34), none, .seq, [], []⟩])))
          (.region [⟨(some 36), .bin .add (.tmp 18) (.const (.int .i64 1)), none, .seq, [], []⟩,
           ⟨(some 18), .move (.tmp 36), none, .seq, [], []⟩]))))))))))
     (.region [⟨(some 37), .bin .add (.tmp 11) (.const (.int .i64 1)), none, .seq, [], []⟩,
      ⟨(some 11), .move (.tmp 37), none, .seq, [], []⟩])))))))))⟩

/-- forecourt/pole.CheckMix$2 -/
def f43 : AFunc := ⟨1, [.tmp 2],
  (.seq (.region [⟨(some 2), .move (.const (.bool false)), none, .seq, [], []⟩])
  (.seq (.region [⟨(some 3), .move (.tmp 0), none, .seq, [], []⟩,
    ⟨(some 4), .call 27 [(.const (.int .i64 0)), (.const (.int .i64 0)), (.tmp 3)], none, .seq, [], []⟩,
    ⟨(some 5), .un .not (.tmp 4), none, .seq, [], []⟩,
    ⟨(some 2), .move (.tmp 5), none, .seq, [], []⟩])
  .ret))⟩

/-- forecourt/pole.round -/
def f44 : AFunc := ⟨1, [.tmp 2],
  (.seq (.region [⟨(some 1), .box (.tmp 0), none, .seq, [], []⟩,
    ⟨(some 2), .move (.const (.slice none 0 0)), none, .seq, [], []⟩])
  (.seq (.region [⟨(some 4), .load (some 2) (.tmp 1), none, .seq, [], []⟩,
    ⟨(some 5), .call 36 [(.tmp 4)], none, .seq, [], []⟩,
    ⟨(some 3), .move (.tmp 5), none, .seq, [], []⟩])
  (.seq (.region [⟨(some 6), .move (.tmp 3), none, .seq, [], []⟩,
    ⟨(some 7), .call 61 [(.tmp 6)], none, .seq, [], []⟩])
  (.seq (.region [⟨(some 8), .move (.tmp 3), none, .seq, [], []⟩,
    ⟨(some 9), .call 62 [(.tmp 8)], none, .seq, [], []⟩,
    ⟨(some 2), .move (.tmp 9), none, .seq, [], []⟩])
  .ret))))⟩

/-- forecourt/forecourtref09.Shaped -/
def f45 : AFunc := ⟨2, [.tmp 4],
  (.seq (.region [⟨(some 2), .box (.tmp 0), none, .seq, [], []⟩,
    ⟨(some 4), .move (.const (.bool false)), none, .seq, [], []⟩])
  (.seq (.seq (.region [⟨(some 6), .move (.tmp 1), none, .seq, [], []⟩,
     ⟨(some 7), .len .sl (.tmp 6), none, .seq, [], []⟩,
     ⟨(some 8), .fieldAddr 1 (.tmp 2), none, .seq, [], []⟩,
     ⟨(some 9), .load none (.tmp 8), none, .seq, [], []⟩,
     ⟨(some 10), .len .sl (.tmp 9), none, .seq, [], []⟩,
     ⟨(some 11), .bin .neq (.tmp 7) (.tmp 10), none, .seq, [], []⟩])
   (.cond (.tmp 11)
    (.seq (.region [⟨(some 4), .move (.const (.bool false)), none, .seq, [], []⟩])
    .ret)
    .skip))
  (.seq (.seq (.region [⟨(some 5), .move (.const (.int .i64 0)), none, .seq, [], []⟩])
   (.block 0
    (.loop
     (.keep [1, 2, 5]
      (.seq (.seq (.region [⟨(some 12), .move (.tmp 5), none, .seq, [], []⟩,
         ⟨(some 13), .move (.tmp 1), none, .seq, [], []⟩,
         ⟨(some 14), .len .sl (.tmp 13), none, .seq, [], []⟩,
         ⟨(some 15), .bin .lss (.tmp 12) (.tmp 14), none, .seq, [], []⟩])
       (.cond (.tmp 15)
        .skip
        (.exit 0)))
      (.seq (.block 1
        (.seq (.region [⟨(some 18), .move (.tmp 1), none, .still, [], []⟩,
          ⟨(some 19), .move (.tmp 5), none, .still, [], []⟩,
          ⟨(some 20), .indexAddr none 1 (.tmp 18) (.tmp 19), none, .still, [], []⟩,
          ⟨(some 21), .load none (.tmp 20), none, .rd, [], []⟩,
          ⟨(some 22), .len .sl (.tmp 21), none, .still, [], []⟩,
          ⟨(some 23), .fieldAddr 1 (.tmp 2), none, .still, [], []⟩,
          ⟨(some 24), .load none (.tmp 23), none, .rd, [], []⟩,
          ⟨(some 25), .indexAddr none 1 (.tmp 24) (.const (.int .i64 0)), none, .still, [], []⟩,
          ⟨(some 26), .load none (.tmp 25), none, .rd, [], []⟩,
          ⟨(some 27), .len .sl (.tmp 26), none, .still, [], []⟩,
          ⟨(some 28), .bin .neq (.tmp 22) (.tmp 27), none, .still, [], []⟩])
        (.cond (.tmp 28)
         (.seq (.region [⟨(some 4), .move (.const (.bool false)), none, .seq, [], []⟩])
         .ret)
         .skip)))
      (.region [⟨(some 16), .move (.tmp 5), none, .seq, [], []⟩,
       ⟨(some 17), .bin .add (.tmp 16) (.const (.int .i64 1)), none, .seq, [], []⟩,
       ⟨(some 5), .move (.tmp 17), none, .seq, [], []⟩])))))))
  (.seq (.region [⟨(some 4), .move (.const (.bool true)), none, .seq, [], []⟩])
  .ret))))⟩

/-- slices.ContainsFunc[[]forecourt/api.PolePrice,forecourt/api.PolePrice] -/
def f46 : AFunc := ⟨2, [.tmp 4],
  (.seq (.region [⟨(some 4), .move (.const (.bool false)), none, .seq, [], []⟩])
  (.seq (.region [⟨(some 5), .move (.tmp 0), none, .seq, [], []⟩,
    ⟨(some 6), .move (.tmp 1), none, .seq, [], []⟩,
    ⟨(some 7), .call 64 [(.tmp 5), (.tmp 6)], none, .seq, [], []⟩,
    ⟨(some 8), .bin .geq (.tmp 7) (.const (.int .i64 0)), none, .seq, [], []⟩,
    ⟨(some 4), .move (.tmp 8), none, .seq, [], []⟩])
  .ret))⟩

/-- forecourt/pole.CheckSign$1 -/
def f47 : AFunc := ⟨1, [.tmp 2],
  (.seq (.region [⟨(some 1), .box (.tmp 0), none, .seq, [], []⟩,
    ⟨(some 2), .move (.const (.bool false)), none, .seq, [], []⟩])
  (.seq (.region [⟨(some 3), .fieldAddr 1 (.tmp 1), none, .seq, [], []⟩,
    ⟨(some 4), .load none (.tmp 3), none, .seq, [], []⟩,
    ⟨(some 5), .buildSlice 1 [(.int .i64 0)] 1 [(0, (.tmp 4))], none, .seq, [], []⟩,
    ⟨(some 6), .call 27 [(.const (.int .i64 1)), (.const (.int .i64 100000)), (.tmp 5)], none, .seq, [], []⟩,
    ⟨(some 7), .un .not (.tmp 6), none, .seq, [], []⟩,
    ⟨(some 2), .move (.tmp 7), none, .seq, [], []⟩])
  .ret))⟩

/-- slices.ContainsFunc[[]int64,int64] -/
def f48 : AFunc := ⟨2, [.tmp 4],
  (.seq (.region [⟨(some 4), .move (.const (.bool false)), none, .seq, [], []⟩])
  (.seq (.region [⟨(some 5), .move (.tmp 0), none, .seq, [], []⟩,
    ⟨(some 6), .move (.tmp 1), none, .seq, [], []⟩,
    ⟨(some 7), .call 58 [(.tmp 5), (.tmp 6)], none, .seq, [], []⟩,
    ⟨(some 8), .bin .geq (.tmp 7) (.const (.int .i64 0)), none, .seq, [], []⟩,
    ⟨(some 4), .move (.tmp 8), none, .seq, [], []⟩])
  .ret))⟩

/-- forecourt/pole.within$1 -/
def f49 : AFunc := ⟨3, [.tmp 4],
  (.seq (.region [⟨(some 4), .move (.const (.bool false)), none, .seq, [], []⟩])
  (.seq (.region [⟨(some 5), .move (.tmp 0), none, .seq, [], []⟩,
    ⟨(some 6), .load none (.tmp 1), none, .seq, [], []⟩,
    ⟨(some 7), .bin .lss (.tmp 5) (.tmp 6), none, .seq, [], []⟩,
    ⟨(some 8), .move (.tmp 7), none, .seq, [], []⟩,
    ⟨(some 9), .move (.tmp 0), some (8, false), .seq, [], []⟩,
    ⟨(some 10), .load none (.tmp 2), some (8, false), .seq, [], []⟩,
    ⟨(some 11), .bin .gtr (.tmp 9) (.tmp 10), some (8, false), .seq, [], []⟩,
    ⟨(some 12), .pick (.tmp 8) (.const (.bool true)) (.tmp 11), none, .seq, [], []⟩,
    ⟨(some 4), .move (.tmp 12), none, .seq, [], []⟩])
  .ret))⟩

/-- forecourt/pole.least[forecourt/api.PolePrice] -/
def f50 : AFunc := ⟨2, [.cell 4 (some 2)],
  (.seq (.region [⟨(some 4), .alloc [(.int .i64 0), (.int .i64 0)], none, .seq, [], []⟩])
  (.seq (.region [⟨(some 8), .move (.tmp 0), none, .seq, [], []⟩,
    ⟨(some 9), .indexAddr none 2 (.tmp 8) (.const (.int .i64 0)), none, .seq, [], []⟩,
    ⟨(some 10), .load (some 2) (.tmp 9), none, .seq, [], []⟩,
    ⟨(some 5), .alloc [(.int .i64 0), (.int .i64 0)], none, .seq, [], []⟩,
    ⟨none, .store 2 (.tmp 5) (.tmp 10), none, .seq, [], []⟩])
  (.seq (.seq (.region [⟨(some 11), .move (.tmp 0), none, .seq, [], []⟩,
     ⟨(some 12), .slice (.sl 2) (.tmp 11) (some (.const (.int .i64 1))) none none, none, .seq, [], []⟩,
     ⟨(some 13), .len .sl (.tmp 12), none, .seq, [], []⟩,
     ⟨(some 14), .move (.const (.int .i64 0)), none, .seq, [], []⟩])
   (.block 0
    (.loop
     (.keep [1, 4, 5, 12, 13, 14]
      (.seq (.region [⟨(some 15), .bin .lss (.tmp 14) (.tmp 13), none, .seq, [], []⟩])
      (.seq (.cond (.tmp 15)
        .skip
        (.exit 0))
      (.seq (.block 1
        (.seq (.region [⟨(some 16), .indexAddr none 2 (.tmp 12) (.tmp 14), none, .seq, [], []⟩,
          ⟨(some 17), .load (some 2) (.tmp 16), none, .seq, [], []⟩,
          ⟨(some 7), .alloc [(.int .i64 0), (.int .i64 0)], none, .seq, [], []⟩,
          ⟨none, .store 2 (.tmp 7) (.tmp 17), none, .seq, [], []⟩])
        (.seq (.region [⟨(some 18), .move (.tmp 1), none, .still, [], []⟩,
          ⟨(some 19), .load (some 2) (.tmp 7), none, .rd, [], []⟩,
          ⟨(some 20), .callv (.tmp 18) [(.tmp 19)], none, .ro, [], []⟩,
          ⟨(some 21), .move (.tmp 1), none, .still, [], []⟩,
          ⟨(some 22), .load (some 2) (.tmp 5), none, .rd, [1], []⟩,
          ⟨(some 23), .callv (.tmp 21) [(.tmp 22)], none, .seq, [], []⟩,
          ⟨(some 24), .bin .lss (.tmp 20) (.tmp 23), none, .still, [], []⟩])
        (.cond (.tmp 24)
         (.region [⟨(some 25), .load (some 2) (.tmp 7), none, .seq, [], []⟩,
          ⟨none, .store 2 (.tmp 5) (.tmp 25), none, .seq, [], []⟩])
         .skip))))
      (.region [⟨(some 26), .bin .add (.tmp 14) (.const (.int .i64 1)), none, .seq, [], []⟩,
       ⟨(some 14), .move (.tmp 26), none, .seq, [], []⟩]))))))))
  (.seq (.region [⟨(some 27), .load (some 2) (.tmp 5), none, .seq, [], []⟩,
    ⟨none, .store 2 (.tmp 4) (.tmp 27), none, .seq, [], []⟩])
  .ret))))⟩

/-- forecourt/pole.fair$1 -/
def f51 : AFunc := ⟨1, [.tmp 2],
  (.seq (.region [⟨(some 1), .box (.tmp 0), none, .seq, [], []⟩,
    ⟨(some 2), .move (.const (.int .i64 0)), none, .seq, [], []⟩])
  (.seq (.region [⟨(some 3), .fieldAddr 1 (.tmp 1), none, .seq, [], []⟩,
    ⟨(some 4), .load none (.tmp 3), none, .seq, [], []⟩,
    ⟨(some 2), .move (.tmp 4), none, .seq, [], []⟩])
  .ret))⟩

/-- slices.Sort[[]int64,int64] -/
def f52 : AFunc := ⟨1, [],
  (.seq (.region [⟨(some 3), .move (.tmp 0), none, .seq, [], []⟩,
    ⟨(some 4), .len .sl (.tmp 3), none, .seq, [], []⟩,
    ⟨(some 2), .move (.tmp 4), none, .seq, [], []⟩])
  (.region [⟨(some 5), .move (.tmp 0), none, .seq, [], []⟩,
   ⟨(some 6), .move (.tmp 2), none, .seq, [], []⟩,
   ⟨(some 7), .move (.tmp 2), none, .seq, [], []⟩,
   ⟨(some 8), .convInt .u64 (.tmp 7), none, .seq, [], []⟩,
   ⟨(some 9), .call 66 [(.tmp 8)], none, .seq, [], []⟩,
   ⟨(some 10), .call 65 [(.tmp 5), (.const (.int .i64 0)), (.tmp 6), (.tmp 9)], none, .seq, [], []⟩]))⟩

/-- slices.Compact[[]int64,int64] -/
def f53 : AFunc := ⟨1, [.tmp 2],
  (.seq (.region [⟨(some 2), .move (.const (.slice none 0 0)), none, .seq, [], []⟩])
  (.seq (.seq (.region [⟨(some 6), .move (.tmp 0), none, .seq, [], []⟩,
     ⟨(some 7), .len .sl (.tmp 6), none, .seq, [], []⟩,
     ⟨(some 8), .bin .lss (.tmp 7) (.const (.int .i64 2)), none, .seq, [], []⟩])
   (.cond (.tmp 8)
    (.seq (.region [⟨(some 9), .move (.tmp 0), none, .seq, [], []⟩,
      ⟨(some 2), .move (.tmp 9), none, .seq, [], []⟩])
    .ret)
    .skip))
  (.seq (.seq (.region [⟨(some 3), .move (.const (.int .i64 1)), none, .seq, [], []⟩])
   (.block 0
    (.loop
     (.keep [0, 3]
      (.seq (.seq (.region [⟨(some 10), .move (.tmp 3), none, .seq, [], []⟩,
         ⟨(some 11), .move (.tmp 0), none, .seq, [], []⟩,
         ⟨(some 12), .len .sl (.tmp 11), none, .seq, [], []⟩,
         ⟨(some 13), .bin .lss (.tmp 10) (.tmp 12), none, .seq, [], []⟩])
       (.cond (.tmp 13)
        .skip
        (.exit 0)))
      (.seq (.block 1
        (.seq (.region [⟨(some 16), .move (.tmp 0), none, .still, [], []⟩,
          ⟨(some 17), .move (.tmp 3), none, .still, [], []⟩,
          ⟨(some 18), .indexAddr none 1 (.tmp 16) (.tmp 17), none, .still, [], []⟩,
          ⟨(some 19), .load none (.tmp 18), none, .rd, [], []⟩,
          ⟨(some 20), .move (.tmp 0), none, .still, [], []⟩,
          ⟨(some 21), .move (.tmp 3), none, .still, [], []⟩,
          ⟨(some 22), .bin .sub (.tmp 21) (.const (.int .i64 1)), none, .still, [], []⟩,
          ⟨(some 23), .indexAddr none 1 (.tmp 20) (.tmp 22), none, .still, [], []⟩,
          ⟨(some 24), .load none (.tmp 23), none, .rd, [], []⟩,
          ⟨(some 25), .bin .eql (.tmp 19) (.tmp 24), none, .still, [], []⟩])
        (.cond (.tmp 25)
         (.seq (.region [⟨(some 26), .move (.tmp 0), none, .seq, [], []⟩,
           ⟨(some 27), .move (.tmp 3), none, .seq, [], []⟩,
           ⟨(some 28), .slice (.sl 1) (.tmp 26) (some (.tmp 27)) none none, none, .seq, [], []⟩,
           ⟨(some 4), .move (.tmp 28), none, .seq, [], []⟩])
         (.seq (.seq (.region [⟨(some 5), .move (.const (.int .i64 1)), none, .seq, [], []⟩])
          (.block 2
           (.loop
            (.keep [0, 3, 4, 5]
             (.seq (.seq (.region [⟨(some 29), .move (.tmp 5), none, .seq, [], []⟩,
                ⟨(some 30), .move (.tmp 4), none, .seq, [], []⟩,
                ⟨(some 31), .len .sl (.tmp 30), none, .seq, [], []⟩,
                ⟨(some 32), .bin .lss (.tmp 29) (.tmp 31), none, .seq, [], []⟩])
              (.cond (.tmp 32)
               .skip
               (.exit 2)))
             (.seq (.block 3
               (.seq (.region [⟨(some 35), .move (.tmp 4), none, .still, [], []⟩,
                 ⟨(some 36), .move (.tmp 5), none, .still, [], []⟩,
                 ⟨(some 37), .indexAddr none 1 (.tmp 35) (.tmp 36), none, .still, [], []⟩,
                 ⟨(some 38), .load none (.tmp 37), none, .rd, [], []⟩,
                 ⟨(some 39), .move (.tmp 4), none, .still, [], []⟩,
                 ⟨(some 40), .move (.tmp 5), none, .still, [], []⟩,
                 ⟨(some 41), .bin .sub (.tmp 40) (.const (.int .i64 1)), none, .still, [], []⟩,
                 ⟨(some 42), .indexAddr none 1 (.tmp 39) (.tmp 41), none, .still, [], []⟩,
                 ⟨(some 43), .load none (.tmp 42), none, .rd, [], []⟩,
                 ⟨(some 44), .bin .neq (.tmp 38) (.tmp 43), none, .still, [], []⟩])
               (.cond (.tmp 44)
                (.seq (.region [⟨(some 45), .move (.tmp 0), none, .seq, [], []⟩,
                  ⟨(some 46), .move (.tmp 3), none, .seq, [], []⟩,
                  ⟨(some 47), .move (.tmp 4), none, .seq, [], []⟩,
                  ⟨(some 48), .move (.tmp 5), none, .seq, [], []⟩,
                  ⟨(some 49), .indexAddr none 1 (.tmp 47) (.tmp 48), none, .seq, [], []⟩,
                  ⟨(some 50), .load none (.tmp 49), none, .seq, [], []⟩,
                  ⟨(some 51), .indexAddr none 1 (.tmp 45) (.tmp 46), none, .seq, [], []⟩,
                  ⟨none, .store 1 (.tmp 51) (.tmp 50), none, .seq, [], []⟩])
                (.region [⟨(some 52), .move (.tmp 3), none, .seq, [], []⟩,
                 ⟨(some 53), .bin .add (.tmp 52) (.const (.int .i64 1)), none, .seq, [], []⟩,
                 ⟨(some 3), .move (.tmp 53), none, .seq, [], []⟩]))
                .skip)))
             (.region [⟨(some 33), .move (.tmp 5), none, .seq, [], []⟩,
              ⟨(some 34), .bin .add (.tmp 33) (.const (.int .i64 1)), none, .seq, [], []⟩,
              ⟨(some 5), .move (.tmp 34), none, .seq, [], []⟩])))))))
         (.seq (.region [⟨(some 54), .move (.tmp 0), none, .seq, [], []⟩,
           ⟨(some 55), .move (.tmp 3), none, .seq, [], []⟩,
           ⟨(some 56), .slice (.sl 1) (.tmp 54) (some (.tmp 55)) none none, none, .seq, [], []⟩,
           ⟨none, .clearSlice [(.int .i64 0)] (.tmp 56), none, .seq, [], []⟩])
         (.seq (.region [⟨(some 57), .move (.tmp 0), none, .seq, [], []⟩,
           ⟨(some 58), .move (.tmp 3), none, .seq, [], []⟩,
           ⟨(some 59), .slice (.sl 1) (.tmp 57) none (some (.tmp 58)) none, none, .seq, [], []⟩,
           ⟨(some 2), .move (.tmp 59), none, .seq, [], []⟩])
         .ret))))
         .skip)))
      (.region [⟨(some 14), .move (.tmp 3), none, .seq, [], []⟩,
       ⟨(some 15), .bin .add (.tmp 14) (.const (.int .i64 1)), none, .seq, [], []⟩,
       ⟨(some 3), .move (.tmp 15), none, .seq, [], []⟩])))))))
  (.seq (.region [⟨(some 60), .move (.tmp 0), none, .seq, [], []⟩,
    ⟨(some 2), .move (.tmp 60), none, .seq, [], []⟩])
  .ret))))⟩

/-- forecourt/pole.CheckTable$1 -/
def f54 : AFunc := ⟨2, [.tmp 3],
  (.seq (.region [⟨(some 3), .move (.const (.bool false)), none, .seq, [], []⟩])
  (.seq (.region [⟨(some 4), .move (.tmp 0), none, .seq, [], []⟩,
    ⟨(some 5), .len .sl (.tmp 4), none, .seq, [], []⟩,
    ⟨(some 6), .fieldAddr 1 (.tmp 1), none, .seq, [], []⟩,
    ⟨(some 7), .load none (.tmp 6), none, .seq, [], []⟩,
    ⟨(some 8), .indexAddr none 1 (.tmp 7) (.const (.int .i64 0)), none, .seq, [], []⟩,
    ⟨(some 9), .load none (.tmp 8), none, .seq, [], []⟩,
    ⟨(some 10), .len .sl (.tmp 9), none, .seq, [], []⟩,
    ⟨(some 11), .bin .neq (.tmp 5) (.tmp 10), none, .seq, [], []⟩,
    ⟨(some 3), .move (.tmp 11), none, .seq, [], []⟩])
  .ret))⟩

/-- forecourt/pole.CheckTable$2 -/
def f55 : AFunc := ⟨1, [.tmp 2],
  (.seq (.region [⟨(some 2), .move (.const (.bool false)), none, .seq, [], []⟩])
  (.seq (.region [⟨(some 3), .move (.tmp 0), none, .seq, [], []⟩,
    ⟨(some 4), .call 27 [(.const (.int .i64 0)), (.const (.int .i64 1000000)), (.tmp 3)], none, .seq, [], []⟩,
    ⟨(some 5), .un .not (.tmp 4), none, .seq, [], []⟩,
    ⟨(some 2), .move (.tmp 5), none, .seq, [], []⟩])
  .ret))⟩

/-- slices.IndexFunc[[][]int64,[]int64] -/
def f56 : AFunc := ⟨2, [.tmp 4],
  (.seq (.region [⟨(some 4), .move (.const (.int .i64 0)), none, .seq, [], []⟩])
  (.seq (.seq (.region [⟨(some 6), .move (.tmp 0), none, .seq, [], []⟩,
     ⟨(some 7), .len .sl (.tmp 6), none, .seq, [], []⟩,
     ⟨(some 8), .move (.const (.int .i64 0)), none, .seq, [], []⟩])
   (.block 0
    (.loop
     (.keep [0, 1, 7, 8]
      (.seq (.region [⟨(some 9), .bin .lss (.tmp 8) (.tmp 7), none, .seq, [], []⟩])
      (.seq (.cond (.tmp 9)
        .skip
        (.exit 0))
      (.seq (.block 1
        (.seq (.region [⟨(some 10), .move (.tmp 8), none, .seq, [], []⟩,
          ⟨(some 5), .move (.tmp 10), none, .seq, [], []⟩])
        (.seq (.region [⟨(some 11), .move (.tmp 1), none, .seq, [], []⟩,
          ⟨(some 12), .move (.tmp 0), none, .seq, [], []⟩,
          ⟨(some 13), .move (.tmp 5), none, .seq, [], []⟩,
          ⟨(some 14), .indexAddr none 1 (.tmp 12) (.tmp 13), none, .seq, [], []⟩,
          ⟨(some 15), .load none (.tmp 14), none, .seq, [], []⟩,
          ⟨(some 16), .callv (.tmp 11) [(.tmp 15)], none, .seq, [], []⟩])
        (.cond (.tmp 16)
         (.seq (.region [⟨(some 17), .move (.tmp 5), none, .seq, [], []⟩,
           ⟨(some 4), .move (.tmp 17), none, .seq, [], []⟩])
         .ret)
         .skip))))
      (.region [⟨(some 18), .bin .add (.tmp 8) (.const (.int .i64 1)), none, .seq, [], []⟩,
       ⟨(some 8), .move (.tmp 18), none, .seq, [], []⟩]))))))))
  (.seq (.region [⟨(some 4), .move (.const (.int .i64 (-1))), none, .seq, [], []⟩])
  .ret)))⟩

/-- forecourt/pole.Cheat$1 -/
def f57 : AFunc := ⟨4, [.tmp 5],
  (.seq (.region [⟨(some 5), .move (.const (.bool false)), none, .seq, [], []⟩])
  (.seq (.region [⟨(some 6), .load none (.tmp 1), none, .rd, [], []⟩,
    ⟨(some 7), .load none (.tmp 1), none, .rd, [], []⟩,
    ⟨(some 8), .move (.tmp 0), none, .still, [], []⟩,
    ⟨(some 9), .call 28 [(.tmp 7), (.tmp 8)], none, .ro, [], []⟩,
    ⟨(some 10), .indexAddr none 2 (.tmp 6) (.tmp 9), none, .still, [], []⟩,
    ⟨(some 11), .fieldAddr 1 (.tmp 10), none, .still, [], []⟩,
    ⟨(some 12), .load none (.tmp 11), none, .rd, [], []⟩,
    ⟨(some 13), .load none (.tmp 2), none, .rd, [3], []⟩,
    ⟨(some 14), .load (some 2) (.tmp 3), none, .rd, [4], []⟩,
    ⟨(some 15), .move (.tmp 0), none, .still, [], []⟩,
    ⟨(some 16), .call 30 [(.tmp 13), (.tmp 14), (.tmp 15)], none, .ro, [], []⟩,
    ⟨(some 17), .bin .gtr (.tmp 12) (.tmp 16), none, .still, [], []⟩,
    ⟨(some 5), .move (.tmp 17), none, .still, [], []⟩])
  .ret))⟩

/-- slices.IndexFunc[[]int64,int64] -/
def f58 : AFunc := ⟨2, [.tmp 4],
  (.seq (.region [⟨(some 4), .move (.const (.int .i64 0)), none, .seq, [], []⟩])
  (.seq (.seq (.region [⟨(some 6), .move (.tmp 0), none, .seq, [], []⟩,
     ⟨(some 7), .len .sl (.tmp 6), none, .seq, [], []⟩,
     ⟨(some 8), .move (.const (.int .i64 0)), none, .seq, [], []⟩])
   (.block 0
    (.loop
     (.keep [0, 1, 7, 8]
      (.seq (.region [⟨(some 9), .bin .lss (.tmp 8) (.tmp 7), none, .seq, [], []⟩])
      (.seq (.cond (.tmp 9)
        .skip
        (.exit 0))
      (.seq (.block 1
        (.seq (.region [⟨(some 10), .move (.tmp 8), none, .seq, [], []⟩,
          ⟨(some 5), .move (.tmp 10), none, .seq, [], []⟩])
        (.seq (.region [⟨(some 11), .move (.tmp 1), none, .seq, [], []⟩,
          ⟨(some 12), .move (.tmp 0), none, .seq, [], []⟩,
          ⟨(some 13), .move (.tmp 5), none, .seq, [], []⟩,
          ⟨(some 14), .indexAddr none 1 (.tmp 12) (.tmp 13), none, .seq, [], []⟩,
          ⟨(some 15), .load none (.tmp 14), none, .seq, [], []⟩,
          ⟨(some 16), .callv (.tmp 11) [(.tmp 15)], none, .seq, [], []⟩])
        (.cond (.tmp 16)
         (.seq (.region [⟨(some 17), .move (.tmp 5), none, .seq, [], []⟩,
           ⟨(some 4), .move (.tmp 17), none, .seq, [], []⟩])
         .ret)
         .skip))))
      (.region [⟨(some 18), .bin .add (.tmp 8) (.const (.int .i64 1)), none, .seq, [], []⟩,
       ⟨(some 8), .move (.tmp 18), none, .seq, [], []⟩]))))))))
  (.seq (.region [⟨(some 4), .move (.const (.int .i64 (-1))), none, .seq, [], []⟩])
  .ret)))⟩

/-- (*forecourt/pole.book).broken -/
def f59 : AFunc := ⟨2, [.tmp 4],
  (.seq (.region [⟨(some 4), .move (.const (.bool false)), none, .seq, [], []⟩])
  (.seq (.region [⟨(some 5), .move (.tmp 0), none, .still, [], []⟩,
    ⟨(some 6), .nilCheck (.tmp 5), none, .still, [], []⟩,
    ⟨(some 7), .fieldAddr 2 (.tmp 6), none, .still, [], []⟩,
    ⟨(some 8), .load none (.tmp 7), none, .rd, [], []⟩,
    ⟨(some 9), .move (.tmp 1), none, .still, [], []⟩,
    ⟨(some 10), .indexAddr none 3 (.tmp 8) (.tmp 9), none, .still, [], []⟩,
    ⟨(some 11), .fieldAddr 2 (.tmp 10), none, .still, [], []⟩,
    ⟨(some 12), .load none (.tmp 11), none, .rd, [], []⟩,
    ⟨(some 13), .move (.tmp 0), none, .still, [], []⟩,
    ⟨(some 14), .nilCheck (.tmp 13), none, .still, [], []⟩,
    ⟨(some 15), .fieldAddr 0 (.tmp 14), none, .still, [], []⟩,
    ⟨(some 16), .fieldAddr 0 (.tmp 15), none, .still, [], []⟩,
    ⟨(some 17), .load none (.tmp 16), none, .rd, [], []⟩,
    ⟨(some 18), .bin .rem (.tmp 12) (.tmp 17), none, .still, [], []⟩,
    ⟨(some 19), .bin .neq (.tmp 18) (.const (.int .i64 0)), none, .still, [], []⟩,
    ⟨(some 4), .move (.tmp 19), none, .still, [], []⟩])
  .ret))⟩

/-- (*forecourt/pole.book).push -/
def f60 : AFunc := ⟨3, [],
  (.seq (.region [⟨(some 3), .box (.tmp 0), none, .seq, [], []⟩,
    ⟨(some 5), .box (.tmp 2), none, .seq, [], []⟩])
  (.seq (.region [⟨(some 12), .move (.tmp 1), none, .still, [], []⟩,
    ⟨(some 13), .load none (.tmp 3), none, .rd, [], []⟩,
    ⟨(some 14), .nilCheck (.tmp 13), none, .still, [], []⟩,
    ⟨(some 15), .fieldAddr 2 (.tmp 14), none, .still, [], []⟩,
    ⟨(some 16), .load none (.tmp 15), none, .rd, [], []⟩,
    ⟨(some 17), .move (.tmp 1), none, .still, [], []⟩,
    ⟨(some 18), .indexAddr none 3 (.tmp 16) (.tmp 17), none, .still, [], []⟩,
    ⟨(some 19), .fieldAddr 0 (.tmp 18), none, .still, [], []⟩,
    ⟨(some 20), .load none (.tmp 19), none, .rd, [], []⟩,
    ⟨(some 21), .load none (.tmp 3), none, .rd, [], []⟩,
    ⟨(some 22), .nilCheck (.tmp 21), none, .still, [], []⟩,
    ⟨(some 23), .fieldAddr 2 (.tmp 22), none, .still, [], []⟩,
    ⟨(some 24), .load none (.tmp 23), none, .rd, [], []⟩,
    ⟨(some 25), .move (.tmp 1), none, .still, [], []⟩,
    ⟨(some 26), .indexAddr none 3 (.tmp 24) (.tmp 25), none, .still, [], []⟩,
    ⟨(some 27), .fieldAddr 1 (.tmp 26), none, .still, [], []⟩,
    ⟨(some 28), .load none (.tmp 27), none, .rd, [], []⟩,
    ⟨(some 29), .build [(.int .i64 0), (.int .i64 0), (.int .i64 0)] (.list [(0, 1), (1, 1), (2, 1)]) [(0, (.tmp 12)), (1, (.tmp 20)), (2, (.tmp 28))], none, .still, [], []⟩,
    ⟨(some 30), .buildSlice 3 [(.int .i64 0), (.int .i64 0), (.int .i64 0)] 1 [(0, (.tmp 29))], none, .mk, [], []⟩,
    ⟨(some 31), .load none (.tmp 3), none, .rd, [0], []⟩,
    ⟨(some 32), .move (.tmp 1), none, .still, [], []⟩,
    ⟨(some 33), .call 67 [(.tmp 31), (.tmp 32)], none, .rw, [2], [19, 16, 12, 11, 8, 4]⟩,
    ⟨(some 34), .append 3 24 (.tmp 30) (.tmp 33), none, .seq, [], []⟩,
    ⟨(some 6), .move (.tmp 34), none, .still, [], []⟩])
  (.seq (.region [⟨(some 35), .makeFunc 68 [] [(.tmp 3), (.tmp 5)], none, .seq, [], []⟩,
    ⟨(some 7), .alloc [.nilFunc], none, .seq, [], []⟩,
    ⟨none, .store 1 (.tmp 7) (.tmp 35), none, .seq, [], []⟩])
  (.seq (.region [⟨(some 36), .move (.tmp 6), none, .seq, [], []⟩,
    ⟨(some 37), .makeFunc 70 [] [(.tmp 3), (.tmp 7)], none, .seq, [], []⟩,
    ⟨(some 38), .call 69 [(.tmp 36), (.tmp 37)], none, .seq, [], []⟩,
    ⟨(some 8), .alloc [(.int .i64 0), (.int .i64 0), (.int .i64 0)], none, .seq, [], []⟩,
    ⟨none, .store 3 (.tmp 8) (.tmp 38), none, .seq, [], []⟩])
  (.seq (.region [⟨(some 39), .load none (.tmp 3), none, .rd, [], []⟩,
    ⟨(some 40), .fieldAddr 0 (.tmp 8), none, .still, [], []⟩,
    ⟨(some 41), .load none (.tmp 40), none, .rd, [], []⟩,
    ⟨(some 42), .load none (.tmp 7), none, .rd, [], []⟩,
    ⟨(some 43), .load (some 3) (.tmp 8), none, .rd, [], []⟩,
    ⟨(some 44), .callv (.tmp 42) [(.tmp 43)], none, .ro, [], []⟩,
    ⟨(some 45), .call 71 [(.tmp 39), (.tmp 41), (.tmp 44)], none, .seq, [], []⟩,
    ⟨(some 9), .move (.tmp 45), none, .still, [], []⟩])
  (.seq (.region [⟨(some 46), .move (.tmp 6), none, .seq, [], []⟩,
    ⟨(some 47), .len .sl (.tmp 46), none, .seq, [], []⟩,
    ⟨(some 48), .move (.const (.int .i64 0)), none, .seq, [], []⟩])
  (.block 0
   (.loop
    (.keep [3, 7, 9, 46, 47, 48]
     (.seq (.region [⟨(some 49), .bin .lss (.tmp 48) (.tmp 47), none, .seq, [], []⟩])
     (.seq (.cond (.tmp 49)
       .skip
       (.exit 0))
     (.seq (.block 1
       (.seq (.region [⟨(some 50), .indexAddr none 3 (.tmp 46) (.tmp 48), none, .seq, [], []⟩,
         ⟨(some 51), .load (some 3) (.tmp 50), none, .seq, [], []⟩,
         ⟨(some 11), .alloc [(.int .i64 0), (.int .i64 0), (.int .i64 0)], none, .seq, [], []⟩,
         ⟨none, .store 3 (.tmp 11) (.tmp 51), none, .seq, [], []⟩])
       (.seq (.region [⟨(some 52), .load none (.tmp 7), none, .seq, [], []⟩,
         ⟨(some 53), .load (some 3) (.tmp 11), none, .seq, [], []⟩,
         ⟨(some 54), .callv (.tmp 52) [(.tmp 53)], none, .seq, [], []⟩])
       (.cond (.tmp 54)
        (.region [⟨(some 55), .load none (.tmp 3), none, .rd, [], []⟩,
         ⟨(some 56), .nilCheck (.tmp 55), none, .still, [], []⟩,
         ⟨(some 57), .fieldAddr 2 (.tmp 56), none, .still, [], []⟩,
         ⟨(some 58), .load none (.tmp 57), none, .rd, [], []⟩,
         ⟨(some 59), .fieldAddr 0 (.tmp 11), none, .still, [], []⟩,
         ⟨(some 60), .load none (.tmp 59), none, .rd, [], []⟩,
         ⟨(some 61), .indexAddr none 3 (.tmp 58) (.tmp 60), none, .still, [], []⟩,
         ⟨(some 62), .fieldAddr 2 (.tmp 61), none, .still, [], []⟩,
         ⟨(some 63), .load none (.tmp 62), none, .seq, [], []⟩,
         ⟨(some 64), .move (.tmp 9), none, .still, [], []⟩,
         ⟨(some 65), .bin .add (.tmp 63) (.tmp 64), none, .still, [], []⟩,
         ⟨(some 66), .indexAddr none 3 (.tmp 58) (.tmp 60), none, .still, [], []⟩,
         ⟨(some 67), .fieldAddr 2 (.tmp 66), none, .still, [], []⟩,
         ⟨none, .store 1 (.tmp 67) (.tmp 65), none, .seq, [], []⟩])
        (.region [⟨(some 68), .load none (.tmp 3), none, .rd, [], []⟩,
         ⟨(some 69), .nilCheck (.tmp 68), none, .still, [], []⟩,
         ⟨(some 70), .fieldAddr 2 (.tmp 69), none, .still, [], []⟩,
         ⟨(some 71), .load none (.tmp 70), none, .rd, [], []⟩,
         ⟨(some 72), .fieldAddr 0 (.tmp 11), none, .still, [], []⟩,
         ⟨(some 73), .load none (.tmp 72), none, .rd, [], []⟩,
         ⟨(some 74), .indexAddr none 3 (.tmp 71) (.tmp 73), none, .still, [], []⟩,
         ⟨(some 75), .fieldAddr 2 (.tmp 74), none, .still, [], []⟩,
         ⟨(some 76), .load none (.tmp 75), none, .seq, [], []⟩,
         ⟨(some 77), .move (.tmp 9), none, .still, [], []⟩,
         ⟨(some 78), .bin .sub (.tmp 76) (.tmp 77), none, .still, [], []⟩,
         ⟨(some 79), .indexAddr none 3 (.tmp 71) (.tmp 73), none, .still, [], []⟩,
         ⟨(some 80), .fieldAddr 2 (.tmp 79), none, .still, [], []⟩,
         ⟨none, .store 1 (.tmp 80) (.tmp 78), none, .seq, [], []⟩])))))
     (.region [⟨(some 81), .bin .add (.tmp 48) (.const (.int .i64 1)), none, .seq, [], []⟩,
      ⟨(some 48), .move (.tmp 81), none, .seq, [], []⟩])))))))))))))⟩

/-- (*forecourt/pole.book).settle -/
def f61 : AFunc := ⟨1, [],
  (.block 0
   (.loop
    (.keep [0]
     (.block 1
      (.seq (.region [⟨(some 2), .alloc [(.int .i64 0), (.int .i64 0), (.int .i64 0), (.int .i64 0), (.int .i64 0), (.int .i64 0), (.int .i64 0), (.int .i64 0), (.int .i64 0), (.int .i64 0), (.int .i64 0), (.int .i64 0), (.int .i64 0), (.int .i64 0)], none, .seq, [], []⟩])
      (.seq (.region [⟨(some 3), .move (.const (.int .i64 (-1))), none, .seq, [], []⟩])
      (.seq (.seq (.region [⟨(some 6), .move (.tmp 0), none, .seq, [], []⟩,
         ⟨(some 7), .nilCheck (.tmp 6), none, .seq, [], []⟩,
         ⟨(some 8), .fieldAddr 2 (.tmp 7), none, .seq, [], []⟩,
         ⟨(some 9), .load none (.tmp 8), none, .seq, [], []⟩,
         ⟨(some 10), .len .sl (.tmp 9), none, .seq, [], []⟩,
         ⟨(some 11), .move (.const (.int .i64 0)), none, .seq, [], []⟩])
       (.block 2
        (.loop
         (.keep [0, 2, 3, 9, 10, 11]
          (.seq (.region [⟨(some 12), .bin .lss (.tmp 11) (.tmp 10), none, .seq, [], []⟩])
          (.seq (.cond (.tmp 12)
            .skip
            (.exit 2))
          (.seq (.block 3
            (.seq (.region [⟨(some 13), .move (.tmp 11), none, .seq, [], []⟩,
              ⟨(some 14), .indexAddr none 3 (.tmp 9) (.tmp 11), none, .seq, [], []⟩,
              ⟨(some 15), .load (some 3) (.tmp 14), none, .seq, [], []⟩,
              ⟨(some 5), .alloc [(.int .i64 0), (.int .i64 0), (.int .i64 0)], none, .seq, [], []⟩,
              ⟨(some 4), .move (.tmp 13), none, .seq, [], []⟩,
              ⟨none, .store 3 (.tmp 5) (.tmp 15), none, .seq, [], []⟩])
            (.seq (.region [⟨(some 16), .move (.tmp 0), none, .seq, [], []⟩,
              ⟨(some 17), .move (.tmp 4), none, .seq, [], []⟩,
              ⟨(some 18), .call 59 [(.tmp 16), (.tmp 17)], none, .seq, [], []⟩])
            (.cond (.tmp 18)
             (.seq (.region [⟨(some 19), .fieldAddr 0 (.tmp 5), none, .seq, [], []⟩,
               ⟨(some 20), .load none (.tmp 19), none, .seq, [], []⟩,
               ⟨(some 21), .indexAddr (some 14) 1 (.tmp 2) (.tmp 20), none, .seq, [], []⟩,
               ⟨(some 22), .load none (.tmp 21), none, .seq, [], []⟩,
               ⟨(some 23), .bin .add (.tmp 22) (.const (.int .i64 1)), none, .seq, [], []⟩,
               ⟨(some 24), .indexAddr (some 14) 1 (.tmp 2) (.tmp 20), none, .seq, [], []⟩,
               ⟨none, .store 1 (.tmp 24) (.tmp 23), none, .seq, [], []⟩])
             (.region [⟨(some 25), .move (.tmp 4), none, .seq, [], []⟩,
              ⟨(some 3), .move (.tmp 25), none, .seq, [], []⟩]))
             .skip))))
          (.region [⟨(some 26), .bin .add (.tmp 11) (.const (.int .i64 1)), none, .seq, [], []⟩,
           ⟨(some 11), .move (.tmp 26), none, .seq, [], []⟩]))))))))
      (.seq (.seq (.region [⟨(some 27), .load (some 14) (.tmp 2), none, .seq, [], []⟩,
         ⟨(some 28), .build [(.int .i64 0), (.int .i64 0), (.int .i64 0), (.int .i64 0), (.int .i64 0), (.int .i64 0), (.int .i64 0), (.int .i64 0), (.int .i64 0), (.int .i64 0), (.int .i64 0), (.int .i64 0), (.int .i64 0), (.int .i64 0)] (.arr 1) [], none, .seq, [], []⟩,
         ⟨(some 29), .eqFlat false [.int, .int, .int, .int, .int, .int, .int, .int, .int, .int, .int, .int, .int, .int] (.tmp 27) (.tmp 28), none, .seq, [], []⟩])
       (.cond (.tmp 29)
        .ret
        .skip))
      (.region [⟨(some 30), .move (.tmp 0), none, .seq, [], []⟩,
       ⟨(some 31), .move (.tmp 3), none, .seq, [], []⟩,
       ⟨(some 32), .call 60 [(.tmp 30), (.tmp 31), (.const (.bool true))], none, .seq, [], []⟩])))))))))⟩

/-- (*forecourt/pole.book).coins -/
def f62 : AFunc := ⟨1, [.tmp 2],
  (.seq (.region [⟨(some 2), .move (.const (.slice none 0 0)), none, .seq, [], []⟩])
  (.seq (.region [⟨(some 3), .move (.const (.slice none 0 0)), none, .seq, [], []⟩])
  (.seq (.region [⟨(some 8), .move (.tmp 0), none, .seq, [], []⟩,
    ⟨(some 9), .nilCheck (.tmp 8), none, .seq, [], []⟩,
    ⟨(some 10), .fieldAddr 0 (.tmp 9), none, .seq, [], []⟩,
    ⟨(some 11), .fieldAddr 1 (.tmp 10), none, .seq, [], []⟩,
    ⟨(some 12), .load none (.tmp 11), none, .seq, [], []⟩,
    ⟨(some 13), .indexAddr none 1 (.tmp 12) (.const (.int .i64 0)), none, .seq, [], []⟩,
    ⟨(some 14), .load none (.tmp 13), none, .seq, [], []⟩,
    ⟨(some 15), .len .sl (.tmp 14), none, .seq, [], []⟩,
    ⟨(some 4), .move (.tmp 15), none, .seq, [], []⟩])
  (.seq (.seq (.region [⟨(some 16), .move (.tmp 0), none, .seq, [], []⟩,
     ⟨(some 17), .nilCheck (.tmp 16), none, .seq, [], []⟩,
     ⟨(some 18), .fieldAddr 0 (.tmp 17), none, .seq, [], []⟩,
     ⟨(some 19), .fieldAddr 1 (.tmp 18), none, .seq, [], []⟩,
     ⟨(some 20), .load none (.tmp 19), none, .seq, [], []⟩,
     ⟨(some 21), .len .sl (.tmp 20), none, .seq, [], []⟩,
     ⟨(some 22), .move (.const (.int .i64 0)), none, .seq, [], []⟩])
   (.block 0
    (.loop
     (.keep [0, 3, 4, 21, 22]
      (.seq (.region [⟨(some 23), .bin .lss (.tmp 22) (.tmp 21), none, .seq, [], []⟩])
      (.seq (.cond (.tmp 23)
        .skip
        (.exit 0))
      (.seq (.block 1
        (.seq (.region [⟨(some 24), .move (.tmp 22), none, .seq, [], []⟩,
          ⟨(some 5), .move (.tmp 24), none, .seq, [], []⟩])
        (.seq (.region [⟨(some 6), .move (.const (.slice none 0 0)), none, .seq, [], []⟩])
        (.seq (.seq (.region [⟨(some 25), .move (.tmp 4), none, .seq, [], []⟩,
           ⟨(some 26), .move (.const (.int .i64 0)), none, .seq, [], []⟩])
         (.block 2
          (.loop
           (.keep [0, 3, 4, 5, 6, 21, 22, 25, 26]
            (.seq (.region [⟨(some 27), .bin .lss (.tmp 26) (.tmp 25), none, .seq, [], []⟩])
            (.seq (.cond (.tmp 27)
              .skip
              (.exit 2))
            (.seq (.block 3
              (.seq (.region [⟨(some 28), .move (.tmp 26), none, .seq, [], []⟩,
                ⟨(some 7), .move (.tmp 28), none, .seq, [], []⟩])
              (.region [⟨(some 29), .move (.tmp 6), none, .still, [], []⟩,
               ⟨(some 30), .move (.tmp 0), none, .still, [], []⟩,
               ⟨(some 31), .nilCheck (.tmp 30), none, .still, [], []⟩,
               ⟨(some 32), .fieldAddr 2 (.tmp 31), none, .still, [], []⟩,
               ⟨(some 33), .load none (.tmp 32), none, .rd, [], []⟩,
               ⟨(some 34), .move (.tmp 5), none, .still, [], []⟩,
               ⟨(some 35), .move (.tmp 4), none, .still, [], []⟩,
               ⟨(some 36), .bin .mul (.tmp 34) (.tmp 35), none, .still, [], []⟩,
               ⟨(some 37), .move (.tmp 7), none, .still, [], []⟩,
               ⟨(some 38), .bin .add (.tmp 36) (.tmp 37), none, .still, [], []⟩,
               ⟨(some 39), .indexAddr none 3 (.tmp 33) (.tmp 38), none, .still, [], []⟩,
               ⟨(some 40), .fieldAddr 2 (.tmp 39), none, .still, [], []⟩,
               ⟨(some 41), .load none (.tmp 40), none, .rd, [], []⟩,
               ⟨(some 42), .move (.tmp 0), none, .still, [], []⟩,
               ⟨(some 43), .nilCheck (.tmp 42), none, .still, [], []⟩,
               ⟨(some 44), .fieldAddr 0 (.tmp 43), none, .still, [], []⟩,
               ⟨(some 45), .fieldAddr 0 (.tmp 44), none, .still, [], []⟩,
               ⟨(some 46), .load none (.tmp 45), none, .rd, [], []⟩,
               ⟨(some 47), .bin .quo (.tmp 41) (.tmp 46), none, .still, [], []⟩,
               ⟨(some 48), .buildSlice 1 [(.int .i64 0)] 1 [(0, (.tmp 47))], none, .seq, [], []⟩,
               ⟨(some 49), .append 1 8 (.tmp 29) (.tmp 48), none, .seq, [], []⟩,
               ⟨(some 6), .move (.tmp 49), none, .still, [], []⟩])))
            (.region [⟨(some 50), .bin .add (.tmp 26) (.const (.int .i64 1)), none, .seq, [], []⟩,
             ⟨(some 26), .move (.tmp 50), none, .seq, [], []⟩]))))))))
        (.region [⟨(some 51), .move (.tmp 3), none, .seq, [], []⟩,
         ⟨(some 52), .move (.tmp 6), none, .seq, [], []⟩,
         ⟨(some 53), .buildSlice 1 [(.slice none 0 0)] 1 [(0, (.tmp 52))], none, .seq, [], []⟩,
         ⟨(some 54), .append 1 24 (.tmp 51) (.tmp 53), none, .seq, [], []⟩,
         ⟨(some 3), .move (.tmp 54), none, .seq, [], []⟩])))))
      (.region [⟨(some 55), .bin .add (.tmp 22) (.const (.int .i64 1)), none, .seq, [], []⟩,
       ⟨(some 22), .move (.tmp 55), none, .seq, [], []⟩]))))))))
  (.seq (.region [⟨(some 56), .move (.tmp 3), none, .seq, [], []⟩,
    ⟨(some 2), .move (.tmp 56), none, .seq, [], []⟩])
  .ret)))))⟩

/-- slices.IndexFunc[[]forecourt/api.PolePart,forecourt/api.PolePart] -/
def f63 : AFunc := ⟨2, [.tmp 4],
  (.seq (.region [⟨(some 4), .move (.const (.int .i64 0)), none, .seq, [], []⟩])
  (.seq (.seq (.region [⟨(some 6), .move (.tmp 0), none, .seq, [], []⟩,
     ⟨(some 7), .len .sl (.tmp 6), none, .seq, [], []⟩,
     ⟨(some 8), .move (.const (.int .i64 0)), none, .seq, [], []⟩])
   (.block 0
    (.loop
     (.keep [0, 1, 7, 8]
      (.seq (.region [⟨(some 9), .bin .lss (.tmp 8) (.tmp 7), none, .seq, [], []⟩])
      (.seq (.cond (.tmp 9)
        .skip
        (.exit 0))
      (.seq (.block 1
        (.seq (.region [⟨(some 10), .move (.tmp 8), none, .seq, [], []⟩,
          ⟨(some 5), .move (.tmp 10), none, .seq, [], []⟩])
        (.seq (.region [⟨(some 11), .move (.tmp 1), none, .seq, [], []⟩,
          ⟨(some 12), .move (.tmp 0), none, .seq, [], []⟩,
          ⟨(some 13), .move (.tmp 5), none, .seq, [], []⟩,
          ⟨(some 14), .indexAddr none 2 (.tmp 12) (.tmp 13), none, .seq, [], []⟩,
          ⟨(some 15), .load (some 2) (.tmp 14), none, .seq, [], []⟩,
          ⟨(some 16), .callv (.tmp 11) [(.tmp 15)], none, .seq, [], []⟩])
        (.cond (.tmp 16)
         (.seq (.region [⟨(some 17), .move (.tmp 5), none, .seq, [], []⟩,
           ⟨(some 4), .move (.tmp 17), none, .seq, [], []⟩])
         .ret)
         .skip))))
      (.region [⟨(some 18), .bin .add (.tmp 8) (.const (.int .i64 1)), none, .seq, [], []⟩,
       ⟨(some 8), .move (.tmp 18), none, .seq, [], []⟩]))))))))
  (.seq (.region [⟨(some 4), .move (.const (.int .i64 (-1))), none, .seq, [], []⟩])
  .ret)))⟩

end Go.Proofs.Ytpomalofnpagbaa.Fn
