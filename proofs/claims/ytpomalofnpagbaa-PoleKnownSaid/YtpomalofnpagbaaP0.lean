/-
  The abstract code of the functions that the laws reach, part 0. Printed by a program (Emit.lean).
-/
import Derived.Test.YtpomalofnpagbaaA1
namespace Go.Proofs.Ytpomalofnpagbaa.Fn
open Go Go.Proofs.Ytpomalofnpagbaa.AI

/-- forecourt/forecourtlaw09.PoleKnown -/
def f3 : AFunc := ⟨0, [.tmp 0],
  (.seq (.region [⟨(some 0), .move (.const (.bool false)), none, .seq, [], []⟩])
  (.seq (.region [⟨(some 16), .call 6 [], none, .seq, [], []⟩,
    ⟨(some 17), .call 7 [], none, .seq, [], []⟩,
    ⟨(some 2), .alloc [(.int .i64 0), (.slice none 0 0)], none, .seq, [], []⟩,
    ⟨(some 1), .move (.tmp 16), none, .seq, [], []⟩,
    ⟨none, .store 2 (.tmp 2) (.tmp 17), none, .seq, [], []⟩])
  (.seq (.region [⟨(some 19), .move (.tmp 1), none, .seq, [], []⟩,
    ⟨(some 20), .call 8 [(.tmp 19), (.const (.int .i64 60))], none, .seq, [], []⟩,
    ⟨(some 18), .move (.tmp 20), none, .seq, [], []⟩,
    ⟨(some 21), .extract (.tmp 18) 0, none, .seq, [], []⟩,
    ⟨(some 22), .extract (.tmp 18) 1, none, .seq, [], []⟩,
    ⟨(some 3), .move (.tmp 21), none, .seq, [], []⟩,
    ⟨(some 4), .move (.tmp 22), none, .seq, [], []⟩])
  (.seq (.region [⟨(some 24), .move (.tmp 1), none, .seq, [], []⟩,
    ⟨(some 25), .call 8 [(.tmp 24), (.const (.int .i64 2000))], none, .seq, [], []⟩,
    ⟨(some 23), .move (.tmp 25), none, .seq, [], []⟩,
    ⟨(some 26), .extract (.tmp 23) 0, none, .seq, [], []⟩,
    ⟨(some 27), .extract (.tmp 23) 1, none, .seq, [], []⟩,
    ⟨(some 5), .move (.tmp 26), none, .seq, [], []⟩,
    ⟨(some 6), .move (.tmp 27), none, .seq, [], []⟩])
  (.seq (.region [⟨(some 29), .move (.tmp 1), none, .seq, [], []⟩,
    ⟨(some 30), .call 10 [(.const (.int .i64 (-5))), (.const (.int .i64 5))], none, .seq, [], []⟩,
    ⟨(some 31), .call 9 [(.tmp 29), (.tmp 30), (.const (.int .i64 54))], none, .seq, [], []⟩,
    ⟨(some 28), .move (.tmp 31), none, .seq, [], []⟩,
    ⟨(some 32), .extract (.tmp 28) 0, none, .seq, [], []⟩,
    ⟨(some 33), .extract (.tmp 28) 1, none, .seq, [], []⟩,
    ⟨(some 7), .move (.tmp 32), none, .seq, [], []⟩,
    ⟨(some 8), .move (.tmp 33), none, .seq, [], []⟩])
  (.seq (.region [⟨(some 35), .move (.tmp 1), none, .seq, [], []⟩,
    ⟨(some 36), .call 10 [(.const (.int .i64 (-5))), (.const (.int .i64 5))], none, .seq, [], []⟩,
    ⟨(some 37), .call 9 [(.tmp 35), (.tmp 36), (.const (.int .i64 55))], none, .seq, [], []⟩,
    ⟨(some 34), .move (.tmp 37), none, .seq, [], []⟩,
    ⟨(some 38), .extract (.tmp 34) 0, none, .seq, [], []⟩,
    ⟨(some 39), .extract (.tmp 34) 1, none, .seq, [], []⟩,
    ⟨(some 9), .move (.tmp 38), none, .seq, [], []⟩,
    ⟨(some 10), .move (.tmp 39), none, .seq, [], []⟩])
  (.seq (.region [⟨(some 41), .move (.tmp 1), none, .seq, [], []⟩,
    ⟨(some 42), .call 10 [(.const (.int .i64 (-5))), (.const (.int .i64 5))], none, .seq, [], []⟩,
    ⟨(some 43), .call 9 [(.tmp 41), (.tmp 42), (.const (.int .i64 105))], none, .seq, [], []⟩,
    ⟨(some 40), .move (.tmp 43), none, .seq, [], []⟩,
    ⟨(some 44), .extract (.tmp 40) 0, none, .seq, [], []⟩,
    ⟨(some 45), .extract (.tmp 40) 1, none, .seq, [], []⟩,
    ⟨(some 11), .move (.tmp 44), none, .seq, [], []⟩,
    ⟨(some 12), .move (.tmp 45), none, .seq, [], []⟩])
  (.seq (.region [⟨(some 47), .move (.tmp 1), none, .seq, [], []⟩,
    ⟨(some 48), .call 10 [(.const (.int .i64 10)), (.const (.int .i64 10))], none, .seq, [], []⟩,
    ⟨(some 49), .call 11 [(.tmp 47), (.tmp 48)], none, .seq, [], []⟩,
    ⟨(some 46), .move (.tmp 49), none, .seq, [], []⟩,
    ⟨(some 50), .extract (.tmp 46) 0, none, .seq, [], []⟩,
    ⟨(some 51), .extract (.tmp 46) 1, none, .seq, [], []⟩,
    ⟨(some 13), .move (.tmp 50), none, .seq, [], []⟩,
    ⟨(some 14), .move (.tmp 51), none, .seq, [], []⟩])
  (.seq (.region [⟨(some 52), .load (some 2) (.tmp 2), none, .seq, [], []⟩,
    ⟨(some 53), .buildSlice 1 [(.int .i64 0)] 3 [(0, (.const (.int .i64 1))), (1, (.const (.int .i64 0))), (2, (.const (.int .i64 0)))], none, .seq, [], []⟩,
    ⟨(some 54), .buildSlice 1 [(.int .i64 0)] 3 [(0, (.const (.int .i64 0))), (1, (.const (.int .i64 1))), (2, (.const (.int .i64 0)))], none, .seq, [], []⟩,
    ⟨(some 55), .buildSlice 1 [(.slice none 0 0)] 2 [(0, (.tmp 53)), (1, (.tmp 54))], none, .seq, [], []⟩,
    ⟨(some 56), .call 12 [(.tmp 52), (.tmp 55)], none, .seq, [], []⟩,
    ⟨(some 15), .move (.tmp 56), none, .seq, [], []⟩])
  (.seq (.region [⟨(some 57), .move (.tmp 4), none, .seq, [], []⟩,
    ⟨(some 58), .bin .eql (.tmp 57) (.const (.int .i64 0)), none, .seq, [], []⟩,
    ⟨(some 59), .move (.tmp 58), none, .seq, [], []⟩,
    ⟨(some 60), .move (.tmp 6), some (59, true), .seq, [], []⟩,
    ⟨(some 61), .bin .eql (.tmp 60) (.const (.int .i64 0)), some (59, true), .seq, [], []⟩,
    ⟨(some 62), .pick (.tmp 59) (.tmp 61) (.const (.bool false)), none, .seq, [], []⟩,
    ⟨(some 63), .move (.tmp 62), none, .seq, [], []⟩,
    ⟨(some 64), .move (.tmp 8), some (63, true), .seq, [], []⟩,
    ⟨(some 65), .bin .eql (.tmp 64) (.const (.int .i64 0)), some (63, true), .seq, [], []⟩,
    ⟨(some 66), .pick (.tmp 63) (.tmp 65) (.const (.bool false)), none, .seq, [], []⟩,
    ⟨(some 67), .move (.tmp 66), none, .seq, [], []⟩,
    ⟨(some 68), .move (.tmp 10), some (67, true), .seq, [], []⟩,
    ⟨(some 69), .bin .eql (.tmp 68) (.const (.int .i64 0)), some (67, true), .seq, [], []⟩,
    ⟨(some 70), .pick (.tmp 67) (.tmp 69) (.const (.bool false)), none, .seq, [], []⟩,
    ⟨(some 71), .move (.tmp 70), none, .seq, [], []⟩,
    ⟨(some 72), .move (.tmp 12), some (71, true), .seq, [], []⟩,
    ⟨(some 73), .bin .eql (.tmp 72) (.const (.int .i64 0)), some (71, true), .seq, [], []⟩,
    ⟨(some 74), .pick (.tmp 71) (.tmp 73) (.const (.bool false)), none, .seq, [], []⟩,
    ⟨(some 75), .move (.tmp 74), none, .seq, [], []⟩,
    ⟨(some 76), .move (.tmp 14), some (75, true), .seq, [], []⟩,
    ⟨(some 77), .bin .eql (.tmp 76) (.const (.int .i64 0)), some (75, true), .seq, [], []⟩,
    ⟨(some 78), .pick (.tmp 75) (.tmp 77) (.const (.bool false)), none, .seq, [], []⟩,
    ⟨(some 79), .move (.tmp 78), none, .seq, [], []⟩,
    ⟨(some 80), .move (.tmp 15), some (79, true), .seq, [], []⟩,
    ⟨(some 81), .bin .eql (.tmp 80) (.const (.int .i64 0)), some (79, true), .seq, [], []⟩,
    ⟨(some 82), .pick (.tmp 79) (.tmp 81) (.const (.bool false)), none, .seq, [], []⟩,
    ⟨(some 83), .move (.tmp 82), none, .seq, [], []⟩,
    ⟨(some 84), .move (.tmp 3), some (83, true), .seq, [], []⟩,
    ⟨(some 85), .bin .eql (.tmp 84) (.const (.int .i64 170)), some (83, true), .seq, [], []⟩,
    ⟨(some 86), .pick (.tmp 83) (.tmp 85) (.const (.bool false)), none, .seq, [], []⟩,
    ⟨(some 87), .move (.tmp 86), none, .seq, [], []⟩,
    ⟨(some 88), .move (.tmp 5), some (87, true), .seq, [], []⟩,
    ⟨(some 89), .bin .eql (.tmp 88) (.const (.int .i64 185)), some (87, true), .seq, [], []⟩,
    ⟨(some 90), .pick (.tmp 87) (.tmp 89) (.const (.bool false)), none, .seq, [], []⟩,
    ⟨(some 91), .move (.tmp 90), none, .seq, [], []⟩,
    ⟨(some 92), .move (.tmp 7), some (91, true), .seq, [], []⟩,
    ⟨(some 93), .bin .eql (.tmp 92) (.const (.int .i64 180)), some (91, true), .seq, [], []⟩,
    ⟨(some 94), .pick (.tmp 91) (.tmp 93) (.const (.bool false)), none, .seq, [], []⟩,
    ⟨(some 95), .move (.tmp 94), none, .seq, [], []⟩,
    ⟨(some 96), .move (.tmp 9), some (95, true), .seq, [], []⟩,
    ⟨(some 97), .bin .eql (.tmp 96) (.const (.int .i64 170)), some (95, true), .seq, [], []⟩,
    ⟨(some 98), .pick (.tmp 95) (.tmp 97) (.const (.bool false)), none, .seq, [], []⟩,
    ⟨(some 99), .move (.tmp 98), none, .seq, [], []⟩,
    ⟨(some 100), .move (.tmp 11), some (99, true), .seq, [], []⟩,
    ⟨(some 101), .bin .eql (.tmp 100) (.const (.int .i64 185)), some (99, true), .seq, [], []⟩,
    ⟨(some 102), .pick (.tmp 99) (.tmp 101) (.const (.bool false)), none, .seq, [], []⟩,
    ⟨(some 103), .move (.tmp 102), none, .seq, [], []⟩,
    ⟨(some 104), .move (.tmp 13), some (103, true), .seq, [], []⟩,
    ⟨(some 105), .call 14 [(.const (.int .i64 0)), (.const (.int .i64 180))], some (103, true), .seq, [], []⟩,
    ⟨(some 106), .call 14 [(.const (.int .i64 50)), (.const (.int .i64 170))], some (103, true), .seq, [], []⟩,
    ⟨(some 107), .call 14 [(.const (.int .i64 90)), (.const (.int .i64 185))], some (103, true), .seq, [], []⟩,
    ⟨(some 108), .buildSlice 2 [(.int .i64 0), (.int .i64 0)] 3 [(0, (.tmp 105)), (1, (.tmp 106)), (2, (.tmp 107))], some (103, true), .seq, [], []⟩,
    ⟨(some 109), .call 13 [(.tmp 104), (.tmp 108)], some (103, true), .seq, [], []⟩,
    ⟨(some 110), .pick (.tmp 103) (.tmp 109) (.const (.bool false)), none, .seq, [], []⟩,
    ⟨(some 111), .move (.tmp 110), none, .seq, [], []⟩,
    ⟨(some 112), .call 15 [], some (111, true), .seq, [], []⟩,
    ⟨(some 113), .pick (.tmp 111) (.tmp 112) (.const (.bool false)), none, .seq, [], []⟩,
    ⟨(some 0), .move (.tmp 113), none, .seq, [], []⟩])
  .ret))))))))))⟩

/-- forecourt/forecourtlaw09.PoleMixes -/
def f4 : AFunc := ⟨2, [.tmp 4],
  (.seq (.region [⟨(some 2), .box (.tmp 0), none, .seq, [], []⟩,
    ⟨(some 4), .move (.const (.bool false)), none, .seq, [], []⟩])
  (.seq (.seq (.region [⟨(some 8), .fieldAddr 1 (.tmp 2), none, .seq, [], []⟩,
     ⟨(some 9), .load none (.tmp 8), none, .seq, [], []⟩,
     ⟨(some 10), .call 16 [(.tmp 9)], none, .seq, [], []⟩,
     ⟨(some 11), .move (.tmp 10), none, .seq, [], []⟩,
     ⟨(some 12), .move (.tmp 1), some (11, false), .seq, [], []⟩,
     ⟨(some 13), .len .sl (.tmp 12), some (11, false), .seq, [], []⟩,
     ⟨(some 14), .bin .gtr (.tmp 13) (.const (.int .i64 70)), some (11, false), .seq, [], []⟩,
     ⟨(some 15), .pick (.tmp 11) (.const (.bool true)) (.tmp 14), none, .seq, [], []⟩])
   (.cond (.tmp 15)
    (.seq (.region [⟨(some 16), .call 15 [], none, .seq, [], []⟩,
      ⟨(some 4), .move (.tmp 16), none, .seq, [], []⟩])
    .ret)
    .skip))
  (.seq (.seq (.region [⟨(some 5), .move (.const (.int .i64 0)), none, .seq, [], []⟩])
   (.block 0
    (.loop
     (.keep [1, 2, 5]
      (.seq (.seq (.region [⟨(some 17), .move (.tmp 5), none, .seq, [], []⟩,
         ⟨(some 18), .move (.tmp 1), none, .seq, [], []⟩,
         ⟨(some 19), .len .sl (.tmp 18), none, .seq, [], []⟩,
         ⟨(some 20), .bin .lss (.tmp 17) (.tmp 19), none, .seq, [], []⟩])
       (.cond (.tmp 20)
        .skip
        (.exit 0)))
      (.seq (.block 1
        (.seq (.region [⟨(some 23), .move (.tmp 1), none, .seq, [], []⟩,
          ⟨(some 24), .move (.tmp 5), none, .seq, [], []⟩,
          ⟨(some 25), .indexAddr none 2 (.tmp 23) (.tmp 24), none, .seq, [], []⟩,
          ⟨(some 26), .fieldAddr 1 (.tmp 25), none, .seq, [], []⟩,
          ⟨(some 27), .load none (.tmp 26), none, .seq, [], []⟩,
          ⟨(some 28), .call 16 [(.tmp 27)], none, .seq, [], []⟩])
        (.cond (.tmp 28)
         (.seq (.region [⟨(some 29), .call 15 [], none, .seq, [], []⟩,
           ⟨(some 4), .move (.tmp 29), none, .seq, [], []⟩])
         .ret)
         .skip)))
      (.region [⟨(some 21), .move (.tmp 5), none, .seq, [], []⟩,
       ⟨(some 22), .bin .add (.tmp 21) (.const (.int .i64 1)), none, .seq, [], []⟩,
       ⟨(some 5), .move (.tmp 22), none, .seq, [], []⟩])))))))
  (.seq (.seq (.region [⟨(some 30), .load (some 2) (.tmp 2), none, .rd, [], []⟩,
     ⟨(some 31), .move (.tmp 1), none, .still, [], []⟩,
     ⟨(some 32), .call 17 [(.tmp 30), (.tmp 31)], none, .ro, [], []⟩,
     ⟨(some 33), .load (some 2) (.tmp 2), none, .rd, [0], []⟩,
     ⟨(some 34), .move (.tmp 1), none, .still, [], []⟩,
     ⟨(some 35), .call 18 [(.tmp 33), (.tmp 34)], none, .seq, [], []⟩,
     ⟨(some 36), .bin .neq (.tmp 32) (.tmp 35), none, .still, [], []⟩])
   (.cond (.tmp 36)
    (.seq (.region [⟨(some 4), .move (.const (.bool false)), none, .seq, [], []⟩])
    .ret)
    .skip))
  (.seq (.region [⟨(some 38), .load (some 2) (.tmp 2), none, .seq, [], []⟩,
    ⟨(some 39), .call 19 [(.tmp 38)], none, .seq, [], []⟩,
    ⟨(some 37), .move (.tmp 39), none, .seq, [], []⟩,
    ⟨(some 40), .extract (.tmp 37) 0, none, .seq, [], []⟩,
    ⟨(some 41), .extract (.tmp 37) 1, none, .seq, [], []⟩,
    ⟨(some 6), .move (.tmp 40), none, .seq, [], []⟩,
    ⟨(some 7), .move (.tmp 41), none, .seq, [], []⟩])
  (.seq (.seq (.region [⟨(some 42), .move (.tmp 7), none, .seq, [], []⟩,
     ⟨(some 43), .load (some 2) (.tmp 2), none, .seq, [], []⟩,
     ⟨(some 44), .call 20 [(.tmp 43)], none, .seq, [], []⟩,
     ⟨(some 45), .bin .neq (.tmp 42) (.tmp 44), none, .seq, [], []⟩])
   (.cond (.tmp 45)
    (.seq (.region [⟨(some 4), .move (.const (.bool false)), none, .seq, [], []⟩])
    .ret)
    .skip))
  (.seq (.seq (.region [⟨(some 46), .move (.tmp 7), none, .seq, [], []⟩,
     ⟨(some 47), .bin .neq (.tmp 46) (.const (.int .i64 0)), none, .seq, [], []⟩])
   (.cond (.tmp 47)
    (.seq (.region [⟨(some 48), .move (.tmp 6), none, .seq, [], []⟩,
      ⟨(some 49), .len .sl (.tmp 48), none, .seq, [], []⟩,
      ⟨(some 50), .bin .eql (.tmp 49) (.const (.int .i64 0)), none, .seq, [], []⟩,
      ⟨(some 51), .move (.tmp 50), none, .seq, [], []⟩,
      ⟨(some 52), .call 15 [], some (51, true), .seq, [], []⟩,
      ⟨(some 53), .pick (.tmp 51) (.tmp 52) (.const (.bool false)), none, .seq, [], []⟩,
      ⟨(some 4), .move (.tmp 53), none, .seq, [], []⟩])
    .ret)
    .skip))
  (.seq (.region [⟨(some 54), .load (some 2) (.tmp 2), none, .seq, [], []⟩,
    ⟨(some 55), .move (.tmp 6), none, .seq, [], []⟩,
    ⟨(some 56), .call 18 [(.tmp 54), (.tmp 55)], none, .seq, [], []⟩,
    ⟨(some 57), .bin .eql (.tmp 56) (.const (.int .i64 0)), none, .seq, [], []⟩,
    ⟨(some 58), .move (.tmp 57), none, .seq, [], []⟩,
    ⟨(some 59), .call 15 [], some (58, true), .seq, [], []⟩,
    ⟨(some 60), .pick (.tmp 58) (.tmp 59) (.const (.bool false)), none, .seq, [], []⟩,
    ⟨(some 4), .move (.tmp 60), none, .seq, [], []⟩])
  .ret))))))))⟩

/-- forecourt/forecourtlaw09.PoleAverage -/
def f5 : AFunc := ⟨2, [.tmp 4],
  (.seq (.region [⟨(some 2), .box (.tmp 0), none, .seq, [], []⟩,
    ⟨(some 4), .move (.const (.bool false)), none, .seq, [], []⟩])
  (.seq (.seq (.region [⟨(some 18), .load (some 2) (.tmp 2), none, .seq, [], []⟩,
     ⟨(some 19), .call 21 [(.tmp 18)], none, .seq, [], []⟩,
     ⟨(some 20), .un .not (.tmp 19), none, .seq, [], []⟩,
     ⟨(some 21), .move (.tmp 20), none, .seq, [], []⟩,
     ⟨(some 22), .move (.tmp 1), some (21, false), .seq, [], []⟩,
     ⟨(some 23), .call 16 [(.tmp 22)], some (21, false), .seq, [], []⟩,
     ⟨(some 24), .pick (.tmp 21) (.const (.bool true)) (.tmp 23), none, .seq, [], []⟩])
   (.cond (.tmp 24)
    (.seq (.region [⟨(some 25), .call 15 [], none, .seq, [], []⟩,
      ⟨(some 4), .move (.tmp 25), none, .seq, [], []⟩])
    .ret)
    .skip))
  (.seq (.region [⟨(some 27), .load (some 2) (.tmp 2), none, .seq, [], []⟩,
    ⟨(some 28), .call 19 [(.tmp 27)], none, .seq, [], []⟩,
    ⟨(some 26), .move (.tmp 28), none, .seq, [], []⟩,
    ⟨(some 29), .extract (.tmp 26) 0, none, .seq, [], []⟩,
    ⟨(some 30), .extract (.tmp 26) 1, none, .seq, [], []⟩,
    ⟨(some 5), .move (.tmp 29), none, .seq, [], []⟩,
    ⟨(some 6), .move (.tmp 30), none, .seq, [], []⟩])
  (.seq (.seq (.region [⟨(some 31), .move (.tmp 6), none, .seq, [], []⟩,
     ⟨(some 32), .bin .neq (.tmp 31) (.const (.int .i64 0)), none, .seq, [], []⟩,
     ⟨(some 33), .move (.tmp 32), none, .seq, [], []⟩,
     ⟨(some 34), .load (some 2) (.tmp 2), some (33, false), .seq, [], []⟩,
     ⟨(some 35), .move (.tmp 5), some (33, false), .seq, [], []⟩,
     ⟨(some 36), .call 18 [(.tmp 34), (.tmp 35)], some (33, false), .seq, [], []⟩,
     ⟨(some 37), .bin .neq (.tmp 36) (.const (.int .i64 0)), some (33, false), .seq, [], []⟩,
     ⟨(some 38), .pick (.tmp 33) (.const (.bool true)) (.tmp 37), none, .seq, [], []⟩,
     ⟨(some 39), .move (.tmp 38), none, .seq, [], []⟩,
     ⟨(some 40), .load (some 2) (.tmp 2), some (39, false), .seq, [], []⟩,
     ⟨(some 41), .move (.tmp 5), some (39, false), .seq, [], []⟩,
     ⟨(some 42), .call 17 [(.tmp 40), (.tmp 41)], some (39, false), .seq, [], []⟩,
     ⟨(some 43), .bin .neq (.tmp 42) (.const (.int .i64 0)), some (39, false), .seq, [], []⟩,
     ⟨(some 44), .pick (.tmp 39) (.const (.bool true)) (.tmp 43), none, .seq, [], []⟩])
   (.cond (.tmp 44)
    (.seq (.region [⟨(some 4), .move (.const (.bool false)), none, .seq, [], []⟩])
    .ret)
    .skip))
  (.seq (.region [⟨(some 45), .fieldAddr 1 (.tmp 2), none, .seq, [], []⟩,
    ⟨(some 46), .load none (.tmp 45), none, .seq, [], []⟩,
    ⟨(some 47), .call 22 [(.tmp 46)], none, .seq, [], []⟩,
    ⟨(some 7), .move (.tmp 47), none, .seq, [], []⟩])
  (.seq (.region [⟨(some 48), .move (.tmp 7), none, .seq, [], []⟩,
    ⟨(some 49), .len .sl (.tmp 48), none, .seq, [], []⟩,
    ⟨(some 50), .makeSlice 1 8 [(.int .i64 0)] (.tmp 49) (.tmp 49), none, .seq, [], []⟩,
    ⟨(some 8), .move (.tmp 50), none, .seq, [], []⟩])
  (.seq (.region [⟨(some 9), .move (.const (.bool true)), none, .seq, [], []⟩])
  (.seq (.seq (.region [⟨(some 10), .move (.const (.int .i64 0)), none, .seq, [], []⟩])
   (.block 0
    (.loop
     (.keep [1, 2, 5, 7, 8, 9, 10]
      (.seq (.seq (.region [⟨(some 51), .move (.tmp 10), none, .seq, [], []⟩,
         ⟨(some 52), .move (.tmp 5), none, .seq, [], []⟩,
         ⟨(some 53), .len .sl (.tmp 52), none, .seq, [], []⟩,
         ⟨(some 54), .bin .lss (.tmp 51) (.tmp 53), none, .seq, [], []⟩])
       (.cond (.tmp 54)
        .skip
        (.exit 0)))
      (.seq (.block 1
        (.seq (.region [⟨(some 57), .move (.tmp 5), none, .seq, [], []⟩,
          ⟨(some 58), .move (.tmp 10), none, .seq, [], []⟩,
          ⟨(some 59), .indexAddr none 2 (.tmp 57) (.tmp 58), none, .seq, [], []⟩,
          ⟨(some 60), .fieldAddr 1 (.tmp 59), none, .seq, [], []⟩,
          ⟨(some 61), .load none (.tmp 60), none, .seq, [], []⟩,
          ⟨(some 62), .call 22 [(.tmp 61)], none, .seq, [], []⟩,
          ⟨(some 11), .move (.tmp 62), none, .seq, [], []⟩])
        (.seq (.seq (.region [⟨(some 63), .move (.tmp 11), none, .seq, [], []⟩,
           ⟨(some 64), .len .sl (.tmp 63), none, .seq, [], []⟩,
           ⟨(some 65), .move (.tmp 7), none, .seq, [], []⟩,
           ⟨(some 66), .len .sl (.tmp 65), none, .seq, [], []⟩,
           ⟨(some 67), .bin .neq (.tmp 64) (.tmp 66), none, .seq, [], []⟩])
         (.cond (.tmp 67)
          (.seq (.region [⟨(some 4), .move (.const (.bool false)), none, .seq, [], []⟩])
          .ret)
          .skip))
        (.seq (.region [⟨(some 12), .move (.const (.int .i64 0)), none, .seq, [], []⟩])
        (.block 2
         (.loop
          (.keep [1, 2, 5, 7, 8, 9, 10, 11, 12]
           (.seq (.seq (.region [⟨(some 68), .move (.tmp 12), none, .seq, [], []⟩,
              ⟨(some 69), .move (.tmp 11), none, .seq, [], []⟩,
              ⟨(some 70), .len .sl (.tmp 69), none, .seq, [], []⟩,
              ⟨(some 71), .bin .lss (.tmp 68) (.tmp 70), none, .seq, [], []⟩])
            (.cond (.tmp 71)
             .skip
             (.exit 2)))
           (.seq (.block 3
             (.region [⟨(some 74), .move (.tmp 8), none, .still, [], []⟩,
              ⟨(some 75), .move (.tmp 12), none, .still, [], []⟩,
              ⟨(some 76), .indexAddr none 1 (.tmp 74) (.tmp 75), none, .still, [], []⟩,
              ⟨(some 77), .load none (.tmp 76), none, .rd, [], []⟩,
              ⟨(some 78), .move (.tmp 5), none, .still, [], []⟩,
              ⟨(some 79), .move (.tmp 10), none, .still, [], []⟩,
              ⟨(some 80), .indexAddr none 2 (.tmp 78) (.tmp 79), none, .still, [], []⟩,
              ⟨(some 81), .fieldAddr 0 (.tmp 80), none, .still, [], []⟩,
              ⟨(some 82), .load none (.tmp 81), none, .rd, [], []⟩,
              ⟨(some 83), .move (.tmp 11), none, .still, [], []⟩,
              ⟨(some 84), .move (.tmp 12), none, .still, [], []⟩,
              ⟨(some 85), .indexAddr none 1 (.tmp 83) (.tmp 84), none, .still, [], []⟩,
              ⟨(some 86), .load none (.tmp 85), none, .rd, [], []⟩,
              ⟨(some 87), .bin .mul (.tmp 82) (.tmp 86), none, .still, [], []⟩,
              ⟨(some 88), .bin .add (.tmp 77) (.tmp 87), none, .still, [], []⟩,
              ⟨(some 89), .indexAddr none 1 (.tmp 74) (.tmp 75), none, .still, [], []⟩,
              ⟨none, .store 1 (.tmp 89) (.tmp 88), none, .seq, [], []⟩]))
           (.region [⟨(some 72), .move (.tmp 12), none, .seq, [], []⟩,
            ⟨(some 73), .bin .add (.tmp 72) (.const (.int .i64 1)), none, .seq, [], []⟩,
            ⟨(some 12), .move (.tmp 73), none, .seq, [], []⟩]))))))))))
      (.region [⟨(some 55), .move (.tmp 10), none, .seq, [], []⟩,
       ⟨(some 56), .bin .add (.tmp 55) (.const (.int .i64 1)), none, .seq, [], []⟩,
       ⟨(some 10), .move (.tmp 56), none, .seq, [], []⟩])))))))
  (.seq (.seq (.region [⟨(some 13), .move (.const (.int .i64 0)), none, .seq, [], []⟩])
   (.block 4
    (.loop
     (.keep [1, 2, 7, 8, 9, 13]
      (.seq (.seq (.region [⟨(some 90), .move (.tmp 13), none, .seq, [], []⟩,
         ⟨(some 91), .move (.tmp 7), none, .seq, [], []⟩,
         ⟨(some 92), .len .sl (.tmp 91), none, .seq, [], []⟩,
         ⟨(some 93), .bin .lss (.tmp 90) (.tmp 92), none, .seq, [], []⟩])
       (.cond (.tmp 93)
        .skip
        (.exit 4)))
      (.seq (.block 5
        (.seq (.seq (.region [⟨(some 96), .move (.tmp 8), none, .still, [], []⟩,
           ⟨(some 97), .move (.tmp 13), none, .still, [], []⟩,
           ⟨(some 98), .indexAddr none 1 (.tmp 96) (.tmp 97), none, .still, [], []⟩,
           ⟨(some 99), .load none (.tmp 98), none, .rd, [], []⟩,
           ⟨(some 100), .move (.tmp 7), none, .still, [], []⟩,
           ⟨(some 101), .move (.tmp 13), none, .still, [], []⟩,
           ⟨(some 102), .indexAddr none 1 (.tmp 100) (.tmp 101), none, .still, [], []⟩,
           ⟨(some 103), .load none (.tmp 102), none, .rd, [], []⟩,
           ⟨(some 104), .bin .neq (.tmp 99) (.tmp 103), none, .still, [], []⟩])
         (.cond (.tmp 104)
          (.seq (.region [⟨(some 4), .move (.const (.bool false)), none, .seq, [], []⟩])
          .ret)
          .skip))
        (.region [⟨(some 105), .move (.tmp 9), none, .still, [], []⟩,
         ⟨(some 106), .move (.tmp 105), none, .still, [], []⟩,
         ⟨(some 107), .move (.tmp 7), some (106, true), .still, [], []⟩,
         ⟨(some 108), .move (.tmp 13), some (106, true), .still, [], []⟩,
         ⟨(some 109), .indexAddr none 1 (.tmp 107) (.tmp 108), some (106, true), .still, [], []⟩,
         ⟨(some 110), .load none (.tmp 109), some (106, true), .rd, [], []⟩,
         ⟨(some 111), .fieldAddr 0 (.tmp 2), some (106, true), .still, [], []⟩,
         ⟨(some 112), .load none (.tmp 111), some (106, true), .rd, [], []⟩,
         ⟨(some 113), .bin .rem (.tmp 110) (.tmp 112), some (106, true), .still, [], []⟩,
         ⟨(some 114), .bin .eql (.tmp 113) (.const (.int .i64 0)), some (106, true), .still, [], []⟩,
         ⟨(some 115), .pick (.tmp 106) (.tmp 114) (.const (.bool false)), none, .still, [], []⟩,
         ⟨(some 9), .move (.tmp 115), none, .still, [], []⟩])))
      (.region [⟨(some 94), .move (.tmp 13), none, .seq, [], []⟩,
       ⟨(some 95), .bin .add (.tmp 94) (.const (.int .i64 1)), none, .seq, [], []⟩,
       ⟨(some 13), .move (.tmp 95), none, .seq, [], []⟩])))))))
  (.seq (.seq (.region [⟨(some 116), .move (.tmp 9), none, .seq, [], []⟩,
     ⟨(some 117), .un .not (.tmp 116), none, .seq, [], []⟩])
   (.cond (.tmp 117)
    (.seq (.region [⟨(some 118), .call 15 [], none, .seq, [], []⟩,
      ⟨(some 4), .move (.tmp 118), none, .seq, [], []⟩])
    .ret)
    .skip))
  (.seq (.region [⟨(some 120), .load (some 2) (.tmp 2), none, .seq, [], []⟩,
    ⟨(some 121), .call 23 [(.tmp 120)], none, .seq, [], []⟩,
    ⟨(some 119), .move (.tmp 121), none, .seq, [], []⟩,
    ⟨(some 122), .extract (.tmp 119) 0, none, .seq, [], []⟩,
    ⟨(some 123), .extract (.tmp 119) 1, none, .seq, [], []⟩,
    ⟨(some 14), .move (.tmp 122), none, .seq, [], []⟩,
    ⟨(some 6), .move (.tmp 123), none, .seq, [], []⟩])
  (.seq (.seq (.region [⟨(some 124), .move (.tmp 6), none, .seq, [], []⟩,
     ⟨(some 125), .bin .neq (.tmp 124) (.const (.int .i64 0)), none, .seq, [], []⟩,
     ⟨(some 126), .move (.tmp 125), none, .seq, [], []⟩,
     ⟨(some 127), .load (some 2) (.tmp 2), some (126, false), .seq, [], []⟩,
     ⟨(some 128), .move (.tmp 14), some (126, false), .seq, [], []⟩,
     ⟨(some 129), .call 24 [(.tmp 127), (.tmp 128)], some (126, false), .seq, [], []⟩,
     ⟨(some 130), .bin .neq (.tmp 129) (.const (.int .i64 0)), some (126, false), .seq, [], []⟩,
     ⟨(some 131), .pick (.tmp 126) (.const (.bool true)) (.tmp 130), none, .seq, [], []⟩])
   (.cond (.tmp 131)
    (.seq (.region [⟨(some 4), .move (.const (.bool false)), none, .seq, [], []⟩])
    .ret)
    .skip))
  (.seq (.region [⟨(some 132), .fieldAddr 1 (.tmp 2), none, .still, [], []⟩,
    ⟨(some 133), .load none (.tmp 132), none, .rd, [], []⟩,
    ⟨(some 134), .len .sl (.tmp 133), none, .still, [], []⟩,
    ⟨(some 135), .fieldAddr 1 (.tmp 2), none, .still, [], []⟩,
    ⟨(some 136), .load none (.tmp 135), none, .rd, [], []⟩,
    ⟨(some 137), .indexAddr none 1 (.tmp 136) (.const (.int .i64 0)), none, .still, [], []⟩,
    ⟨(some 138), .load none (.tmp 137), none, .rd, [], []⟩,
    ⟨(some 139), .len .sl (.tmp 138), none, .still, [], []⟩,
    ⟨(some 140), .bin .mul (.tmp 134) (.tmp 139), none, .still, [], []⟩,
    ⟨(some 15), .move (.tmp 140), none, .still, [], []⟩])
  (.seq (.region [⟨(some 16), .move (.const (.bool true)), none, .seq, [], []⟩])
  (.seq (.seq (.region [⟨(some 17), .move (.const (.int .i64 0)), none, .seq, [], []⟩])
   (.block 6
    (.loop
     (.keep [1, 2, 7, 14, 15, 16, 17]
      (.seq (.seq (.region [⟨(some 141), .move (.tmp 17), none, .seq, [], []⟩,
         ⟨(some 142), .move (.tmp 15), none, .seq, [], []⟩,
         ⟨(some 143), .bin .lss (.tmp 141) (.tmp 142), none, .seq, [], []⟩])
       (.cond (.tmp 143)
        .skip
        (.exit 6)))
      (.seq (.block 7
        (.region [⟨(some 146), .move (.tmp 16), none, .still, [], []⟩,
         ⟨(some 147), .move (.tmp 146), none, .still, [], []⟩,
         ⟨(some 148), .move (.tmp 7), some (147, true), .still, [], []⟩,
         ⟨(some 149), .move (.tmp 17), some (147, true), .still, [], []⟩,
         ⟨(some 150), .indexAddr none 1 (.tmp 148) (.tmp 149), some (147, true), .still, [], []⟩,
         ⟨(some 151), .load none (.tmp 150), some (147, true), .rd, [], []⟩,
         ⟨(some 152), .fieldAddr 0 (.tmp 2), some (147, true), .still, [], []⟩,
         ⟨(some 153), .load none (.tmp 152), some (147, true), .rd, [], []⟩,
         ⟨(some 154), .bin .rem (.tmp 151) (.tmp 153), some (147, true), .still, [], []⟩,
         ⟨(some 155), .bin .eql (.tmp 154) (.const (.int .i64 0)), some (147, true), .still, [], []⟩,
         ⟨(some 156), .pick (.tmp 147) (.tmp 155) (.const (.bool false)), none, .still, [], []⟩,
         ⟨(some 16), .move (.tmp 156), none, .still, [], []⟩]))
      (.region [⟨(some 144), .move (.tmp 17), none, .seq, [], []⟩,
       ⟨(some 145), .bin .add (.tmp 144) (.const (.int .i64 1)), none, .seq, [], []⟩,
       ⟨(some 17), .move (.tmp 145), none, .seq, [], []⟩])))))))
  (.seq (.region [⟨(some 157), .move (.tmp 16), none, .seq, [], []⟩,
    ⟨(some 158), .un .not (.tmp 157), none, .seq, [], []⟩,
    ⟨(some 159), .move (.tmp 158), none, .seq, [], []⟩,
    ⟨(some 160), .load (some 2) (.tmp 2), some (159, false), .seq, [], []⟩,
    ⟨(some 161), .move (.tmp 1), some (159, false), .seq, [], []⟩,
    ⟨(some 162), .call 12 [(.tmp 160), (.tmp 161)], some (159, false), .seq, [], []⟩,
    ⟨(some 163), .bin .neq (.tmp 162) (.const (.int .i64 0)), some (159, false), .seq, [], []⟩,
    ⟨(some 164), .pick (.tmp 159) (.const (.bool true)) (.tmp 163), none, .seq, [], []⟩,
    ⟨(some 165), .move (.tmp 164), none, .seq, [], []⟩,
    ⟨(some 166), .move (.tmp 1), some (165, false), .seq, [], []⟩,
    ⟨(some 167), .move (.tmp 14), some (165, false), .seq, [], []⟩,
    ⟨(some 168), .call 25 [(.tmp 166), (.tmp 167)], some (165, false), .seq, [], []⟩,
    ⟨(some 169), .pick (.tmp 165) (.const (.bool true)) (.tmp 168), none, .seq, [], []⟩,
    ⟨(some 170), .move (.tmp 169), none, .seq, [], []⟩,
    ⟨(some 171), .call 15 [], some (170, true), .seq, [], []⟩,
    ⟨(some 172), .pick (.tmp 170) (.tmp 171) (.const (.bool false)), none, .seq, [], []⟩,
    ⟨(some 4), .move (.tmp 172), none, .seq, [], []⟩])
  .ret))))))))))))))))⟩

/-- forecourt/forecourtlaw09.Sign -/
def f6 : AFunc := ⟨0, [.tmp 0],
  (.seq (.region [⟨(some 0), .move (.const (.slice none 0 0)), none, .seq, [], []⟩])
  (.seq (.region [⟨(some 1), .call 14 [(.const (.int .i64 0)), (.const (.int .i64 180))], none, .seq, [], []⟩,
    ⟨(some 2), .call 14 [(.const (.int .i64 60)), (.const (.int .i64 170))], none, .seq, [], []⟩,
    ⟨(some 3), .call 14 [(.const (.int .i64 100)), (.const (.int .i64 185))], none, .seq, [], []⟩,
    ⟨(some 4), .buildSlice 2 [(.int .i64 0), (.int .i64 0)] 3 [(0, (.tmp 1)), (1, (.tmp 2)), (2, (.tmp 3))], none, .seq, [], []⟩,
    ⟨(some 0), .move (.tmp 4), none, .seq, [], []⟩])
  .ret))⟩

/-- forecourt/forecourtlaw09.Table -/
def f7 : AFunc := ⟨0, [.cell 0 (some 2)],
  (.seq (.region [⟨(some 0), .alloc [(.int .i64 0), (.slice none 0 0)], none, .seq, [], []⟩])
  (.seq (.region [⟨(some 1), .buildSlice 1 [(.int .i64 0)] 3 [(0, (.const (.int .i64 1))), (1, (.const (.int .i64 2))), (2, (.const (.int .i64 1)))], none, .seq, [], []⟩,
    ⟨(some 2), .buildSlice 1 [(.int .i64 0)] 3 [(0, (.const (.int .i64 3))), (1, (.const (.int .i64 1))), (2, (.const (.int .i64 0)))], none, .seq, [], []⟩,
    ⟨(some 3), .buildSlice 1 [(.slice none 0 0)] 2 [(0, (.tmp 1)), (1, (.tmp 2))], none, .seq, [], []⟩,
    ⟨(some 4), .build [(.int .i64 0), (.slice none 0 0)] (.list [(0, 1), (1, 1)]) [(0, (.const (.int .i64 4))), (1, (.tmp 3))], none, .seq, [], []⟩,
    ⟨none, .store 2 (.tmp 0) (.tmp 4), none, .seq, [], []⟩])
  .ret))⟩

/-- forecourt/pole.Price -/
def f8 : AFunc := ⟨2, [.tmp 4, .tmp 5],
  (.seq (.region [⟨(some 4), .move (.const (.int .i64 0)), none, .seq, [], []⟩,
    ⟨(some 5), .move (.const (.int .i64 0)), none, .seq, [], []⟩])
  (.seq (.region [⟨(some 7), .move (.tmp 0), none, .seq, [], []⟩,
    ⟨(some 8), .call 26 [(.tmp 7)], none, .seq, [], []⟩,
    ⟨(some 6), .move (.tmp 8), none, .seq, [], []⟩])
  (.seq (.block 0
    (.seq (.region [⟨(some 10), .move (.tmp 6), none, .seq, [], []⟩,
      ⟨(some 11), .bin .neq (.tmp 10) (.const (.int .i64 0)), none, .seq, [], []⟩,
      ⟨(some 9), .move (.tmp 11), none, .seq, [], []⟩])
    (.cond (.tmp 9)
     (.seq (.region [⟨(some 12), .move (.tmp 6), none, .seq, [], []⟩,
       ⟨(some 4), .move (.const (.int .i64 0)), none, .seq, [], []⟩,
       ⟨(some 5), .move (.tmp 12), none, .seq, [], []⟩])
     .ret)
     (.seq (.region [⟨(some 14), .move (.tmp 1), none, .seq, [], []⟩,
       ⟨(some 15), .buildSlice 1 [(.int .i64 0)] 1 [(0, (.tmp 14))], none, .seq, [], []⟩,
       ⟨(some 16), .call 27 [(.const (.int .i64 0)), (.const (.int .i64 2000)), (.tmp 15)], none, .seq, [], []⟩,
       ⟨(some 17), .un .not (.tmp 16), none, .seq, [], []⟩,
       ⟨(some 13), .move (.tmp 17), none, .seq, [], []⟩])
     (.cond (.tmp 13)
      (.seq (.region [⟨(some 4), .move (.const (.int .i64 0)), none, .seq, [], []⟩,
        ⟨(some 5), .move (.const (.int .i64 3)), none, .seq, [], []⟩])
      .ret)
      .skip)))))
  (.seq (.region [⟨(some 18), .move (.tmp 0), none, .seq, [], []⟩,
    ⟨(some 19), .move (.tmp 0), none, .seq, [], []⟩,
    ⟨(some 20), .move (.tmp 1), none, .seq, [], []⟩,
    ⟨(some 21), .call 28 [(.tmp 19), (.tmp 20)], none, .seq, [], []⟩,
    ⟨(some 22), .indexAddr none 2 (.tmp 18) (.tmp 21), none, .seq, [], []⟩,
    ⟨(some 23), .fieldAddr 1 (.tmp 22), none, .seq, [], []⟩,
    ⟨(some 24), .load none (.tmp 23), none, .seq, [], []⟩,
    ⟨(some 4), .move (.tmp 24), none, .seq, [], []⟩,
    ⟨(some 5), .move (.const (.int .i64 0)), none, .seq, [], []⟩])
  .ret))))⟩

/-- forecourt/pole.Fair -/
def f9 : AFunc := ⟨3, [.tmp 6, .tmp 7],
  (.seq (.region [⟨(some 4), .box (.tmp 1), none, .seq, [], []⟩,
    ⟨(some 6), .move (.const (.int .i64 0)), none, .seq, [], []⟩,
    ⟨(some 7), .move (.const (.int .i64 0)), none, .seq, [], []⟩])
  (.seq (.region [⟨(some 9), .move (.tmp 0), none, .seq, [], []⟩,
    ⟨(some 10), .load (some 2) (.tmp 4), none, .seq, [], []⟩,
    ⟨(some 11), .call 29 [(.tmp 9), (.tmp 10)], none, .seq, [], []⟩,
    ⟨(some 8), .move (.tmp 11), none, .seq, [], []⟩])
  (.seq (.block 0
    (.seq (.region [⟨(some 13), .move (.tmp 8), none, .seq, [], []⟩,
      ⟨(some 14), .bin .neq (.tmp 13) (.const (.int .i64 0)), none, .seq, [], []⟩,
      ⟨(some 12), .move (.tmp 14), none, .seq, [], []⟩])
    (.cond (.tmp 12)
     (.seq (.region [⟨(some 15), .move (.tmp 8), none, .seq, [], []⟩,
       ⟨(some 6), .move (.const (.int .i64 0)), none, .seq, [], []⟩,
       ⟨(some 7), .move (.tmp 15), none, .seq, [], []⟩])
     .ret)
     (.seq (.region [⟨(some 17), .move (.tmp 2), none, .seq, [], []⟩,
       ⟨(some 18), .buildSlice 1 [(.int .i64 0)] 1 [(0, (.tmp 17))], none, .seq, [], []⟩,
       ⟨(some 19), .call 27 [(.const (.int .i64 0)), (.const (.int .i64 2000)), (.tmp 18)], none, .seq, [], []⟩,
       ⟨(some 20), .un .not (.tmp 19), none, .seq, [], []⟩,
       ⟨(some 16), .move (.tmp 20), none, .seq, [], []⟩])
     (.cond (.tmp 16)
      (.seq (.region [⟨(some 6), .move (.const (.int .i64 0)), none, .seq, [], []⟩,
        ⟨(some 7), .move (.const (.int .i64 3)), none, .seq, [], []⟩])
      .ret)
      .skip)))))
  (.seq (.region [⟨(some 21), .move (.tmp 0), none, .seq, [], []⟩,
    ⟨(some 22), .load (some 2) (.tmp 4), none, .seq, [], []⟩,
    ⟨(some 23), .move (.tmp 2), none, .seq, [], []⟩,
    ⟨(some 24), .call 30 [(.tmp 21), (.tmp 22), (.tmp 23)], none, .seq, [], []⟩,
    ⟨(some 6), .move (.tmp 24), none, .seq, [], []⟩,
    ⟨(some 7), .move (.const (.int .i64 0)), none, .seq, [], []⟩])
  .ret))))⟩

/-- forecourt/forecourtlaw09.rg -/
def f10 : AFunc := ⟨2, [.cell 4 (some 2)],
  (.seq (.region [⟨(some 4), .alloc [(.int .i64 0), (.int .i64 0)], none, .seq, [], []⟩])
  (.seq (.region [⟨(some 5), .move (.tmp 0), none, .seq, [], []⟩,
    ⟨(some 6), .move (.tmp 1), none, .seq, [], []⟩,
    ⟨(some 7), .build [(.int .i64 0), (.int .i64 0)] (.list [(0, 1), (1, 1)]) [(0, (.tmp 5)), (1, (.tmp 6))], none, .seq, [], []⟩,
    ⟨none, .store 2 (.tmp 4) (.tmp 7), none, .seq, [], []⟩])
  .ret))⟩

/-- forecourt/pole.Highest -/
def f11 : AFunc := ⟨2, [.tmp 4, .tmp 5],
  (.seq (.region [⟨(some 3), .box (.tmp 1), none, .seq, [], []⟩,
    ⟨(some 4), .move (.const (.slice none 0 0)), none, .seq, [], []⟩,
    ⟨(some 5), .move (.const (.int .i64 0)), none, .seq, [], []⟩])
  (.seq (.seq (.region [⟨(some 11), .move (.tmp 0), none, .seq, [], []⟩,
     ⟨(some 12), .load (some 2) (.tmp 3), none, .seq, [], []⟩,
     ⟨(some 13), .call 29 [(.tmp 11), (.tmp 12)], none, .seq, [], []⟩,
     ⟨(some 6), .move (.tmp 13), none, .seq, [], []⟩])
   (.seq (.region [⟨(some 14), .move (.tmp 6), none, .seq, [], []⟩,
     ⟨(some 15), .bin .neq (.tmp 14) (.const (.int .i64 0)), none, .seq, [], []⟩])
   (.cond (.tmp 15)
    (.seq (.region [⟨(some 16), .move (.tmp 6), none, .seq, [], []⟩,
      ⟨(some 4), .move (.const (.slice none 0 0)), none, .seq, [], []⟩,
      ⟨(some 5), .move (.tmp 16), none, .seq, [], []⟩])
    .ret)
    .skip)))
  (.seq (.region [⟨(some 7), .move (.const (.slice none 0 0)), none, .seq, [], []⟩])
  (.seq (.seq (.region [⟨(some 17), .move (.tmp 0), none, .seq, [], []⟩,
     ⟨(some 18), .load (some 2) (.tmp 3), none, .seq, [], []⟩,
     ⟨(some 19), .call 31 [(.tmp 17), (.tmp 18)], none, .seq, [], []⟩,
     ⟨(some 20), .len .sl (.tmp 19), none, .seq, [], []⟩,
     ⟨(some 21), .move (.const (.int .i64 0)), none, .seq, [], []⟩])
   (.block 0
    (.loop
     (.keep [0, 3, 7, 19, 20, 21]
      (.seq (.region [⟨(some 22), .bin .lss (.tmp 21) (.tmp 20), none, .seq, [], []⟩])
      (.seq (.cond (.tmp 22)
        .skip
        (.exit 0))
      (.seq (.block 1
        (.seq (.region [⟨(some 23), .indexAddr none 1 (.tmp 19) (.tmp 21), none, .seq, [], []⟩,
          ⟨(some 24), .load none (.tmp 23), none, .seq, [], []⟩,
          ⟨(some 9), .move (.tmp 24), none, .seq, [], []⟩])
        (.seq (.region [⟨(some 25), .move (.tmp 9), none, .seq, [], []⟩,
          ⟨(some 26), .move (.tmp 0), none, .seq, [], []⟩,
          ⟨(some 27), .load (some 2) (.tmp 3), none, .seq, [], []⟩,
          ⟨(some 28), .move (.tmp 9), none, .seq, [], []⟩,
          ⟨(some 29), .call 30 [(.tmp 26), (.tmp 27), (.tmp 28)], none, .seq, [], []⟩,
          ⟨(some 30), .build [(.int .i64 0), (.int .i64 0)] (.list [(0, 1), (1, 1)]) [(0, (.tmp 25)), (1, (.tmp 29))], none, .seq, [], []⟩,
          ⟨(some 10), .alloc [(.int .i64 0), (.int .i64 0)], none, .seq, [], []⟩,
          ⟨none, .store 2 (.tmp 10) (.tmp 30), none, .seq, [], []⟩])
        (.seq (.region [⟨(some 31), .move (.tmp 7), none, .still, [], []⟩,
          ⟨(some 32), .len .sl (.tmp 31), none, .still, [], []⟩,
          ⟨(some 33), .bin .eql (.tmp 32) (.const (.int .i64 0)), none, .still, [], []⟩,
          ⟨(some 34), .move (.tmp 33), none, .still, [], []⟩,
          ⟨(some 35), .move (.tmp 7), some (34, false), .still, [], []⟩,
          ⟨(some 36), .move (.tmp 7), some (34, false), .still, [], []⟩,
          ⟨(some 37), .len .sl (.tmp 36), some (34, false), .still, [], []⟩,
          ⟨(some 38), .bin .sub (.tmp 37) (.const (.int .i64 1)), some (34, false), .still, [], []⟩,
          ⟨(some 39), .indexAddr none 2 (.tmp 35) (.tmp 38), some (34, false), .still, [], []⟩,
          ⟨(some 40), .fieldAddr 1 (.tmp 39), some (34, false), .still, [], []⟩,
          ⟨(some 41), .load none (.tmp 40), some (34, false), .rd, [], []⟩,
          ⟨(some 42), .fieldAddr 1 (.tmp 10), some (34, false), .still, [], []⟩,
          ⟨(some 43), .load none (.tmp 42), some (34, false), .rd, [], []⟩,
          ⟨(some 44), .bin .neq (.tmp 41) (.tmp 43), some (34, false), .still, [], []⟩,
          ⟨(some 45), .pick (.tmp 34) (.const (.bool true)) (.tmp 44), none, .still, [], []⟩])
        (.cond (.tmp 45)
         (.region [⟨(some 46), .move (.tmp 7), none, .still, [], []⟩,
          ⟨(some 47), .move (.tmp 7), none, .still, [], []⟩,
          ⟨(some 48), .len .sl (.tmp 47), none, .still, [], []⟩,
          ⟨(some 49), .move (.tmp 7), none, .still, [], []⟩,
          ⟨(some 50), .len .sl (.tmp 49), none, .still, [], []⟩,
          ⟨(some 51), .slice (.sl 2) (.tmp 46) none (some (.tmp 48)) (some (.tmp 50)), none, .mk, [], []⟩,
          ⟨(some 52), .load (some 2) (.tmp 10), none, .rd, [0], []⟩,
          ⟨(some 53), .buildSlice 2 [(.int .i64 0), (.int .i64 0)] 1 [(0, (.tmp 52))], none, .mk, [], []⟩,
          ⟨(some 54), .append 2 16 (.tmp 51) (.tmp 53), none, .seq, [], []⟩,
          ⟨(some 7), .move (.tmp 54), none, .still, [], []⟩])
         .skip)))))
      (.region [⟨(some 55), .bin .add (.tmp 21) (.const (.int .i64 1)), none, .seq, [], []⟩,
       ⟨(some 21), .move (.tmp 55), none, .seq, [], []⟩]))))))))
  (.seq (.region [⟨(some 56), .move (.tmp 7), none, .seq, [], []⟩,
    ⟨(some 4), .move (.tmp 56), none, .seq, [], []⟩,
    ⟨(some 5), .move (.const (.int .i64 0)), none, .seq, [], []⟩])
  .ret)))))⟩

/-- forecourt/pole.CheckRounding -/
def f12 : AFunc := ⟨2, [.tmp 4],
  (.seq (.region [⟨(some 2), .box (.tmp 0), none, .seq, [], []⟩,
    ⟨(some 4), .move (.const (.int .i64 0)), none, .seq, [], []⟩])
  (.seq (.seq (.region [⟨(some 15), .load (some 2) (.tmp 2), none, .seq, [], []⟩,
     ⟨(some 16), .call 32 [(.tmp 15)], none, .seq, [], []⟩,
     ⟨(some 5), .move (.tmp 16), none, .seq, [], []⟩])
   (.seq (.region [⟨(some 17), .move (.tmp 5), none, .seq, [], []⟩,
     ⟨(some 18), .bin .neq (.tmp 17) (.const (.int .i64 0)), none, .seq, [], []⟩])
   (.cond (.tmp 18)
    (.seq (.region [⟨(some 19), .move (.tmp 5), none, .seq, [], []⟩,
      ⟨(some 4), .move (.tmp 19), none, .seq, [], []⟩])
    .ret)
    .skip)))
  (.seq (.seq (.region [⟨(some 20), .move (.tmp 1), none, .seq, [], []⟩,
     ⟨(some 21), .len .sl (.tmp 20), none, .seq, [], []⟩,
     ⟨(some 22), .fieldAddr 1 (.tmp 2), none, .seq, [], []⟩,
     ⟨(some 23), .load none (.tmp 22), none, .seq, [], []⟩,
     ⟨(some 24), .len .sl (.tmp 23), none, .seq, [], []⟩,
     ⟨(some 25), .bin .neq (.tmp 21) (.tmp 24), none, .seq, [], []⟩,
     ⟨(some 26), .move (.tmp 25), none, .seq, [], []⟩,
     ⟨(some 27), .move (.tmp 1), some (26, false), .seq, [], []⟩,
     ⟨(some 28), .makeFunc 34 [] [(.tmp 2)], some (26, false), .seq, [], []⟩,
     ⟨(some 29), .call 33 [(.tmp 27), (.tmp 28)], some (26, false), .seq, [], []⟩,
     ⟨(some 30), .pick (.tmp 26) (.const (.bool true)) (.tmp 29), none, .seq, [], []⟩])
   (.cond (.tmp 30)
    (.seq (.region [⟨(some 4), .move (.const (.int .i64 15)), none, .seq, [], []⟩])
    .ret)
    .skip))
  (.seq (.region [⟨(some 31), .makeFunc 35 [] [(.tmp 2)], none, .seq, [], []⟩,
    ⟨(some 6), .move (.tmp 31), none, .seq, [], []⟩])
  (.seq (.seq (.region [⟨(some 32), .fieldAddr 1 (.tmp 2), none, .seq, [], []⟩,
     ⟨(some 33), .load none (.tmp 32), none, .seq, [], []⟩,
     ⟨(some 34), .len .sl (.tmp 33), none, .seq, [], []⟩,
     ⟨(some 35), .move (.const (.int .i64 0)), none, .seq, [], []⟩])
   (.block 0
    (.loop
     (.keep [1, 2, 6, 33, 34, 35]
      (.seq (.region [⟨(some 36), .bin .lss (.tmp 35) (.tmp 34), none, .seq, [], []⟩])
      (.seq (.cond (.tmp 36)
        .skip
        (.exit 0))
      (.seq (.block 1
        (.seq (.region [⟨(some 37), .move (.tmp 35), none, .seq, [], []⟩,
          ⟨(some 38), .indexAddr none 1 (.tmp 33) (.tmp 35), none, .seq, [], []⟩,
          ⟨(some 39), .load none (.tmp 38), none, .seq, [], []⟩,
          ⟨(some 7), .move (.tmp 37), none, .seq, [], []⟩,
          ⟨(some 8), .move (.tmp 39), none, .seq, [], []⟩])
        (.seq (.region [⟨(some 40), .move (.tmp 8), none, .seq, [], []⟩,
          ⟨(some 41), .len .sl (.tmp 40), none, .seq, [], []⟩,
          ⟨(some 42), .move (.const (.int .i64 0)), none, .seq, [], []⟩])
        (.block 2
         (.loop
          (.keep [1, 2, 6, 7, 33, 34, 35, 40, 41, 42]
           (.seq (.region [⟨(some 43), .bin .lss (.tmp 42) (.tmp 41), none, .seq, [], []⟩])
           (.seq (.cond (.tmp 43)
             .skip
             (.exit 2))
           (.seq (.block 3
             (.seq (.region [⟨(some 44), .move (.tmp 42), none, .seq, [], []⟩,
               ⟨(some 45), .indexAddr none 1 (.tmp 40) (.tmp 42), none, .seq, [], []⟩,
               ⟨(some 46), .load none (.tmp 45), none, .seq, [], []⟩,
               ⟨(some 9), .move (.tmp 44), none, .seq, [], []⟩,
               ⟨(some 10), .move (.tmp 46), none, .seq, [], []⟩])
             (.seq (.region [⟨(some 47), .move (.tmp 6), none, .seq, [], []⟩,
               ⟨(some 48), .move (.tmp 10), none, .seq, [], []⟩,
               ⟨(some 49), .move (.tmp 1), none, .seq, [], []⟩,
               ⟨(some 50), .move (.tmp 7), none, .seq, [], []⟩,
               ⟨(some 51), .indexAddr none 1 (.tmp 49) (.tmp 50), none, .seq, [], []⟩,
               ⟨(some 52), .load none (.tmp 51), none, .seq, [], []⟩,
               ⟨(some 53), .move (.tmp 9), none, .seq, [], []⟩,
               ⟨(some 54), .indexAddr none 1 (.tmp 52) (.tmp 53), none, .seq, [], []⟩,
               ⟨(some 55), .load none (.tmp 54), none, .seq, [], []⟩,
               ⟨(some 56), .callv (.tmp 47) [(.tmp 48), (.tmp 55)], none, .seq, [], []⟩,
               ⟨(some 57), .un .not (.tmp 56), none, .seq, [], []⟩])
             (.cond (.tmp 57)
              (.seq (.region [⟨(some 4), .move (.const (.int .i64 16)), none, .seq, [], []⟩])
              .ret)
              .skip))))
           (.region [⟨(some 58), .bin .add (.tmp 42) (.const (.int .i64 1)), none, .seq, [], []⟩,
            ⟨(some 42), .move (.tmp 58), none, .seq, [], []⟩]))))))))))
      (.region [⟨(some 59), .bin .add (.tmp 35) (.const (.int .i64 1)), none, .seq, [], []⟩,
       ⟨(some 35), .move (.tmp 59), none, .seq, [], []⟩]))))))))
  (.seq (.region [⟨(some 60), .load (some 2) (.tmp 2), none, .seq, [], []⟩,
    ⟨(some 61), .call 36 [(.tmp 60)], none, .seq, [], []⟩,
    ⟨(some 62), .move (.tmp 1), none, .seq, [], []⟩,
    ⟨(some 63), .build [(.int .i64 0), (.slice none 0 0)] (.list [(0, 1), (1, 1)]) [(0, (.const (.int .i64 1))), (1, (.tmp 62))], none, .seq, [], []⟩,
    ⟨(some 64), .call 36 [(.tmp 63)], none, .seq, [], []⟩,
    ⟨(some 11), .move (.tmp 61), none, .seq, [], []⟩,
    ⟨(some 12), .move (.tmp 64), none, .seq, [], []⟩])
  (.seq (.seq (.region [⟨(some 65), .move (.tmp 11), none, .seq, [], []⟩,
     ⟨(some 66), .nilCheck (.tmp 65), none, .seq, [], []⟩,
     ⟨(some 67), .fieldAddr 2 (.tmp 66), none, .seq, [], []⟩,
     ⟨(some 68), .load none (.tmp 67), none, .seq, [], []⟩,
     ⟨(some 69), .len .sl (.tmp 68), none, .seq, [], []⟩,
     ⟨(some 70), .move (.const (.int .i64 0)), none, .seq, [], []⟩])
   (.block 4
    (.loop
     (.keep [6, 12, 68, 69, 70]
      (.seq (.region [⟨(some 71), .bin .lss (.tmp 70) (.tmp 69), none, .seq, [], []⟩])
      (.seq (.cond (.tmp 71)
        .skip
        (.exit 4))
      (.seq (.block 5
        (.seq (.region [⟨(some 72), .move (.tmp 70), none, .seq, [], []⟩,
          ⟨(some 73), .indexAddr none 3 (.tmp 68) (.tmp 70), none, .seq, [], []⟩,
          ⟨(some 74), .load (some 3) (.tmp 73), none, .seq, [], []⟩,
          ⟨(some 14), .alloc [(.int .i64 0), (.int .i64 0), (.int .i64 0)], none, .seq, [], []⟩,
          ⟨(some 13), .move (.tmp 72), none, .seq, [], []⟩,
          ⟨none, .store 3 (.tmp 14) (.tmp 74), none, .seq, [], []⟩])
        (.seq (.region [⟨(some 75), .move (.tmp 6), none, .still, [], []⟩,
          ⟨(some 76), .fieldAddr 2 (.tmp 14), none, .still, [], []⟩,
          ⟨(some 77), .load none (.tmp 76), none, .rd, [], []⟩,
          ⟨(some 78), .move (.tmp 12), none, .still, [], []⟩,
          ⟨(some 79), .nilCheck (.tmp 78), none, .still, [], []⟩,
          ⟨(some 80), .fieldAddr 2 (.tmp 79), none, .still, [], []⟩,
          ⟨(some 81), .load none (.tmp 80), none, .rd, [], []⟩,
          ⟨(some 82), .move (.tmp 13), none, .still, [], []⟩,
          ⟨(some 83), .indexAddr none 3 (.tmp 81) (.tmp 82), none, .still, [], []⟩,
          ⟨(some 84), .fieldAddr 2 (.tmp 83), none, .still, [], []⟩,
          ⟨(some 85), .load none (.tmp 84), none, .rd, [], []⟩,
          ⟨(some 86), .callv (.tmp 75) [(.tmp 77), (.tmp 85)], none, .seq, [], []⟩,
          ⟨(some 87), .un .not (.tmp 86), none, .still, [], []⟩])
        (.cond (.tmp 87)
         (.seq (.region [⟨(some 4), .move (.const (.int .i64 16)), none, .seq, [], []⟩])
         .ret)
         .skip))))
      (.region [⟨(some 88), .bin .add (.tmp 70) (.const (.int .i64 1)), none, .seq, [], []⟩,
       ⟨(some 70), .move (.tmp 88), none, .seq, [], []⟩]))))))))
  (.seq (.region [⟨(some 4), .move (.const (.int .i64 0)), none, .seq, [], []⟩])
  .ret))))))))⟩

/-- forecourt/forecourtlaw09.prices -/
def f13 : AFunc := ⟨2, [.tmp 4],
  (.seq (.region [⟨(some 4), .move (.const (.bool false)), none, .seq, [], []⟩])
  (.seq (.seq (.region [⟨(some 6), .move (.tmp 0), none, .seq, [], []⟩,
     ⟨(some 7), .len .sl (.tmp 6), none, .seq, [], []⟩,
     ⟨(some 8), .move (.tmp 1), none, .seq, [], []⟩,
     ⟨(some 9), .len .sl (.tmp 8), none, .seq, [], []⟩,
     ⟨(some 10), .bin .neq (.tmp 7) (.tmp 9), none, .seq, [], []⟩])
   (.cond (.tmp 10)
    (.seq (.region [⟨(some 4), .move (.const (.bool false)), none, .seq, [], []⟩])
    .ret)
    .skip))
  (.seq (.seq (.region [⟨(some 5), .move (.const (.int .i64 0)), none, .seq, [], []⟩])
   (.block 0
    (.loop
     (.keep [0, 1, 5]
      (.seq (.seq (.region [⟨(some 11), .move (.tmp 5), none, .seq, [], []⟩,
         ⟨(some 12), .move (.tmp 0), none, .seq, [], []⟩,
         ⟨(some 13), .len .sl (.tmp 12), none, .seq, [], []⟩,
         ⟨(some 14), .bin .lss (.tmp 11) (.tmp 13), none, .seq, [], []⟩])
       (.cond (.tmp 14)
        .skip
        (.exit 0)))
      (.seq (.block 1
        (.seq (.region [⟨(some 17), .move (.tmp 0), none, .still, [], []⟩,
          ⟨(some 18), .move (.tmp 5), none, .still, [], []⟩,
          ⟨(some 19), .indexAddr none 2 (.tmp 17) (.tmp 18), none, .still, [], []⟩,
          ⟨(some 20), .load (some 2) (.tmp 19), none, .rd, [], []⟩,
          ⟨(some 21), .move (.tmp 1), none, .still, [], []⟩,
          ⟨(some 22), .move (.tmp 5), none, .still, [], []⟩,
          ⟨(some 23), .indexAddr none 2 (.tmp 21) (.tmp 22), none, .still, [], []⟩,
          ⟨(some 24), .load (some 2) (.tmp 23), none, .rd, [], []⟩,
          ⟨(some 25), .eqFlat true [.int, .int] (.tmp 20) (.tmp 24), none, .still, [], []⟩])
        (.cond (.tmp 25)
         (.seq (.region [⟨(some 4), .move (.const (.bool false)), none, .seq, [], []⟩])
         .ret)
         .skip)))
      (.region [⟨(some 15), .move (.tmp 5), none, .seq, [], []⟩,
       ⟨(some 16), .bin .add (.tmp 15) (.const (.int .i64 1)), none, .seq, [], []⟩,
       ⟨(some 5), .move (.tmp 16), none, .seq, [], []⟩])))))))
  (.seq (.region [⟨(some 4), .move (.const (.bool true)), none, .seq, [], []⟩])
  .ret))))⟩

/-- forecourt/forecourtlaw09.Price -/
def f14 : AFunc := ⟨2, [.cell 4 (some 2)],
  (.seq (.region [⟨(some 4), .alloc [(.int .i64 0), (.int .i64 0)], none, .seq, [], []⟩])
  (.seq (.region [⟨(some 5), .move (.tmp 0), none, .seq, [], []⟩,
    ⟨(some 6), .move (.tmp 1), none, .seq, [], []⟩,
    ⟨(some 7), .build [(.int .i64 0), (.int .i64 0)] (.list [(0, 1), (1, 1)]) [(0, (.tmp 5)), (1, (.tmp 6))], none, .seq, [], []⟩,
    ⟨none, .store 2 (.tmp 4) (.tmp 7), none, .seq, [], []⟩])
  .ret))⟩

/-- forecourt/forecourtlaw09.long -/
def f16 : AFunc := ⟨1, [.tmp 2],
  (.seq (.region [⟨(some 2), .move (.const (.bool false)), none, .seq, [], []⟩])
  (.seq (.seq (.region [⟨(some 4), .move (.tmp 0), none, .seq, [], []⟩,
     ⟨(some 5), .len .sl (.tmp 4), none, .seq, [], []⟩,
     ⟨(some 6), .bin .gtr (.tmp 5) (.const (.int .i64 10)), none, .seq, [], []⟩])
   (.cond (.tmp 6)
    (.seq (.region [⟨(some 2), .move (.const (.bool true)), none, .seq, [], []⟩])
    .ret)
    .skip))
  (.seq (.seq (.region [⟨(some 3), .move (.const (.int .i64 0)), none, .seq, [], []⟩])
   (.block 0
    (.loop
     (.keep [0, 3]
      (.seq (.seq (.region [⟨(some 7), .move (.tmp 3), none, .seq, [], []⟩,
         ⟨(some 8), .move (.tmp 0), none, .seq, [], []⟩,
         ⟨(some 9), .len .sl (.tmp 8), none, .seq, [], []⟩,
         ⟨(some 10), .bin .lss (.tmp 7) (.tmp 9), none, .seq, [], []⟩])
       (.cond (.tmp 10)
        .skip
        (.exit 0)))
      (.seq (.block 1
        (.seq (.region [⟨(some 13), .move (.tmp 0), none, .seq, [], []⟩,
          ⟨(some 14), .move (.tmp 3), none, .seq, [], []⟩,
          ⟨(some 15), .indexAddr none 1 (.tmp 13) (.tmp 14), none, .seq, [], []⟩,
          ⟨(some 16), .load none (.tmp 15), none, .seq, [], []⟩,
          ⟨(some 17), .len .sl (.tmp 16), none, .seq, [], []⟩,
          ⟨(some 18), .bin .gtr (.tmp 17) (.const (.int .i64 10)), none, .seq, [], []⟩])
        (.cond (.tmp 18)
         (.seq (.region [⟨(some 2), .move (.const (.bool true)), none, .seq, [], []⟩])
         .ret)
         .skip)))
      (.region [⟨(some 11), .move (.tmp 3), none, .seq, [], []⟩,
       ⟨(some 12), .bin .add (.tmp 11) (.const (.int .i64 1)), none, .seq, [], []⟩,
       ⟨(some 3), .move (.tmp 12), none, .seq, [], []⟩])))))))
  (.seq (.region [⟨(some 2), .move (.const (.bool false)), none, .seq, [], []⟩])
  .ret))))⟩

/-- forecourt/pole.CheckMix -/
def f17 : AFunc := ⟨2, [.tmp 4],
  (.seq (.region [⟨(some 2), .box (.tmp 0), none, .seq, [], []⟩,
    ⟨(some 4), .move (.const (.int .i64 0)), none, .seq, [], []⟩])
  (.seq (.region [⟨(some 13), .load (some 2) (.tmp 2), none, .seq, [], []⟩,
    ⟨(some 14), .call 32 [(.tmp 13)], none, .seq, [], []⟩,
    ⟨(some 5), .move (.tmp 14), none, .seq, [], []⟩])
  (.seq (.block 0
    (.seq (.region [⟨(some 16), .move (.tmp 5), none, .seq, [], []⟩,
      ⟨(some 17), .bin .neq (.tmp 16) (.const (.int .i64 0)), none, .seq, [], []⟩,
      ⟨(some 15), .move (.tmp 17), none, .seq, [], []⟩])
    (.cond (.tmp 15)
     (.seq (.region [⟨(some 18), .move (.tmp 5), none, .seq, [], []⟩,
       ⟨(some 4), .move (.tmp 18), none, .seq, [], []⟩])
     .ret)
     (.seq (.region [⟨(some 20), .move (.tmp 1), none, .seq, [], []⟩,
       ⟨(some 21), .len .sl (.tmp 20), none, .seq, [], []⟩,
       ⟨(some 22), .bin .eql (.tmp 21) (.const (.int .i64 0)), none, .seq, [], []⟩,
       ⟨(some 23), .move (.tmp 22), none, .seq, [], []⟩,
       ⟨(some 24), .move (.tmp 1), some (23, false), .seq, [], []⟩,
       ⟨(some 25), .len .sl (.tmp 24), some (23, false), .seq, [], []⟩,
       ⟨(some 26), .bin .gtr (.tmp 25) (.const (.int .i64 60)), some (23, false), .seq, [], []⟩,
       ⟨(some 27), .pick (.tmp 23) (.const (.bool true)) (.tmp 26), none, .seq, [], []⟩,
       ⟨(some 19), .move (.tmp 27), none, .seq, [], []⟩])
     (.cond (.tmp 19)
      (.seq (.region [⟨(some 4), .move (.const (.int .i64 6)), none, .seq, [], []⟩])
      .ret)
      (.seq (.region [⟨(some 29), .move (.tmp 1), none, .seq, [], []⟩,
        ⟨(some 30), .makeFunc 40 [] [(.tmp 2)], none, .seq, [], []⟩,
        ⟨(some 31), .call 39 [(.tmp 29), (.tmp 30)], none, .seq, [], []⟩,
        ⟨(some 28), .move (.tmp 31), none, .seq, [], []⟩])
      (.cond (.tmp 28)
       (.seq (.region [⟨(some 4), .move (.const (.int .i64 3)), none, .seq, [], []⟩])
       .ret)
       .skip)))))))
  (.seq (.region [⟨(some 6), .move (.const (.int .i64 0)), none, .seq, [], []⟩])
  (.seq (.seq (.region [⟨(some 32), .move (.tmp 1), none, .seq, [], []⟩,
     ⟨(some 33), .len .sl (.tmp 32), none, .seq, [], []⟩,
     ⟨(some 34), .move (.const (.int .i64 0)), none, .seq, [], []⟩])
   (.block 1
    (.loop
     (.keep [1, 2, 6, 32, 33, 34]
      (.seq (.region [⟨(some 35), .bin .lss (.tmp 34) (.tmp 33), none, .seq, [], []⟩])
      (.seq (.cond (.tmp 35)
        .skip
        (.exit 1))
      (.seq (.block 2
        (.seq (.region [⟨(some 36), .indexAddr none 2 (.tmp 32) (.tmp 34), none, .seq, [], []⟩,
          ⟨(some 37), .load (some 2) (.tmp 36), none, .seq, [], []⟩,
          ⟨(some 8), .alloc [(.int .i64 0), (.slice none 0 0)], none, .seq, [], []⟩,
          ⟨none, .store 2 (.tmp 8) (.tmp 37), none, .seq, [], []⟩])
        (.seq (.seq (.region [⟨(some 38), .load (some 2) (.tmp 2), none, .seq, [], []⟩,
           ⟨(some 39), .fieldAddr 1 (.tmp 8), none, .seq, [], []⟩,
           ⟨(some 40), .load none (.tmp 39), none, .seq, [], []⟩,
           ⟨(some 41), .call 12 [(.tmp 38), (.tmp 40)], none, .seq, [], []⟩,
           ⟨(some 9), .move (.tmp 41), none, .seq, [], []⟩])
         (.seq (.region [⟨(some 42), .move (.tmp 9), none, .seq, [], []⟩,
           ⟨(some 43), .bin .neq (.tmp 42) (.const (.int .i64 0)), none, .seq, [], []⟩])
         (.cond (.tmp 43)
          (.seq (.region [⟨(some 44), .move (.tmp 9), none, .seq, [], []⟩,
            ⟨(some 4), .move (.tmp 44), none, .seq, [], []⟩])
          .ret)
          .skip)))
        (.region [⟨(some 45), .move (.tmp 6), none, .seq, [], []⟩,
         ⟨(some 46), .fieldAddr 0 (.tmp 8), none, .seq, [], []⟩,
         ⟨(some 47), .load none (.tmp 46), none, .seq, [], []⟩,
         ⟨(some 48), .bin .add (.tmp 45) (.tmp 47), none, .seq, [], []⟩,
         ⟨(some 6), .move (.tmp 48), none, .seq, [], []⟩]))))
      (.region [⟨(some 49), .bin .add (.tmp 34) (.const (.int .i64 1)), none, .seq, [], []⟩,
       ⟨(some 34), .move (.tmp 49), none, .seq, [], []⟩]))))))))
  (.seq (.region [⟨(some 50), .fieldAddr 1 (.tmp 2), none, .seq, [], []⟩,
    ⟨(some 51), .load none (.tmp 50), none, .seq, [], []⟩,
    ⟨(some 52), .call 41 [(.tmp 51)], none, .seq, [], []⟩,
    ⟨(some 10), .move (.tmp 52), none, .seq, [], []⟩])
  (.seq (.seq (.region [⟨(some 53), .move (.tmp 1), none, .seq, [], []⟩,
     ⟨(some 54), .len .sl (.tmp 53), none, .seq, [], []⟩,
     ⟨(some 55), .move (.const (.int .i64 0)), none, .seq, [], []⟩])
   (.block 3
    (.loop
     (.keep [2, 6, 10, 53, 54, 55]
      (.seq (.region [⟨(some 56), .bin .lss (.tmp 55) (.tmp 54), none, .seq, [], []⟩])
      (.seq (.cond (.tmp 56)
        .skip
        (.exit 3))
      (.seq (.block 4
        (.seq (.region [⟨(some 57), .indexAddr none 2 (.tmp 53) (.tmp 55), none, .seq, [], []⟩,
          ⟨(some 58), .load (some 2) (.tmp 57), none, .seq, [], []⟩,
          ⟨(some 12), .alloc [(.int .i64 0), (.slice none 0 0)], none, .seq, [], []⟩,
          ⟨none, .store 2 (.tmp 12) (.tmp 58), none, .seq, [], []⟩])
        (.region [⟨(some 59), .move (.tmp 10), none, .seq, [], []⟩,
         ⟨(some 60), .load (some 2) (.tmp 12), none, .seq, [], []⟩,
         ⟨(some 61), .call 42 [(.tmp 59), (.tmp 60)], none, .seq, [], []⟩])))
      (.region [⟨(some 62), .bin .add (.tmp 55) (.const (.int .i64 1)), none, .seq, [], []⟩,
       ⟨(some 55), .move (.tmp 62), none, .seq, [], []⟩]))))))))
  (.seq (.seq (.region [⟨(some 63), .move (.tmp 6), none, .seq, [], []⟩,
     ⟨(some 64), .fieldAddr 0 (.tmp 2), none, .seq, [], []⟩,
     ⟨(some 65), .load none (.tmp 64), none, .seq, [], []⟩,
     ⟨(some 66), .bin .neq (.tmp 63) (.tmp 65), none, .seq, [], []⟩,
     ⟨(some 67), .move (.tmp 66), none, .seq, [], []⟩,
     ⟨(some 68), .move (.tmp 10), some (67, false), .seq, [], []⟩,
     ⟨(some 69), .call 33 [(.tmp 68), (.fn 43)], some (67, false), .seq, [], []⟩,
     ⟨(some 70), .pick (.tmp 67) (.const (.bool true)) (.tmp 69), none, .seq, [], []⟩])
   (.cond (.tmp 70)
    (.seq (.region [⟨(some 4), .move (.const (.int .i64 14)), none, .seq, [], []⟩])
    .ret)
    .skip))
  (.seq (.region [⟨(some 4), .move (.const (.int .i64 0)), none, .seq, [], []⟩])
  .ret)))))))))⟩

/-- forecourt/forecourtref09.CheckMix -/
def f18 : AFunc := ⟨2, [.tmp 4],
  (.seq (.region [⟨(some 2), .box (.tmp 0), none, .seq, [], []⟩,
    ⟨(some 4), .move (.const (.int .i64 0)), none, .seq, [], []⟩])
  (.seq (.seq (.region [⟨(some 13), .load (some 2) (.tmp 2), none, .seq, [], []⟩,
     ⟨(some 14), .call 20 [(.tmp 13)], none, .seq, [], []⟩,
     ⟨(some 15), .bin .neq (.tmp 14) (.const (.int .i64 0)), none, .seq, [], []⟩])
   (.cond (.tmp 15)
    (.seq (.region [⟨(some 16), .load (some 2) (.tmp 2), none, .seq, [], []⟩,
      ⟨(some 17), .call 20 [(.tmp 16)], none, .seq, [], []⟩,
      ⟨(some 4), .move (.tmp 17), none, .seq, [], []⟩])
    .ret)
    .skip))
  (.seq (.seq (.region [⟨(some 18), .move (.tmp 1), none, .seq, [], []⟩,
     ⟨(some 19), .len .sl (.tmp 18), none, .seq, [], []⟩,
     ⟨(some 20), .bin .lss (.tmp 19) (.const (.int .i64 1)), none, .seq, [], []⟩,
     ⟨(some 21), .move (.tmp 20), none, .seq, [], []⟩,
     ⟨(some 22), .move (.tmp 1), some (21, false), .seq, [], []⟩,
     ⟨(some 23), .len .sl (.tmp 22), some (21, false), .seq, [], []⟩,
     ⟨(some 24), .bin .gtr (.tmp 23) (.const (.int .i64 60)), some (21, false), .seq, [], []⟩,
     ⟨(some 25), .pick (.tmp 21) (.const (.bool true)) (.tmp 24), none, .seq, [], []⟩])
   (.cond (.tmp 25)
    (.seq (.region [⟨(some 4), .move (.const (.int .i64 6)), none, .seq, [], []⟩])
    .ret)
    .skip))
  (.seq (.seq (.region [⟨(some 5), .move (.const (.int .i64 0)), none, .seq, [], []⟩])
   (.block 0
    (.loop
     (.keep [1, 2, 5]
      (.seq (.seq (.region [⟨(some 26), .move (.tmp 5), none, .seq, [], []⟩,
         ⟨(some 27), .move (.tmp 1), none, .seq, [], []⟩,
         ⟨(some 28), .len .sl (.tmp 27), none, .seq, [], []⟩,
         ⟨(some 29), .bin .lss (.tmp 26) (.tmp 28), none, .seq, [], []⟩])
       (.cond (.tmp 29)
        .skip
        (.exit 0)))
      (.seq (.block 1
        (.seq (.region [⟨(some 32), .move (.tmp 1), none, .still, [], []⟩,
          ⟨(some 33), .move (.tmp 5), none, .still, [], []⟩,
          ⟨(some 34), .indexAddr none 2 (.tmp 32) (.tmp 33), none, .still, [], []⟩,
          ⟨(some 35), .fieldAddr 0 (.tmp 34), none, .still, [], []⟩,
          ⟨(some 36), .load none (.tmp 35), none, .seq, [], []⟩,
          ⟨(some 37), .bin .lss (.tmp 36) (.const (.int .i64 1)), none, .still, [], []⟩,
          ⟨(some 38), .move (.tmp 37), none, .still, [], []⟩,
          ⟨(some 39), .move (.tmp 1), some (38, false), .still, [], []⟩,
          ⟨(some 40), .move (.tmp 5), some (38, false), .still, [], []⟩,
          ⟨(some 41), .indexAddr none 2 (.tmp 39) (.tmp 40), some (38, false), .still, [], []⟩,
          ⟨(some 42), .fieldAddr 0 (.tmp 41), some (38, false), .still, [], []⟩,
          ⟨(some 43), .load none (.tmp 42), some (38, false), .rd, [], []⟩,
          ⟨(some 44), .fieldAddr 0 (.tmp 2), some (38, false), .still, [], []⟩,
          ⟨(some 45), .load none (.tmp 44), some (38, false), .rd, [], []⟩,
          ⟨(some 46), .bin .gtr (.tmp 43) (.tmp 45), some (38, false), .still, [], []⟩,
          ⟨(some 47), .pick (.tmp 38) (.const (.bool true)) (.tmp 46), none, .still, [], []⟩])
        (.cond (.tmp 47)
         (.seq (.region [⟨(some 4), .move (.const (.int .i64 3)), none, .seq, [], []⟩])
         .ret)
         .skip)))
      (.region [⟨(some 30), .move (.tmp 5), none, .seq, [], []⟩,
       ⟨(some 31), .bin .add (.tmp 30) (.const (.int .i64 1)), none, .seq, [], []⟩,
       ⟨(some 5), .move (.tmp 31), none, .seq, [], []⟩])))))))
  (.seq (.seq (.region [⟨(some 6), .move (.const (.int .i64 0)), none, .seq, [], []⟩])
   (.block 2
    (.loop
     (.keep [1, 2, 6]
      (.seq (.seq (.region [⟨(some 48), .move (.tmp 6), none, .seq, [], []⟩,
         ⟨(some 49), .move (.tmp 1), none, .seq, [], []⟩,
         ⟨(some 50), .len .sl (.tmp 49), none, .seq, [], []⟩,
         ⟨(some 51), .bin .lss (.tmp 48) (.tmp 50), none, .seq, [], []⟩])
       (.cond (.tmp 51)
        .skip
        (.exit 2)))
      (.seq (.block 3
        (.seq (.region [⟨(some 54), .load (some 2) (.tmp 2), none, .rd, [], []⟩,
          ⟨(some 55), .move (.tmp 1), none, .still, [], []⟩,
          ⟨(some 56), .move (.tmp 6), none, .still, [], []⟩,
          ⟨(some 57), .indexAddr none 2 (.tmp 55) (.tmp 56), none, .still, [], []⟩,
          ⟨(some 58), .fieldAddr 1 (.tmp 57), none, .still, [], []⟩,
          ⟨(some 59), .load none (.tmp 58), none, .rd, [], []⟩,
          ⟨(some 60), .call 24 [(.tmp 54), (.tmp 59)], none, .seq, [], []⟩,
          ⟨(some 61), .bin .neq (.tmp 60) (.const (.int .i64 0)), none, .still, [], []⟩])
        (.cond (.tmp 61)
         (.seq (.region [⟨(some 62), .load (some 2) (.tmp 2), none, .rd, [], []⟩,
           ⟨(some 63), .move (.tmp 1), none, .still, [], []⟩,
           ⟨(some 64), .move (.tmp 6), none, .still, [], []⟩,
           ⟨(some 65), .indexAddr none 2 (.tmp 63) (.tmp 64), none, .still, [], []⟩,
           ⟨(some 66), .fieldAddr 1 (.tmp 65), none, .still, [], []⟩,
           ⟨(some 67), .load none (.tmp 66), none, .rd, [], []⟩,
           ⟨(some 68), .call 24 [(.tmp 62), (.tmp 67)], none, .seq, [], []⟩,
           ⟨(some 4), .move (.tmp 68), none, .still, [], []⟩])
         .ret)
         .skip)))
      (.region [⟨(some 52), .move (.tmp 6), none, .seq, [], []⟩,
       ⟨(some 53), .bin .add (.tmp 52) (.const (.int .i64 1)), none, .seq, [], []⟩,
       ⟨(some 6), .move (.tmp 53), none, .seq, [], []⟩])))))))
  (.seq (.region [⟨(some 7), .move (.const (.int .i64 0)), none, .seq, [], []⟩])
  (.seq (.seq (.region [⟨(some 8), .move (.const (.int .i64 0)), none, .seq, [], []⟩])
   (.block 4
    (.loop
     (.keep [1, 2, 7, 8]
      (.seq (.seq (.region [⟨(some 69), .move (.tmp 8), none, .seq, [], []⟩,
         ⟨(some 70), .move (.tmp 1), none, .seq, [], []⟩,
         ⟨(some 71), .len .sl (.tmp 70), none, .seq, [], []⟩,
         ⟨(some 72), .bin .lss (.tmp 69) (.tmp 71), none, .seq, [], []⟩])
       (.cond (.tmp 72)
        .skip
        (.exit 4)))
      (.seq (.block 5
        (.region [⟨(some 75), .move (.tmp 7), none, .seq, [], []⟩,
         ⟨(some 76), .move (.tmp 1), none, .seq, [], []⟩,
         ⟨(some 77), .move (.tmp 8), none, .seq, [], []⟩,
         ⟨(some 78), .indexAddr none 2 (.tmp 76) (.tmp 77), none, .seq, [], []⟩,
         ⟨(some 79), .fieldAddr 0 (.tmp 78), none, .seq, [], []⟩,
         ⟨(some 80), .load none (.tmp 79), none, .seq, [], []⟩,
         ⟨(some 81), .bin .add (.tmp 75) (.tmp 80), none, .seq, [], []⟩,
         ⟨(some 7), .move (.tmp 81), none, .seq, [], []⟩]))
      (.region [⟨(some 73), .move (.tmp 8), none, .seq, [], []⟩,
       ⟨(some 74), .bin .add (.tmp 73) (.const (.int .i64 1)), none, .seq, [], []⟩,
       ⟨(some 8), .move (.tmp 74), none, .seq, [], []⟩])))))))
  (.seq (.seq (.region [⟨(some 82), .move (.tmp 7), none, .seq, [], []⟩,
     ⟨(some 83), .fieldAddr 0 (.tmp 2), none, .seq, [], []⟩,
     ⟨(some 84), .load none (.tmp 83), none, .seq, [], []⟩,
     ⟨(some 85), .bin .neq (.tmp 82) (.tmp 84), none, .seq, [], []⟩])
   (.cond (.tmp 85)
    (.seq (.region [⟨(some 4), .move (.const (.int .i64 14)), none, .seq, [], []⟩])
    .ret)
    .skip))
  (.seq (.seq (.region [⟨(some 9), .move (.const (.int .i64 0)), none, .seq, [], []⟩])
   (.block 6
    (.loop
     (.keep [1, 2, 9]
      (.seq (.seq (.region [⟨(some 86), .move (.tmp 9), none, .seq, [], []⟩,
         ⟨(some 87), .fieldAddr 1 (.tmp 2), none, .seq, [], []⟩,
         ⟨(some 88), .load none (.tmp 87), none, .seq, [], []⟩,
         ⟨(some 89), .len .sl (.tmp 88), none, .seq, [], []⟩,
         ⟨(some 90), .bin .lss (.tmp 86) (.tmp 89), none, .seq, [], []⟩])
       (.cond (.tmp 90)
        .skip
        (.exit 6)))
      (.seq (.block 7
        (.seq (.region [⟨(some 10), .move (.const (.int .i64 0)), none, .seq, [], []⟩])
        (.block 8
         (.loop
          (.keep [1, 2, 9, 10]
           (.seq (.seq (.region [⟨(some 93), .move (.tmp 10), none, .seq, [], []⟩,
              ⟨(some 94), .fieldAddr 1 (.tmp 2), none, .seq, [], []⟩,
              ⟨(some 95), .load none (.tmp 94), none, .seq, [], []⟩,
              ⟨(some 96), .move (.tmp 9), none, .seq, [], []⟩,
              ⟨(some 97), .indexAddr none 1 (.tmp 95) (.tmp 96), none, .seq, [], []⟩,
              ⟨(some 98), .load none (.tmp 97), none, .seq, [], []⟩,
              ⟨(some 99), .len .sl (.tmp 98), none, .seq, [], []⟩,
              ⟨(some 100), .bin .lss (.tmp 93) (.tmp 99), none, .seq, [], []⟩])
            (.cond (.tmp 100)
             .skip
             (.exit 8)))
           (.seq (.block 9
             (.seq (.region [⟨(some 11), .move (.const (.int .i64 0)), none, .seq, [], []⟩])
             (.seq (.seq (.region [⟨(some 12), .move (.const (.int .i64 0)), none, .seq, [], []⟩])
              (.block 10
               (.loop
                (.keep [1, 2, 9, 10, 11, 12]
                 (.seq (.seq (.region [⟨(some 103), .move (.tmp 12), none, .seq, [], []⟩,
                    ⟨(some 104), .move (.tmp 1), none, .seq, [], []⟩,
                    ⟨(some 105), .len .sl (.tmp 104), none, .seq, [], []⟩,
                    ⟨(some 106), .bin .lss (.tmp 103) (.tmp 105), none, .seq, [], []⟩])
                  (.cond (.tmp 106)
                   .skip
                   (.exit 10)))
                 (.seq (.block 11
                   (.region [⟨(some 109), .move (.tmp 11), none, .still, [], []⟩,
                    ⟨(some 110), .move (.tmp 1), none, .still, [], []⟩,
                    ⟨(some 111), .move (.tmp 12), none, .still, [], []⟩,
                    ⟨(some 112), .indexAddr none 2 (.tmp 110) (.tmp 111), none, .still, [], []⟩,
                    ⟨(some 113), .fieldAddr 0 (.tmp 112), none, .still, [], []⟩,
                    ⟨(some 114), .load none (.tmp 113), none, .rd, [], []⟩,
                    ⟨(some 115), .move (.tmp 1), none, .still, [], []⟩,
                    ⟨(some 116), .move (.tmp 12), none, .still, [], []⟩,
                    ⟨(some 117), .indexAddr none 2 (.tmp 115) (.tmp 116), none, .still, [], []⟩,
                    ⟨(some 118), .fieldAddr 1 (.tmp 117), none, .still, [], []⟩,
                    ⟨(some 119), .load none (.tmp 118), none, .rd, [], []⟩,
                    ⟨(some 120), .move (.tmp 9), none, .still, [], []⟩,
                    ⟨(some 121), .indexAddr none 1 (.tmp 119) (.tmp 120), none, .still, [], []⟩,
                    ⟨(some 122), .load none (.tmp 121), none, .rd, [], []⟩,
                    ⟨(some 123), .move (.tmp 10), none, .still, [], []⟩,
                    ⟨(some 124), .indexAddr none 1 (.tmp 122) (.tmp 123), none, .still, [], []⟩,
                    ⟨(some 125), .load none (.tmp 124), none, .rd, [], []⟩,
                    ⟨(some 126), .bin .mul (.tmp 114) (.tmp 125), none, .still, [], []⟩,
                    ⟨(some 127), .bin .add (.tmp 109) (.tmp 126), none, .still, [], []⟩,
                    ⟨(some 11), .move (.tmp 127), none, .still, [], []⟩]))
                 (.region [⟨(some 107), .move (.tmp 12), none, .seq, [], []⟩,
                  ⟨(some 108), .bin .add (.tmp 107) (.const (.int .i64 1)), none, .seq, [], []⟩,
                  ⟨(some 12), .move (.tmp 108), none, .seq, [], []⟩])))))))
             (.seq (.region [⟨(some 128), .move (.tmp 11), none, .seq, [], []⟩,
               ⟨(some 129), .fieldAddr 1 (.tmp 2), none, .seq, [], []⟩,
               ⟨(some 130), .load none (.tmp 129), none, .seq, [], []⟩,
               ⟨(some 131), .move (.tmp 9), none, .seq, [], []⟩,
               ⟨(some 132), .indexAddr none 1 (.tmp 130) (.tmp 131), none, .seq, [], []⟩,
               ⟨(some 133), .load none (.tmp 132), none, .seq, [], []⟩,
               ⟨(some 134), .move (.tmp 10), none, .seq, [], []⟩,
               ⟨(some 135), .indexAddr none 1 (.tmp 133) (.tmp 134), none, .seq, [], []⟩,
               ⟨(some 136), .load none (.tmp 135), none, .seq, [], []⟩,
               ⟨(some 137), .bin .neq (.tmp 128) (.tmp 136), none, .seq, [], []⟩])
             (.cond (.tmp 137)
              (.seq (.region [⟨(some 4), .move (.const (.int .i64 14)), none, .seq, [], []⟩])
              .ret)
              .skip)))))
           (.region [⟨(some 101), .move (.tmp 10), none, .seq, [], []⟩,
            ⟨(some 102), .bin .add (.tmp 101) (.const (.int .i64 1)), none, .seq, [], []⟩,
            ⟨(some 10), .move (.tmp 102), none, .seq, [], []⟩]))))))))
      (.region [⟨(some 91), .move (.tmp 9), none, .seq, [], []⟩,
       ⟨(some 92), .bin .add (.tmp 91) (.const (.int .i64 1)), none, .seq, [], []⟩,
       ⟨(some 9), .move (.tmp 92), none, .seq, [], []⟩])))))))
  (.seq (.region [⟨(some 4), .move (.const (.int .i64 0)), none, .seq, [], []⟩])
  .ret))))))))))⟩

/-- forecourt/pole.Mix -/
def f19 : AFunc := ⟨1, [.tmp 2, .tmp 3],
  (.seq (.region [⟨(some 1), .box (.tmp 0), none, .seq, [], []⟩,
    ⟨(some 2), .move (.const (.slice none 0 0)), none, .seq, [], []⟩,
    ⟨(some 3), .move (.const (.int .i64 0)), none, .seq, [], []⟩])
  (.seq (.seq (.region [⟨(some 15), .load (some 2) (.tmp 1), none, .seq, [], []⟩,
     ⟨(some 16), .call 32 [(.tmp 15)], none, .seq, [], []⟩,
     ⟨(some 4), .move (.tmp 16), none, .seq, [], []⟩])
   (.seq (.region [⟨(some 17), .move (.tmp 4), none, .seq, [], []⟩,
     ⟨(some 18), .bin .neq (.tmp 17) (.const (.int .i64 0)), none, .seq, [], []⟩])
   (.cond (.tmp 18)
    (.seq (.region [⟨(some 19), .move (.tmp 4), none, .seq, [], []⟩,
      ⟨(some 2), .move (.const (.slice none 0 0)), none, .seq, [], []⟩,
      ⟨(some 3), .move (.tmp 19), none, .seq, [], []⟩])
    .ret)
    .skip)))
  (.seq (.region [⟨(some 5), .move (.const (.slice none 0 0)), none, .seq, [], []⟩])
  (.seq (.region [⟨(some 20), .load (some 2) (.tmp 1), none, .seq, [], []⟩,
    ⟨(some 21), .call 36 [(.tmp 20)], none, .seq, [], []⟩,
    ⟨(some 6), .move (.tmp 21), none, .seq, [], []⟩])
  (.seq (.region [⟨(some 22), .fieldAddr 0 (.tmp 1), none, .still, [], []⟩,
    ⟨(some 23), .load none (.tmp 22), none, .rd, [], []⟩,
    ⟨(some 24), .fieldAddr 1 (.tmp 1), none, .still, [], []⟩,
    ⟨(some 25), .load none (.tmp 24), none, .rd, [], []⟩,
    ⟨(some 26), .call 41 [(.tmp 25)], none, .ro, [], []⟩,
    ⟨(some 27), .build [(.int .i64 0), (.slice none 0 0)] (.list [(0, 1), (1, 1)]) [(0, (.tmp 23)), (1, (.tmp 26))], none, .still, [], []⟩,
    ⟨(some 7), .alloc [(.int .i64 0), (.slice none 0 0)], none, .mk, [], []⟩,
    ⟨none, .store 2 (.tmp 7) (.tmp 27), none, .seq, [], []⟩])
  (.seq (.block 0
    (.loop
     (.keep [1, 5, 6, 7]
      (.seq (.seq (.region [⟨(some 28), .fieldAddr 0 (.tmp 7), none, .seq, [], []⟩,
         ⟨(some 29), .load none (.tmp 28), none, .seq, [], []⟩,
         ⟨(some 30), .bin .gtr (.tmp 29) (.const (.int .i64 0)), none, .seq, [], []⟩])
       (.cond (.tmp 30)
        .skip
        (.exit 0)))
      (.block 1
       (.seq (.region [⟨(some 31), .fieldAddr 0 (.tmp 7), none, .still, [], []⟩,
         ⟨(some 32), .load none (.tmp 31), none, .rd, [], []⟩,
         ⟨(some 33), .load (some 2) (.tmp 7), none, .rd, [], []⟩,
         ⟨(some 34), .call 44 [(.tmp 33)], none, .ro, [], []⟩,
         ⟨(some 35), .build [(.int .i64 0), (.slice none 0 0)] (.list [(0, 1), (1, 1)]) [(0, (.tmp 32)), (1, (.tmp 34))], none, .still, [], []⟩,
         ⟨(some 8), .alloc [(.int .i64 0), (.slice none 0 0)], none, .mk, [], []⟩,
         ⟨none, .store 2 (.tmp 8) (.tmp 35), none, .seq, [], []⟩])
       (.seq (.region [⟨(some 36), .load (some 2) (.tmp 7), none, .rd, [], []⟩,
         ⟨(some 37), .call 36 [(.tmp 36)], none, .ro, [], []⟩,
         ⟨(some 38), .fieldAddr 1 (.tmp 8), none, .still, [], []⟩,
         ⟨(some 39), .load none (.tmp 38), none, .rd, [1], []⟩,
         ⟨(some 40), .build [(.int .i64 0), (.slice none 0 0)] (.list [(0, 1), (1, 1)]) [(0, (.const (.int .i64 1))), (1, (.tmp 39))], none, .still, [], []⟩,
         ⟨(some 41), .call 36 [(.tmp 40)], none, .seq, [], []⟩,
         ⟨(some 9), .move (.tmp 37), none, .still, [], []⟩,
         ⟨(some 10), .move (.tmp 41), none, .still, [], []⟩])
       (.seq (.seq (.region [⟨(some 42), .move (.tmp 6), none, .seq, [], []⟩,
          ⟨(some 43), .nilCheck (.tmp 42), none, .seq, [], []⟩,
          ⟨(some 44), .fieldAddr 2 (.tmp 43), none, .seq, [], []⟩,
          ⟨(some 45), .load none (.tmp 44), none, .seq, [], []⟩,
          ⟨(some 46), .len .sl (.tmp 45), none, .seq, [], []⟩,
          ⟨(some 47), .move (.const (.int .i64 0)), none, .seq, [], []⟩])
        (.block 2
         (.loop
          (.keep [1, 5, 6, 7, 8, 9, 10, 45, 46, 47]
           (.seq (.region [⟨(some 48), .bin .lss (.tmp 47) (.tmp 46), none, .seq, [], []⟩])
           (.seq (.cond (.tmp 48)
             .skip
             (.exit 2))
           (.seq (.block 3
             (.seq (.region [⟨(some 49), .move (.tmp 47), none, .seq, [], []⟩,
               ⟨(some 50), .indexAddr none 3 (.tmp 45) (.tmp 47), none, .seq, [], []⟩,
               ⟨(some 51), .load (some 3) (.tmp 50), none, .seq, [], []⟩,
               ⟨(some 12), .alloc [(.int .i64 0), (.int .i64 0), (.int .i64 0)], none, .seq, [], []⟩,
               ⟨(some 11), .move (.tmp 49), none, .seq, [], []⟩,
               ⟨none, .store 3 (.tmp 12) (.tmp 51), none, .seq, [], []⟩])
             (.seq (.seq (.region [⟨(some 52), .fieldAddr 2 (.tmp 12), none, .seq, [], []⟩,
                ⟨(some 53), .load none (.tmp 52), none, .seq, [], []⟩,
                ⟨(some 54), .fieldAddr 0 (.tmp 1), none, .seq, [], []⟩,
                ⟨(some 55), .load none (.tmp 54), none, .seq, [], []⟩,
                ⟨(some 56), .bin .rem (.tmp 53) (.tmp 55), none, .seq, [], []⟩,
                ⟨(some 57), .bin .eql (.tmp 56) (.const (.int .i64 0)), none, .seq, [], []⟩])
              (.cond (.tmp 57)
               (.exit 3)
               .skip))
             (.seq (.region [⟨(some 58), .fieldAddr 2 (.tmp 12), none, .seq, [], []⟩,
               ⟨(some 59), .load none (.tmp 58), none, .seq, [], []⟩,
               ⟨(some 60), .fieldAddr 0 (.tmp 1), none, .seq, [], []⟩,
               ⟨(some 61), .load none (.tmp 60), none, .seq, [], []⟩,
               ⟨(some 62), .bin .quo (.tmp 59) (.tmp 61), none, .seq, [], []⟩,
               ⟨(some 13), .move (.tmp 62), none, .seq, [], []⟩])
             (.seq (.region [⟨(some 63), .move (.tmp 9), none, .still, [], []⟩,
               ⟨(some 64), .nilCheck (.tmp 63), none, .still, [], []⟩,
               ⟨(some 65), .fieldAddr 2 (.tmp 64), none, .still, [], []⟩,
               ⟨(some 66), .load none (.tmp 65), none, .rd, [], []⟩,
               ⟨(some 67), .move (.tmp 11), none, .still, [], []⟩,
               ⟨(some 68), .indexAddr none 3 (.tmp 66) (.tmp 67), none, .still, [], []⟩,
               ⟨(some 69), .fieldAddr 2 (.tmp 68), none, .still, [], []⟩,
               ⟨(some 70), .load none (.tmp 69), none, .rd, [], []⟩,
               ⟨(some 71), .move (.tmp 13), none, .still, [], []⟩,
               ⟨(some 72), .fieldAddr 0 (.tmp 7), none, .still, [], []⟩,
               ⟨(some 73), .load none (.tmp 72), none, .rd, [], []⟩,
               ⟨(some 74), .bin .mul (.tmp 71) (.tmp 73), none, .still, [], []⟩,
               ⟨(some 75), .bin .sub (.tmp 70) (.tmp 74), none, .still, [], []⟩,
               ⟨(some 14), .move (.tmp 75), none, .still, [], []⟩])
             (.seq (.seq (.region [⟨(some 76), .move (.tmp 10), none, .seq, [], []⟩,
                ⟨(some 77), .nilCheck (.tmp 76), none, .seq, [], []⟩,
                ⟨(some 78), .fieldAddr 2 (.tmp 77), none, .seq, [], []⟩,
                ⟨(some 79), .load none (.tmp 78), none, .seq, [], []⟩,
                ⟨(some 80), .move (.tmp 11), none, .seq, [], []⟩,
                ⟨(some 81), .indexAddr none 3 (.tmp 79) (.tmp 80), none, .seq, [], []⟩,
                ⟨(some 82), .fieldAddr 2 (.tmp 81), none, .seq, [], []⟩,
                ⟨(some 83), .load none (.tmp 82), none, .seq, [], []⟩,
                ⟨(some 84), .move (.tmp 13), none, .seq, [], []⟩,
                ⟨(some 85), .bin .eql (.tmp 83) (.tmp 84), none, .seq, [], []⟩])
              (.cond (.tmp 85)
               (.region [⟨(some 86), .fieldAddr 0 (.tmp 7), none, .seq, [], []⟩,
                ⟨(some 87), .load none (.tmp 86), none, .seq, [], []⟩,
                ⟨(some 88), .move (.tmp 14), none, .seq, [], []⟩,
                ⟨(some 89), .bin .sub (.tmp 87) (.tmp 88), none, .seq, [], []⟩,
                ⟨(some 14), .move (.tmp 89), none, .seq, [], []⟩])
               .skip))
             (.region [⟨(some 90), .fieldAddr 0 (.tmp 8), none, .seq, [], []⟩,
              ⟨(some 91), .load none (.tmp 90), none, .seq, [], []⟩,
              ⟨(some 92), .move (.tmp 14), none, .seq, [], []⟩,
              ⟨(some 93), .minmax false [(.tmp 91), (.tmp 92)], none, .seq, [], []⟩,
              ⟨(some 94), .fieldAddr 0 (.tmp 8), none, .seq, [], []⟩,
              ⟨none, .store 1 (.tmp 94) (.tmp 93), none, .seq, [], []⟩])))))))
           (.region [⟨(some 95), .bin .add (.tmp 47) (.const (.int .i64 1)), none, .seq, [], []⟩,
            ⟨(some 47), .move (.tmp 95), none, .seq, [], []⟩]))))))))
       (.seq (.region [⟨(some 96), .fieldAddr 1 (.tmp 7), none, .seq, [], []⟩,
         ⟨(some 97), .load none (.tmp 96), none, .seq, [], []⟩,
         ⟨(some 98), .load (some 2) (.tmp 8), none, .seq, [], []⟩,
         ⟨(some 99), .call 42 [(.tmp 97), (.tmp 98)], none, .seq, [], []⟩])
       (.seq (.region [⟨(some 100), .fieldAddr 0 (.tmp 7), none, .seq, [], []⟩,
         ⟨(some 101), .load none (.tmp 100), none, .seq, [], []⟩,
         ⟨(some 102), .fieldAddr 0 (.tmp 8), none, .seq, [], []⟩,
         ⟨(some 103), .load none (.tmp 102), none, .seq, [], []⟩,
         ⟨(some 104), .bin .sub (.tmp 101) (.tmp 103), none, .seq, [], []⟩,
         ⟨(some 105), .fieldAddr 0 (.tmp 7), none, .seq, [], []⟩,
         ⟨none, .store 1 (.tmp 105) (.tmp 104), none, .seq, [], []⟩])
       (.region [⟨(some 106), .move (.tmp 5), none, .seq, [], []⟩,
        ⟨(some 107), .load (some 2) (.tmp 8), none, .seq, [], []⟩,
        ⟨(some 108), .buildSlice 2 [(.int .i64 0), (.slice none 0 0)] 1 [(0, (.tmp 107))], none, .seq, [], []⟩,
        ⟨(some 109), .append 2 32 (.tmp 106) (.tmp 108), none, .seq, [], []⟩,
        ⟨(some 5), .move (.tmp 109), none, .seq, [], []⟩])))))))))))
  (.seq (.region [⟨(some 110), .move (.tmp 5), none, .seq, [], []⟩,
    ⟨(some 2), .move (.tmp 110), none, .seq, [], []⟩,
    ⟨(some 3), .move (.const (.int .i64 0)), none, .seq, [], []⟩])
  .ret)))))))⟩

/-- forecourt/forecourtref09.CheckTable -/
def f20 : AFunc := ⟨1, [.tmp 2],
  (.seq (.region [⟨(some 1), .box (.tmp 0), none, .seq, [], []⟩,
    ⟨(some 2), .move (.const (.int .i64 0)), none, .seq, [], []⟩])
  (.seq (.seq (.region [⟨(some 6), .fieldAddr 1 (.tmp 1), none, .seq, [], []⟩,
     ⟨(some 7), .load none (.tmp 6), none, .seq, [], []⟩,
     ⟨(some 8), .len .sl (.tmp 7), none, .seq, [], []⟩,
     ⟨(some 9), .bin .lss (.tmp 8) (.const (.int .i64 1)), none, .seq, [], []⟩,
     ⟨(some 10), .move (.tmp 9), none, .seq, [], []⟩,
     ⟨(some 11), .fieldAddr 1 (.tmp 1), some (10, false), .seq, [], []⟩,
     ⟨(some 12), .load none (.tmp 11), some (10, false), .seq, [], []⟩,
     ⟨(some 13), .len .sl (.tmp 12), some (10, false), .seq, [], []⟩,
     ⟨(some 14), .bin .gtr (.tmp 13) (.const (.int .i64 6)), some (10, false), .seq, [], []⟩,
     ⟨(some 15), .pick (.tmp 10) (.const (.bool true)) (.tmp 14), none, .seq, [], []⟩,
     ⟨(some 16), .move (.tmp 15), none, .seq, [], []⟩,
     ⟨(some 17), .fieldAddr 1 (.tmp 1), some (16, false), .seq, [], []⟩,
     ⟨(some 18), .load none (.tmp 17), some (16, false), .seq, [], []⟩,
     ⟨(some 19), .indexAddr none 1 (.tmp 18) (.const (.int .i64 0)), some (16, false), .seq, [], []⟩,
     ⟨(some 20), .load none (.tmp 19), some (16, false), .seq, [], []⟩,
     ⟨(some 21), .len .sl (.tmp 20), some (16, false), .seq, [], []⟩,
     ⟨(some 22), .bin .lss (.tmp 21) (.const (.int .i64 1)), some (16, false), .seq, [], []⟩,
     ⟨(some 23), .pick (.tmp 16) (.const (.bool true)) (.tmp 22), none, .seq, [], []⟩,
     ⟨(some 24), .move (.tmp 23), none, .seq, [], []⟩,
     ⟨(some 25), .fieldAddr 1 (.tmp 1), some (24, false), .seq, [], []⟩,
     ⟨(some 26), .load none (.tmp 25), some (24, false), .seq, [], []⟩,
     ⟨(some 27), .indexAddr none 1 (.tmp 26) (.const (.int .i64 0)), some (24, false), .seq, [], []⟩,
     ⟨(some 28), .load none (.tmp 27), some (24, false), .seq, [], []⟩,
     ⟨(some 29), .len .sl (.tmp 28), some (24, false), .seq, [], []⟩,
     ⟨(some 30), .bin .gtr (.tmp 29) (.const (.int .i64 6)), some (24, false), .seq, [], []⟩,
     ⟨(some 31), .pick (.tmp 24) (.const (.bool true)) (.tmp 30), none, .seq, [], []⟩])
   (.cond (.tmp 31)
    (.seq (.region [⟨(some 2), .move (.const (.int .i64 6)), none, .seq, [], []⟩])
    .ret)
    .skip))
  (.seq (.seq (.region [⟨(some 3), .move (.const (.int .i64 0)), none, .seq, [], []⟩])
   (.block 0
    (.loop
     (.keep [1, 3]
      (.seq (.seq (.region [⟨(some 32), .move (.tmp 3), none, .seq, [], []⟩,
         ⟨(some 33), .fieldAddr 1 (.tmp 1), none, .seq, [], []⟩,
         ⟨(some 34), .load none (.tmp 33), none, .seq, [], []⟩,
         ⟨(some 35), .len .sl (.tmp 34), none, .seq, [], []⟩,
         ⟨(some 36), .bin .lss (.tmp 32) (.tmp 35), none, .seq, [], []⟩])
       (.cond (.tmp 36)
        .skip
        (.exit 0)))
      (.seq (.block 1
        (.seq (.region [⟨(some 39), .fieldAddr 1 (.tmp 1), none, .still, [], []⟩,
          ⟨(some 40), .load none (.tmp 39), none, .rd, [], []⟩,
          ⟨(some 41), .move (.tmp 3), none, .still, [], []⟩,
          ⟨(some 42), .indexAddr none 1 (.tmp 40) (.tmp 41), none, .still, [], []⟩,
          ⟨(some 43), .load none (.tmp 42), none, .rd, [], []⟩,
          ⟨(some 44), .len .sl (.tmp 43), none, .still, [], []⟩,
          ⟨(some 45), .fieldAddr 1 (.tmp 1), none, .still, [], []⟩,
          ⟨(some 46), .load none (.tmp 45), none, .rd, [], []⟩,
          ⟨(some 47), .indexAddr none 1 (.tmp 46) (.const (.int .i64 0)), none, .still, [], []⟩,
          ⟨(some 48), .load none (.tmp 47), none, .rd, [], []⟩,
          ⟨(some 49), .len .sl (.tmp 48), none, .still, [], []⟩,
          ⟨(some 50), .bin .neq (.tmp 44) (.tmp 49), none, .still, [], []⟩])
        (.cond (.tmp 50)
         (.seq (.region [⟨(some 2), .move (.const (.int .i64 15)), none, .seq, [], []⟩])
         .ret)
         .skip)))
      (.region [⟨(some 37), .move (.tmp 3), none, .seq, [], []⟩,
       ⟨(some 38), .bin .add (.tmp 37) (.const (.int .i64 1)), none, .seq, [], []⟩,
       ⟨(some 3), .move (.tmp 38), none, .seq, [], []⟩])))))))
  (.seq (.seq (.region [⟨(some 51), .fieldAddr 0 (.tmp 1), none, .seq, [], []⟩,
     ⟨(some 52), .load none (.tmp 51), none, .seq, [], []⟩,
     ⟨(some 53), .bin .lss (.tmp 52) (.const (.int .i64 1)), none, .seq, [], []⟩,
     ⟨(some 54), .move (.tmp 53), none, .seq, [], []⟩,
     ⟨(some 55), .fieldAddr 0 (.tmp 1), some (54, false), .seq, [], []⟩,
     ⟨(some 56), .load none (.tmp 55), some (54, false), .seq, [], []⟩,
     ⟨(some 57), .bin .gtr (.tmp 56) (.const (.int .i64 1000)), some (54, false), .seq, [], []⟩,
     ⟨(some 58), .pick (.tmp 54) (.const (.bool true)) (.tmp 57), none, .seq, [], []⟩])
   (.cond (.tmp 58)
    (.seq (.region [⟨(some 2), .move (.const (.int .i64 2)), none, .seq, [], []⟩])
    .ret)
    .skip))
  (.seq (.seq (.region [⟨(some 4), .move (.const (.int .i64 0)), none, .seq, [], []⟩])
   (.block 2
    (.loop
     (.keep [1, 4]
      (.seq (.seq (.region [⟨(some 59), .move (.tmp 4), none, .seq, [], []⟩,
         ⟨(some 60), .fieldAddr 1 (.tmp 1), none, .seq, [], []⟩,
         ⟨(some 61), .load none (.tmp 60), none, .seq, [], []⟩,
         ⟨(some 62), .len .sl (.tmp 61), none, .seq, [], []⟩,
         ⟨(some 63), .bin .lss (.tmp 59) (.tmp 62), none, .seq, [], []⟩])
       (.cond (.tmp 63)
        .skip
        (.exit 2)))
      (.seq (.block 3
        (.seq (.region [⟨(some 5), .move (.const (.int .i64 0)), none, .seq, [], []⟩])
        (.block 4
         (.loop
          (.keep [1, 4, 5]
           (.seq (.seq (.region [⟨(some 66), .move (.tmp 5), none, .seq, [], []⟩,
              ⟨(some 67), .fieldAddr 1 (.tmp 1), none, .seq, [], []⟩,
              ⟨(some 68), .load none (.tmp 67), none, .seq, [], []⟩,
              ⟨(some 69), .move (.tmp 4), none, .seq, [], []⟩,
              ⟨(some 70), .indexAddr none 1 (.tmp 68) (.tmp 69), none, .seq, [], []⟩,
              ⟨(some 71), .load none (.tmp 70), none, .seq, [], []⟩,
              ⟨(some 72), .len .sl (.tmp 71), none, .seq, [], []⟩,
              ⟨(some 73), .bin .lss (.tmp 66) (.tmp 72), none, .seq, [], []⟩])
            (.cond (.tmp 73)
             .skip
             (.exit 4)))
           (.seq (.block 5
             (.seq (.region [⟨(some 76), .fieldAddr 1 (.tmp 1), none, .seq, [], []⟩,
               ⟨(some 77), .load none (.tmp 76), none, .seq, [], []⟩,
               ⟨(some 78), .move (.tmp 4), none, .seq, [], []⟩,
               ⟨(some 79), .indexAddr none 1 (.tmp 77) (.tmp 78), none, .seq, [], []⟩,
               ⟨(some 80), .load none (.tmp 79), none, .seq, [], []⟩,
               ⟨(some 81), .move (.tmp 5), none, .seq, [], []⟩,
               ⟨(some 82), .indexAddr none 1 (.tmp 80) (.tmp 81), none, .seq, [], []⟩,
               ⟨(some 83), .load none (.tmp 82), none, .seq, [], []⟩,
               ⟨(some 84), .bin .lss (.tmp 83) (.const (.int .i64 0)), none, .seq, [], []⟩,
               ⟨(some 85), .move (.tmp 84), none, .seq, [], []⟩,
               ⟨(some 86), .fieldAddr 1 (.tmp 1), some (85, false), .seq, [], []⟩,
               ⟨(some 87), .load none (.tmp 86), some (85, false), .seq, [], []⟩,
               ⟨(some 88), .move (.tmp 4), some (85, false), .seq, [], []⟩,
               ⟨(some 89), .indexAddr none 1 (.tmp 87) (.tmp 88), some (85, false), .seq, [], []⟩,
               ⟨(some 90), .load none (.tmp 89), some (85, false), .seq, [], []⟩,
               ⟨(some 91), .move (.tmp 5), some (85, false), .seq, [], []⟩,
               ⟨(some 92), .indexAddr none 1 (.tmp 90) (.tmp 91), some (85, false), .seq, [], []⟩,
               ⟨(some 93), .load none (.tmp 92), some (85, false), .seq, [], []⟩,
               ⟨(some 94), .bin .gtr (.tmp 93) (.const (.int .i64 1000000)), some (85, false), .seq, [], []⟩,
               ⟨(some 95), .pick (.tmp 85) (.const (.bool true)) (.tmp 94), none, .seq, [], []⟩])
             (.cond (.tmp 95)
              (.seq (.region [⟨(some 2), .move (.const (.int .i64 3)), none, .seq, [], []⟩])
              .ret)
              .skip)))
           (.region [⟨(some 74), .move (.tmp 5), none, .seq, [], []⟩,
            ⟨(some 75), .bin .add (.tmp 74) (.const (.int .i64 1)), none, .seq, [], []⟩,
            ⟨(some 5), .move (.tmp 75), none, .seq, [], []⟩]))))))))
      (.region [⟨(some 64), .move (.tmp 4), none, .seq, [], []⟩,
       ⟨(some 65), .bin .add (.tmp 64) (.const (.int .i64 1)), none, .seq, [], []⟩,
       ⟨(some 4), .move (.tmp 65), none, .seq, [], []⟩])))))))
  (.seq (.region [⟨(some 2), .move (.const (.int .i64 0)), none, .seq, [], []⟩])
  .ret))))))⟩

/-- forecourt/forecourtlaw09.table -/
def f21 : AFunc := ⟨1, [.tmp 2],
  (.seq (.region [⟨(some 1), .box (.tmp 0), none, .seq, [], []⟩,
    ⟨(some 2), .move (.const (.bool false)), none, .seq, [], []⟩])
  (.seq (.region [⟨(some 3), .fieldAddr 1 (.tmp 1), none, .seq, [], []⟩,
    ⟨(some 4), .load none (.tmp 3), none, .seq, [], []⟩,
    ⟨(some 5), .call 16 [(.tmp 4)], none, .seq, [], []⟩,
    ⟨(some 6), .un .not (.tmp 5), none, .seq, [], []⟩,
    ⟨(some 7), .move (.tmp 6), none, .seq, [], []⟩,
    ⟨(some 8), .load (some 2) (.tmp 1), some (7, true), .seq, [], []⟩,
    ⟨(some 9), .call 20 [(.tmp 8)], some (7, true), .seq, [], []⟩,
    ⟨(some 10), .bin .eql (.tmp 9) (.const (.int .i64 0)), some (7, true), .seq, [], []⟩,
    ⟨(some 11), .pick (.tmp 7) (.tmp 10) (.const (.bool false)), none, .seq, [], []⟩,
    ⟨(some 2), .move (.tmp 11), none, .seq, [], []⟩])
  .ret))⟩

/-- forecourt/forecourtref09.Sums -/
def f22 : AFunc := ⟨1, [.tmp 2],
  (.seq (.region [⟨(some 2), .move (.const (.slice none 0 0)), none, .seq, [], []⟩])
  (.seq (.region [⟨(some 3), .move (.const (.slice none 0 0)), none, .seq, [], []⟩])
  (.seq (.region [⟨(some 4), .move (.const (.int .i64 0)), none, .seq, [], []⟩])
  (.seq (.region [⟨(some 9), .move (.tmp 0), none, .still, [], []⟩,
    ⟨(some 10), .len .sl (.tmp 9), none, .still, [], []⟩,
    ⟨(some 11), .makeSlice 1 8 [(.int .i64 0)] (.tmp 10) (.tmp 10), none, .mk, [], []⟩,
    ⟨(some 12), .move (.tmp 0), none, .still, [], []⟩,
    ⟨(some 13), .indexAddr none 1 (.tmp 12) (.const (.int .i64 0)), none, .still, [], []⟩,
    ⟨(some 14), .load none (.tmp 13), none, .rd, [2], []⟩,
    ⟨(some 15), .len .sl (.tmp 14), none, .still, [], []⟩,
    ⟨(some 16), .makeSlice 1 8 [(.int .i64 0)] (.tmp 15) (.tmp 15), none, .mk, [], []⟩,
    ⟨(some 5), .move (.tmp 11), none, .still, [], []⟩,
    ⟨(some 6), .move (.tmp 16), none, .still, [], []⟩])
  (.seq (.seq (.region [⟨(some 7), .move (.const (.int .i64 0)), none, .seq, [], []⟩])
   (.block 0
    (.loop
     (.keep [0, 3, 4, 5, 6, 7]
      (.seq (.seq (.region [⟨(some 17), .move (.tmp 7), none, .seq, [], []⟩,
         ⟨(some 18), .move (.tmp 0), none, .seq, [], []⟩,
         ⟨(some 19), .len .sl (.tmp 18), none, .seq, [], []⟩,
         ⟨(some 20), .bin .lss (.tmp 17) (.tmp 19), none, .seq, [], []⟩])
       (.cond (.tmp 20)
        .skip
        (.exit 0)))
      (.seq (.block 1
        (.seq (.region [⟨(some 8), .move (.const (.int .i64 0)), none, .seq, [], []⟩])
        (.block 2
         (.loop
          (.keep [0, 3, 4, 5, 6, 7, 8]
           (.seq (.seq (.region [⟨(some 23), .move (.tmp 8), none, .seq, [], []⟩,
              ⟨(some 24), .move (.tmp 0), none, .seq, [], []⟩,
              ⟨(some 25), .move (.tmp 7), none, .seq, [], []⟩,
              ⟨(some 26), .indexAddr none 1 (.tmp 24) (.tmp 25), none, .seq, [], []⟩,
              ⟨(some 27), .load none (.tmp 26), none, .seq, [], []⟩,
              ⟨(some 28), .len .sl (.tmp 27), none, .seq, [], []⟩,
              ⟨(some 29), .bin .lss (.tmp 23) (.tmp 28), none, .seq, [], []⟩])
            (.cond (.tmp 29)
             .skip
             (.exit 2)))
           (.seq (.block 3
             (.seq (.region [⟨(some 32), .move (.tmp 3), none, .seq, [], []⟩,
               ⟨(some 33), .move (.tmp 0), none, .seq, [], []⟩,
               ⟨(some 34), .move (.tmp 7), none, .seq, [], []⟩,
               ⟨(some 35), .indexAddr none 1 (.tmp 33) (.tmp 34), none, .seq, [], []⟩,
               ⟨(some 36), .load none (.tmp 35), none, .seq, [], []⟩,
               ⟨(some 37), .move (.tmp 8), none, .seq, [], []⟩,
               ⟨(some 38), .indexAddr none 1 (.tmp 36) (.tmp 37), none, .seq, [], []⟩,
               ⟨(some 39), .load none (.tmp 38), none, .seq, [], []⟩,
               ⟨(some 40), .buildSlice 1 [(.int .i64 0)] 1 [(0, (.tmp 39))], none, .seq, [], []⟩,
               ⟨(some 41), .append 1 8 (.tmp 32) (.tmp 40), none, .seq, [], []⟩,
               ⟨(some 3), .move (.tmp 41), none, .seq, [], []⟩])
             (.seq (.region [⟨(some 42), .move (.tmp 5), none, .still, [], []⟩,
               ⟨(some 43), .move (.tmp 7), none, .still, [], []⟩,
               ⟨(some 44), .indexAddr none 1 (.tmp 42) (.tmp 43), none, .still, [], []⟩,
               ⟨(some 45), .load none (.tmp 44), none, .rd, [], []⟩,
               ⟨(some 46), .move (.tmp 0), none, .still, [], []⟩,
               ⟨(some 47), .move (.tmp 7), none, .still, [], []⟩,
               ⟨(some 48), .indexAddr none 1 (.tmp 46) (.tmp 47), none, .still, [], []⟩,
               ⟨(some 49), .load none (.tmp 48), none, .rd, [], []⟩,
               ⟨(some 50), .move (.tmp 8), none, .still, [], []⟩,
               ⟨(some 51), .indexAddr none 1 (.tmp 49) (.tmp 50), none, .still, [], []⟩,
               ⟨(some 52), .load none (.tmp 51), none, .rd, [], []⟩,
               ⟨(some 53), .bin .add (.tmp 45) (.tmp 52), none, .still, [], []⟩,
               ⟨(some 54), .indexAddr none 1 (.tmp 42) (.tmp 43), none, .still, [], []⟩,
               ⟨none, .store 1 (.tmp 54) (.tmp 53), none, .seq, [], []⟩])
             (.seq (.region [⟨(some 55), .move (.tmp 6), none, .still, [], []⟩,
               ⟨(some 56), .move (.tmp 8), none, .still, [], []⟩,
               ⟨(some 57), .indexAddr none 1 (.tmp 55) (.tmp 56), none, .still, [], []⟩,
               ⟨(some 58), .load none (.tmp 57), none, .rd, [], []⟩,
               ⟨(some 59), .move (.tmp 0), none, .still, [], []⟩,
               ⟨(some 60), .move (.tmp 7), none, .still, [], []⟩,
               ⟨(some 61), .indexAddr none 1 (.tmp 59) (.tmp 60), none, .still, [], []⟩,
               ⟨(some 62), .load none (.tmp 61), none, .rd, [], []⟩,
               ⟨(some 63), .move (.tmp 8), none, .still, [], []⟩,
               ⟨(some 64), .indexAddr none 1 (.tmp 62) (.tmp 63), none, .still, [], []⟩,
               ⟨(some 65), .load none (.tmp 64), none, .rd, [], []⟩,
               ⟨(some 66), .bin .add (.tmp 58) (.tmp 65), none, .still, [], []⟩,
               ⟨(some 67), .indexAddr none 1 (.tmp 55) (.tmp 56), none, .still, [], []⟩,
               ⟨none, .store 1 (.tmp 67) (.tmp 66), none, .seq, [], []⟩])
             (.region [⟨(some 68), .move (.tmp 4), none, .seq, [], []⟩,
              ⟨(some 69), .move (.tmp 0), none, .seq, [], []⟩,
              ⟨(some 70), .move (.tmp 7), none, .seq, [], []⟩,
              ⟨(some 71), .indexAddr none 1 (.tmp 69) (.tmp 70), none, .seq, [], []⟩,
              ⟨(some 72), .load none (.tmp 71), none, .seq, [], []⟩,
              ⟨(some 73), .move (.tmp 8), none, .seq, [], []⟩,
              ⟨(some 74), .indexAddr none 1 (.tmp 72) (.tmp 73), none, .seq, [], []⟩,
              ⟨(some 75), .load none (.tmp 74), none, .seq, [], []⟩,
              ⟨(some 76), .bin .add (.tmp 68) (.tmp 75), none, .seq, [], []⟩,
              ⟨(some 4), .move (.tmp 76), none, .seq, [], []⟩])))))
           (.region [⟨(some 30), .move (.tmp 8), none, .seq, [], []⟩,
            ⟨(some 31), .bin .add (.tmp 30) (.const (.int .i64 1)), none, .seq, [], []⟩,
            ⟨(some 8), .move (.tmp 31), none, .seq, [], []⟩]))))))))
      (.region [⟨(some 21), .move (.tmp 7), none, .seq, [], []⟩,
       ⟨(some 22), .bin .add (.tmp 21) (.const (.int .i64 1)), none, .seq, [], []⟩,
       ⟨(some 7), .move (.tmp 22), none, .seq, [], []⟩])))))))
  (.seq (.region [⟨(some 77), .move (.tmp 3), none, .seq, [], []⟩,
    ⟨(some 78), .move (.tmp 5), none, .seq, [], []⟩,
    ⟨(some 79), .append 1 8 (.tmp 77) (.tmp 78), none, .seq, [], []⟩,
    ⟨(some 80), .move (.tmp 6), none, .seq, [], []⟩,
    ⟨(some 81), .append 1 8 (.tmp 79) (.tmp 80), none, .seq, [], []⟩,
    ⟨(some 82), .move (.tmp 4), none, .seq, [], []⟩,
    ⟨(some 83), .buildSlice 1 [(.int .i64 0)] 1 [(0, (.tmp 82))], none, .seq, [], []⟩,
    ⟨(some 84), .append 1 8 (.tmp 81) (.tmp 83), none, .seq, [], []⟩,
    ⟨(some 2), .move (.tmp 84), none, .seq, [], []⟩])
  .ret))))))⟩

/-- forecourt/pole.Round -/
def f23 : AFunc := ⟨1, [.tmp 2, .tmp 3],
  (.seq (.region [⟨(some 1), .box (.tmp 0), none, .seq, [], []⟩,
    ⟨(some 2), .move (.const (.slice none 0 0)), none, .seq, [], []⟩,
    ⟨(some 3), .move (.const (.int .i64 0)), none, .seq, [], []⟩])
  (.seq (.seq (.region [⟨(some 5), .load (some 2) (.tmp 1), none, .seq, [], []⟩,
     ⟨(some 6), .call 32 [(.tmp 5)], none, .seq, [], []⟩,
     ⟨(some 4), .move (.tmp 6), none, .seq, [], []⟩])
   (.seq (.region [⟨(some 7), .move (.tmp 4), none, .seq, [], []⟩,
     ⟨(some 8), .bin .neq (.tmp 7) (.const (.int .i64 0)), none, .seq, [], []⟩])
   (.cond (.tmp 8)
    (.seq (.region [⟨(some 9), .move (.tmp 4), none, .seq, [], []⟩,
      ⟨(some 2), .move (.const (.slice none 0 0)), none, .seq, [], []⟩,
      ⟨(some 3), .move (.tmp 9), none, .seq, [], []⟩])
    .ret)
    .skip)))
  (.seq (.region [⟨(some 10), .load (some 2) (.tmp 1), none, .seq, [], []⟩,
    ⟨(some 11), .call 44 [(.tmp 10)], none, .seq, [], []⟩,
    ⟨(some 2), .move (.tmp 11), none, .seq, [], []⟩,
    ⟨(some 3), .move (.const (.int .i64 0)), none, .seq, [], []⟩])
  .ret)))⟩

end Go.Proofs.Ytpomalofnpagbaa.Fn
