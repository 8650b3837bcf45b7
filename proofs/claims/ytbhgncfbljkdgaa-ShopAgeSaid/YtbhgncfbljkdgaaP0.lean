/-
  The abstract code of the functions that the laws reach, part 0. Printed by a program (Emit.lean).
-/
import Derived.Test.YtbhgncfbljkdgaaA1
namespace Go.Proofs.Ytbhgncfbljkdgaa.Fn
open Go Go.Proofs.Ytbhgncfbljkdgaa.AI

/-- forecourt/forecourtlaw11.ShopDays -/
def f3 : AFunc := ⟨2, [.tmp 4],
  (.seq (.region [⟨(some 2), .box (.tmp 0), none, .seq, [], []⟩,
    ⟨(some 4), .move (.const (.bool false)), none, .seq, [], []⟩])
  (.seq (.seq (.region [⟨(some 9), .load (some 3) (.tmp 2), none, .seq, [], []⟩,
     ⟨(some 10), .call 16 [(.tmp 9)], none, .seq, [], []⟩,
     ⟨(some 11), .move (.tmp 10), none, .seq, [], []⟩,
     ⟨(some 12), .move (.tmp 1), some (11, false), .seq, [], []⟩,
     ⟨(some 13), .len .sl (.tmp 12), some (11, false), .seq, [], []⟩,
     ⟨(some 14), .bin .gtr (.tmp 13) (.const (.int .i64 40)), some (11, false), .seq, [], []⟩,
     ⟨(some 15), .pick (.tmp 11) (.const (.bool true)) (.tmp 14), none, .seq, [], []⟩])
   (.cond (.tmp 15)
    (.seq (.region [⟨(some 16), .call 17 [], none, .seq, [], []⟩,
      ⟨(some 4), .move (.tmp 16), none, .seq, [], []⟩])
    .ret)
    .skip))
  (.seq (.region [⟨(some 18), .load (some 3) (.tmp 2), none, .seq, [], []⟩,
    ⟨(some 19), .move (.tmp 1), none, .seq, [], []⟩,
    ⟨(some 20), .call 18 [(.tmp 18), (.tmp 19)], none, .seq, [], []⟩,
    ⟨(some 17), .move (.tmp 20), none, .seq, [], []⟩,
    ⟨(some 21), .extract (.tmp 17) 0, none, .seq, [], []⟩,
    ⟨(some 22), .extract (.tmp 17) 1, none, .seq, [], []⟩,
    ⟨(some 5), .move (.tmp 21), none, .seq, [], []⟩,
    ⟨(some 6), .move (.tmp 22), none, .seq, [], []⟩])
  (.seq (.region [⟨(some 24), .load (some 3) (.tmp 2), none, .seq, [], []⟩,
    ⟨(some 25), .move (.tmp 1), none, .seq, [], []⟩,
    ⟨(some 26), .call 19 [(.tmp 24), (.tmp 25)], none, .seq, [], []⟩,
    ⟨(some 23), .move (.tmp 26), none, .seq, [], []⟩,
    ⟨(some 27), .extract (.tmp 23) 0, none, .seq, [], []⟩,
    ⟨(some 28), .extract (.tmp 23) 1, none, .seq, [], []⟩,
    ⟨(some 7), .move (.tmp 27), none, .seq, [], []⟩,
    ⟨(some 8), .move (.tmp 28), none, .seq, [], []⟩])
  (.seq (.region [⟨(some 29), .load (some 3) (.tmp 2), none, .rd, [], []⟩,
    ⟨(some 30), .call 20 [(.tmp 29)], none, .ro, [], []⟩,
    ⟨(some 31), .load (some 3) (.tmp 2), none, .rd, [0], []⟩,
    ⟨(some 32), .call 21 [(.tmp 31)], none, .seq, [], []⟩,
    ⟨(some 33), .bin .eql (.tmp 30) (.tmp 32), none, .still, [], []⟩,
    ⟨(some 34), .move (.tmp 33), none, .still, [], []⟩,
    ⟨(some 35), .move (.tmp 5), some (34, true), .still, [], []⟩,
    ⟨(some 36), .move (.tmp 7), some (34, true), .still, [], []⟩,
    ⟨(some 37), .bin .eql (.tmp 35) (.tmp 36), some (34, true), .still, [], []⟩,
    ⟨(some 38), .pick (.tmp 34) (.tmp 37) (.const (.bool false)), none, .still, [], []⟩,
    ⟨(some 39), .move (.tmp 38), none, .still, [], []⟩,
    ⟨(some 40), .move (.tmp 6), some (39, true), .still, [], []⟩,
    ⟨(some 41), .move (.tmp 8), some (39, true), .still, [], []⟩,
    ⟨(some 42), .bin .eql (.tmp 40) (.tmp 41), some (39, true), .still, [], []⟩,
    ⟨(some 43), .pick (.tmp 39) (.tmp 42) (.const (.bool false)), none, .still, [], []⟩,
    ⟨(some 44), .move (.tmp 43), none, .still, [], []⟩,
    ⟨(some 45), .call 17 [], some (44, true), .seq, [], []⟩,
    ⟨(some 46), .pick (.tmp 44) (.tmp 45) (.const (.bool false)), none, .still, [], []⟩,
    ⟨(some 4), .move (.tmp 46), none, .still, [], []⟩])
  .ret)))))⟩

/-- forecourt/forecourtlaw11.ShopCharges -/
def f4 : AFunc := ⟨2, [.tmp 4],
  (.seq (.region [⟨(some 2), .box (.tmp 0), none, .seq, [], []⟩,
    ⟨(some 4), .move (.const (.bool false)), none, .seq, [], []⟩])
  (.seq (.seq (.region [⟨(some 13), .load (some 3) (.tmp 2), none, .seq, [], []⟩,
     ⟨(some 14), .call 16 [(.tmp 13)], none, .seq, [], []⟩,
     ⟨(some 15), .move (.tmp 14), none, .seq, [], []⟩,
     ⟨(some 16), .move (.tmp 1), some (15, false), .seq, [], []⟩,
     ⟨(some 17), .len .sl (.tmp 16), some (15, false), .seq, [], []⟩,
     ⟨(some 18), .bin .gtr (.tmp 17) (.const (.int .i64 40)), some (15, false), .seq, [], []⟩,
     ⟨(some 19), .pick (.tmp 15) (.const (.bool true)) (.tmp 18), none, .seq, [], []⟩])
   (.cond (.tmp 19)
    (.seq (.region [⟨(some 20), .call 17 [], none, .seq, [], []⟩,
      ⟨(some 4), .move (.tmp 20), none, .seq, [], []⟩])
    .ret)
    .skip))
  (.seq (.region [⟨(some 22), .load (some 3) (.tmp 2), none, .seq, [], []⟩,
    ⟨(some 23), .move (.tmp 1), none, .seq, [], []⟩,
    ⟨(some 24), .call 22 [(.tmp 22), (.tmp 23)], none, .seq, [], []⟩,
    ⟨(some 21), .move (.tmp 24), none, .seq, [], []⟩,
    ⟨(some 25), .extract (.tmp 21) 0, none, .seq, [], []⟩,
    ⟨(some 26), .extract (.tmp 21) 1, none, .seq, [], []⟩,
    ⟨(some 27), .extract (.tmp 21) 2, none, .seq, [], []⟩,
    ⟨(some 5), .move (.tmp 25), none, .seq, [], []⟩,
    ⟨(some 6), .move (.tmp 26), none, .seq, [], []⟩,
    ⟨(some 7), .move (.tmp 27), none, .seq, [], []⟩])
  (.seq (.region [⟨(some 29), .load (some 3) (.tmp 2), none, .seq, [], []⟩,
    ⟨(some 30), .move (.tmp 1), none, .seq, [], []⟩,
    ⟨(some 31), .call 23 [(.tmp 29), (.tmp 30)], none, .seq, [], []⟩,
    ⟨(some 28), .move (.tmp 31), none, .seq, [], []⟩,
    ⟨(some 32), .extract (.tmp 28) 0, none, .seq, [], []⟩,
    ⟨(some 33), .extract (.tmp 28) 1, none, .seq, [], []⟩,
    ⟨(some 34), .extract (.tmp 28) 2, none, .seq, [], []⟩,
    ⟨(some 8), .move (.tmp 32), none, .seq, [], []⟩,
    ⟨(some 9), .move (.tmp 33), none, .seq, [], []⟩,
    ⟨(some 10), .move (.tmp 34), none, .seq, [], []⟩])
  (.seq (.region [⟨(some 36), .load (some 3) (.tmp 2), none, .seq, [], []⟩,
    ⟨(some 37), .move (.tmp 1), none, .seq, [], []⟩,
    ⟨(some 38), .call 24 [(.tmp 36), (.tmp 37)], none, .seq, [], []⟩,
    ⟨(some 35), .move (.tmp 38), none, .seq, [], []⟩,
    ⟨(some 39), .extract (.tmp 35) 0, none, .seq, [], []⟩,
    ⟨(some 40), .extract (.tmp 35) 1, none, .seq, [], []⟩,
    ⟨(some 11), .move (.tmp 39), none, .seq, [], []⟩,
    ⟨(some 12), .move (.tmp 40), none, .seq, [], []⟩])
  (.seq (.seq (.region [⟨(some 41), .move (.tmp 5), none, .seq, [], []⟩,
     ⟨(some 42), .move (.tmp 8), none, .seq, [], []⟩,
     ⟨(some 43), .bin .neq (.tmp 41) (.tmp 42), none, .seq, [], []⟩,
     ⟨(some 44), .move (.tmp 43), none, .seq, [], []⟩,
     ⟨(some 45), .move (.tmp 6), some (44, false), .seq, [], []⟩,
     ⟨(some 46), .move (.tmp 9), some (44, false), .seq, [], []⟩,
     ⟨(some 47), .bin .neq (.tmp 45) (.tmp 46), some (44, false), .seq, [], []⟩,
     ⟨(some 48), .pick (.tmp 44) (.const (.bool true)) (.tmp 47), none, .seq, [], []⟩,
     ⟨(some 49), .move (.tmp 48), none, .seq, [], []⟩,
     ⟨(some 50), .move (.tmp 7), some (49, false), .seq, [], []⟩,
     ⟨(some 51), .move (.tmp 10), some (49, false), .seq, [], []⟩,
     ⟨(some 52), .bin .neq (.tmp 50) (.tmp 51), some (49, false), .seq, [], []⟩,
     ⟨(some 53), .pick (.tmp 49) (.const (.bool true)) (.tmp 52), none, .seq, [], []⟩,
     ⟨(some 54), .move (.tmp 53), none, .seq, [], []⟩,
     ⟨(some 55), .move (.tmp 12), some (54, false), .seq, [], []⟩,
     ⟨(some 56), .load (some 3) (.tmp 2), some (54, false), .seq, [], []⟩,
     ⟨(some 57), .move (.tmp 1), some (54, false), .seq, [], []⟩,
     ⟨(some 58), .call 25 [(.tmp 56), (.tmp 57)], some (54, false), .seq, [], []⟩,
     ⟨(some 59), .bin .neq (.tmp 55) (.tmp 58), some (54, false), .seq, [], []⟩,
     ⟨(some 60), .pick (.tmp 54) (.const (.bool true)) (.tmp 59), none, .seq, [], []⟩])
   (.cond (.tmp 60)
    (.seq (.region [⟨(some 4), .move (.const (.bool false)), none, .seq, [], []⟩])
    .ret)
    .skip))
  (.seq (.seq (.region [⟨(some 61), .move (.tmp 12), none, .seq, [], []⟩,
     ⟨(some 62), .bin .neq (.tmp 61) (.const (.int .i64 0)), none, .seq, [], []⟩])
   (.cond (.tmp 62)
    (.seq (.region [⟨(some 63), .move (.tmp 11), none, .seq, [], []⟩,
      ⟨(some 64), .len .sl (.tmp 63), none, .seq, [], []⟩,
      ⟨(some 65), .bin .eql (.tmp 64) (.const (.int .i64 0)), none, .seq, [], []⟩,
      ⟨(some 66), .move (.tmp 65), none, .seq, [], []⟩,
      ⟨(some 67), .call 17 [], some (66, true), .seq, [], []⟩,
      ⟨(some 68), .pick (.tmp 66) (.tmp 67) (.const (.bool false)), none, .seq, [], []⟩,
      ⟨(some 4), .move (.tmp 68), none, .seq, [], []⟩])
    .ret)
    .skip))
  (.seq (.region [⟨(some 69), .load (some 3) (.tmp 2), none, .seq, [], []⟩,
    ⟨(some 70), .move (.tmp 11), none, .seq, [], []⟩,
    ⟨(some 71), .move (.tmp 1), none, .seq, [], []⟩,
    ⟨(some 72), .call 26 [(.tmp 69), (.tmp 70), (.tmp 71)], none, .seq, [], []⟩,
    ⟨(some 73), .move (.tmp 72), none, .seq, [], []⟩,
    ⟨(some 74), .call 17 [], some (73, true), .seq, [], []⟩,
    ⟨(some 75), .pick (.tmp 73) (.tmp 74) (.const (.bool false)), none, .seq, [], []⟩,
    ⟨(some 4), .move (.tmp 75), none, .seq, [], []⟩])
  .ret))))))))⟩

/-- forecourt/forecourtlaw11.ShopBests -/
def f5 : AFunc := ⟨1, [.tmp 2],
  (.seq (.region [⟨(some 1), .box (.tmp 0), none, .seq, [], []⟩,
    ⟨(some 2), .move (.const (.bool false)), none, .seq, [], []⟩])
  (.seq (.seq (.region [⟨(some 12), .load (some 3) (.tmp 1), none, .seq, [], []⟩,
     ⟨(some 13), .call 16 [(.tmp 12)], none, .seq, [], []⟩,
     ⟨(some 14), .move (.tmp 13), none, .seq, [], []⟩,
     ⟨(some 15), .load (some 3) (.tmp 1), some (14, false), .seq, [], []⟩,
     ⟨(some 16), .call 27 [(.tmp 15)], some (14, false), .seq, [], []⟩,
     ⟨(some 17), .pick (.tmp 14) (.const (.bool true)) (.tmp 16), none, .seq, [], []⟩])
   (.cond (.tmp 17)
    (.seq (.region [⟨(some 18), .call 17 [], none, .seq, [], []⟩,
      ⟨(some 2), .move (.tmp 18), none, .seq, [], []⟩])
    .ret)
    .skip))
  (.seq (.region [⟨(some 20), .load (some 3) (.tmp 1), none, .seq, [], []⟩,
    ⟨(some 21), .call 28 [(.tmp 20)], none, .seq, [], []⟩,
    ⟨(some 19), .move (.tmp 21), none, .seq, [], []⟩,
    ⟨(some 22), .extract (.tmp 19) 0, none, .seq, [], []⟩,
    ⟨(some 23), .extract (.tmp 19) 1, none, .seq, [], []⟩,
    ⟨(some 3), .move (.tmp 22), none, .seq, [], []⟩,
    ⟨(some 4), .move (.tmp 23), none, .seq, [], []⟩])
  (.seq (.region [⟨(some 25), .load (some 3) (.tmp 1), none, .seq, [], []⟩,
    ⟨(some 26), .call 29 [(.tmp 25)], none, .seq, [], []⟩,
    ⟨(some 24), .move (.tmp 26), none, .seq, [], []⟩,
    ⟨(some 27), .extract (.tmp 24) 0, none, .seq, [], []⟩,
    ⟨(some 28), .extract (.tmp 24) 1, none, .seq, [], []⟩,
    ⟨(some 5), .move (.tmp 27), none, .seq, [], []⟩,
    ⟨(some 6), .move (.tmp 28), none, .seq, [], []⟩])
  (.seq (.region [⟨(some 30), .load (some 3) (.tmp 1), none, .seq, [], []⟩,
    ⟨(some 31), .call 30 [(.tmp 30)], none, .seq, [], []⟩,
    ⟨(some 29), .move (.tmp 31), none, .seq, [], []⟩,
    ⟨(some 32), .extract (.tmp 29) 0, none, .seq, [], []⟩,
    ⟨(some 33), .extract (.tmp 29) 1, none, .seq, [], []⟩,
    ⟨(some 34), .extract (.tmp 29) 2, none, .seq, [], []⟩,
    ⟨(some 7), .move (.tmp 32), none, .seq, [], []⟩,
    ⟨(some 8), .move (.tmp 33), none, .seq, [], []⟩,
    ⟨(some 9), .move (.tmp 34), none, .seq, [], []⟩])
  (.seq (.seq (.region [⟨(some 35), .move (.tmp 3), none, .seq, [], []⟩,
     ⟨(some 36), .move (.tmp 5), none, .seq, [], []⟩,
     ⟨(some 37), .call 31 [(.tmp 35), (.tmp 36)], none, .seq, [], []⟩,
     ⟨(some 38), .un .not (.tmp 37), none, .seq, [], []⟩,
     ⟨(some 39), .move (.tmp 38), none, .seq, [], []⟩,
     ⟨(some 40), .move (.tmp 4), some (39, false), .seq, [], []⟩,
     ⟨(some 41), .move (.tmp 6), some (39, false), .seq, [], []⟩,
     ⟨(some 42), .bin .neq (.tmp 40) (.tmp 41), some (39, false), .seq, [], []⟩,
     ⟨(some 43), .pick (.tmp 39) (.const (.bool true)) (.tmp 42), none, .seq, [], []⟩,
     ⟨(some 44), .move (.tmp 43), none, .seq, [], []⟩,
     ⟨(some 45), .move (.tmp 9), some (44, false), .seq, [], []⟩,
     ⟨(some 46), .load (some 3) (.tmp 1), some (44, false), .seq, [], []⟩,
     ⟨(some 47), .call 21 [(.tmp 46)], some (44, false), .seq, [], []⟩,
     ⟨(some 48), .bin .neq (.tmp 45) (.tmp 47), some (44, false), .seq, [], []⟩,
     ⟨(some 49), .pick (.tmp 44) (.const (.bool true)) (.tmp 48), none, .seq, [], []⟩])
   (.cond (.tmp 49)
    (.seq (.region [⟨(some 2), .move (.const (.bool false)), none, .seq, [], []⟩])
    .ret)
    .skip))
  (.seq (.seq (.region [⟨(some 50), .move (.tmp 9), none, .seq, [], []⟩,
     ⟨(some 51), .bin .neq (.tmp 50) (.const (.int .i64 0)), none, .seq, [], []⟩])
   (.cond (.tmp 51)
    (.seq (.region [⟨(some 52), .move (.tmp 7), none, .seq, [], []⟩,
      ⟨(some 53), .len .sl (.tmp 52), none, .seq, [], []⟩,
      ⟨(some 54), .bin .eql (.tmp 53) (.const (.int .i64 0)), none, .seq, [], []⟩,
      ⟨(some 55), .move (.tmp 54), none, .seq, [], []⟩,
      ⟨(some 56), .move (.tmp 8), some (55, true), .seq, [], []⟩,
      ⟨(some 57), .bin .eql (.tmp 56) (.const (.int .i64 0)), some (55, true), .seq, [], []⟩,
      ⟨(some 58), .pick (.tmp 55) (.tmp 57) (.const (.bool false)), none, .seq, [], []⟩,
      ⟨(some 59), .move (.tmp 58), none, .seq, [], []⟩,
      ⟨(some 60), .call 17 [], some (59, true), .seq, [], []⟩,
      ⟨(some 61), .pick (.tmp 59) (.tmp 60) (.const (.bool false)), none, .seq, [], []⟩,
      ⟨(some 2), .move (.tmp 61), none, .seq, [], []⟩])
    .ret)
    .skip))
  (.seq (.region [⟨(some 63), .load (some 3) (.tmp 1), none, .seq, [], []⟩,
    ⟨(some 64), .move (.tmp 7), none, .seq, [], []⟩,
    ⟨(some 65), .call 19 [(.tmp 63), (.tmp 64)], none, .seq, [], []⟩,
    ⟨(some 62), .move (.tmp 65), none, .seq, [], []⟩,
    ⟨(some 66), .extract (.tmp 62) 0, none, .seq, [], []⟩,
    ⟨(some 67), .extract (.tmp 62) 1, none, .seq, [], []⟩,
    ⟨(some 10), .move (.tmp 66), none, .seq, [], []⟩,
    ⟨(some 11), .move (.tmp 67), none, .seq, [], []⟩])
  (.seq (.region [⟨(some 68), .move (.tmp 11), none, .seq, [], []⟩,
    ⟨(some 69), .bin .eql (.tmp 68) (.const (.int .i64 0)), none, .seq, [], []⟩,
    ⟨(some 70), .move (.tmp 69), none, .seq, [], []⟩,
    ⟨(some 71), .move (.tmp 10), some (70, true), .seq, [], []⟩,
    ⟨(some 72), .move (.tmp 8), some (70, true), .seq, [], []⟩,
    ⟨(some 73), .bin .eql (.tmp 71) (.tmp 72), some (70, true), .seq, [], []⟩,
    ⟨(some 74), .pick (.tmp 70) (.tmp 73) (.const (.bool false)), none, .seq, [], []⟩,
    ⟨(some 75), .move (.tmp 74), none, .seq, [], []⟩,
    ⟨(some 76), .move (.tmp 8), some (75, true), .seq, [], []⟩,
    ⟨(some 77), .load (some 3) (.tmp 1), some (75, true), .seq, [], []⟩,
    ⟨(some 78), .call 32 [(.tmp 77)], some (75, true), .seq, [], []⟩,
    ⟨(some 79), .bin .eql (.tmp 76) (.tmp 78), some (75, true), .seq, [], []⟩,
    ⟨(some 80), .pick (.tmp 75) (.tmp 79) (.const (.bool false)), none, .seq, [], []⟩,
    ⟨(some 81), .move (.tmp 80), none, .seq, [], []⟩,
    ⟨(some 82), .call 17 [], some (81, true), .seq, [], []⟩,
    ⟨(some 83), .pick (.tmp 81) (.tmp 82) (.const (.bool false)), none, .seq, [], []⟩,
    ⟨(some 2), .move (.tmp 83), none, .seq, [], []⟩])
  .ret)))))))))⟩

/-- forecourt/forecourtlaw11.ShopPriced -/
def f6 : AFunc := ⟨2, [.tmp 4],
  (.seq (.region [⟨(some 2), .box (.tmp 0), none, .seq, [], []⟩,
    ⟨(some 4), .move (.const (.bool false)), none, .seq, [], []⟩])
  (.seq (.seq (.region [⟨(some 16), .load (some 3) (.tmp 2), none, .seq, [], []⟩,
     ⟨(some 17), .call 16 [(.tmp 16)], none, .seq, [], []⟩,
     ⟨(some 18), .move (.tmp 17), none, .seq, [], []⟩,
     ⟨(some 19), .move (.tmp 1), some (18, false), .seq, [], []⟩,
     ⟨(some 20), .len .sl (.tmp 19), some (18, false), .seq, [], []⟩,
     ⟨(some 21), .bin .gtr (.tmp 20) (.const (.int .i64 210)), some (18, false), .seq, [], []⟩,
     ⟨(some 22), .pick (.tmp 18) (.const (.bool true)) (.tmp 21), none, .seq, [], []⟩])
   (.cond (.tmp 22)
    (.seq (.region [⟨(some 23), .call 17 [], none, .seq, [], []⟩,
      ⟨(some 4), .move (.tmp 23), none, .seq, [], []⟩])
    .ret)
    .skip))
  (.seq (.region [⟨(some 25), .load (some 3) (.tmp 2), none, .seq, [], []⟩,
    ⟨(some 26), .move (.tmp 1), none, .seq, [], []⟩,
    ⟨(some 27), .call 33 [(.tmp 25), (.tmp 26)], none, .seq, [], []⟩,
    ⟨(some 24), .move (.tmp 27), none, .seq, [], []⟩,
    ⟨(some 28), .extract (.tmp 24) 0, none, .seq, [], []⟩,
    ⟨(some 29), .extract (.tmp 24) 1, none, .seq, [], []⟩,
    ⟨(some 5), .move (.tmp 28), none, .seq, [], []⟩,
    ⟨(some 6), .move (.tmp 29), none, .seq, [], []⟩])
  (.seq (.region [⟨(some 31), .load (some 3) (.tmp 2), none, .seq, [], []⟩,
    ⟨(some 32), .move (.tmp 1), none, .seq, [], []⟩,
    ⟨(some 33), .call 34 [(.tmp 31), (.tmp 32)], none, .seq, [], []⟩,
    ⟨(some 30), .move (.tmp 33), none, .seq, [], []⟩,
    ⟨(some 34), .extract (.tmp 30) 0, none, .seq, [], []⟩,
    ⟨(some 35), .extract (.tmp 30) 1, none, .seq, [], []⟩,
    ⟨(some 7), .move (.tmp 34), none, .seq, [], []⟩,
    ⟨(some 8), .move (.tmp 35), none, .seq, [], []⟩])
  (.seq (.seq (.region [⟨(some 36), .move (.tmp 5), none, .seq, [], []⟩,
     ⟨(some 37), .move (.tmp 7), none, .seq, [], []⟩,
     ⟨(some 38), .bin .neq (.tmp 36) (.tmp 37), none, .seq, [], []⟩,
     ⟨(some 39), .move (.tmp 38), none, .seq, [], []⟩,
     ⟨(some 40), .move (.tmp 6), some (39, false), .seq, [], []⟩,
     ⟨(some 41), .move (.tmp 8), some (39, false), .seq, [], []⟩,
     ⟨(some 42), .bin .neq (.tmp 40) (.tmp 41), some (39, false), .seq, [], []⟩,
     ⟨(some 43), .pick (.tmp 39) (.const (.bool true)) (.tmp 42), none, .seq, [], []⟩])
   (.cond (.tmp 43)
    (.seq (.region [⟨(some 4), .move (.const (.bool false)), none, .seq, [], []⟩])
    .ret)
    .skip))
  (.seq (.region [⟨(some 45), .load (some 3) (.tmp 2), none, .seq, [], []⟩,
    ⟨(some 46), .call 35 [(.tmp 45)], none, .seq, [], []⟩,
    ⟨(some 44), .move (.tmp 46), none, .seq, [], []⟩,
    ⟨(some 47), .extract (.tmp 44) 0, none, .seq, [], []⟩,
    ⟨(some 48), .extract (.tmp 44) 1, none, .seq, [], []⟩,
    ⟨(some 9), .move (.tmp 47), none, .seq, [], []⟩,
    ⟨(some 10), .move (.tmp 48), none, .seq, [], []⟩])
  (.seq (.region [⟨(some 50), .load (some 3) (.tmp 2), none, .seq, [], []⟩,
    ⟨(some 51), .call 30 [(.tmp 50)], none, .seq, [], []⟩,
    ⟨(some 49), .move (.tmp 51), none, .seq, [], []⟩,
    ⟨(some 52), .extract (.tmp 49) 0, none, .seq, [], []⟩,
    ⟨(some 53), .extract (.tmp 49) 1, none, .seq, [], []⟩,
    ⟨(some 54), .extract (.tmp 49) 2, none, .seq, [], []⟩,
    ⟨(some 11), .move (.tmp 52), none, .seq, [], []⟩,
    ⟨(some 12), .move (.tmp 53), none, .seq, [], []⟩,
    ⟨(some 13), .move (.tmp 54), none, .seq, [], []⟩])
  (.seq (.seq (.region [⟨(some 55), .move (.tmp 10), none, .seq, [], []⟩,
     ⟨(some 56), .load (some 3) (.tmp 2), none, .seq, [], []⟩,
     ⟨(some 57), .call 21 [(.tmp 56)], none, .seq, [], []⟩,
     ⟨(some 58), .bin .neq (.tmp 55) (.tmp 57), none, .seq, [], []⟩,
     ⟨(some 59), .move (.tmp 58), none, .seq, [], []⟩,
     ⟨(some 60), .move (.tmp 13), some (59, false), .seq, [], []⟩,
     ⟨(some 61), .move (.tmp 10), some (59, false), .seq, [], []⟩,
     ⟨(some 62), .bin .neq (.tmp 60) (.tmp 61), some (59, false), .seq, [], []⟩,
     ⟨(some 63), .pick (.tmp 59) (.const (.bool true)) (.tmp 62), none, .seq, [], []⟩])
   (.cond (.tmp 63)
    (.seq (.region [⟨(some 4), .move (.const (.bool false)), none, .seq, [], []⟩])
    .ret)
    .skip))
  (.seq (.seq (.region [⟨(some 64), .move (.tmp 10), none, .seq, [], []⟩,
     ⟨(some 65), .bin .neq (.tmp 64) (.const (.int .i64 0)), none, .seq, [], []⟩])
   (.cond (.tmp 65)
    (.seq (.region [⟨(some 66), .move (.tmp 9), none, .seq, [], []⟩,
      ⟨(some 67), .len .sl (.tmp 66), none, .seq, [], []⟩,
      ⟨(some 68), .bin .eql (.tmp 67) (.const (.int .i64 0)), none, .seq, [], []⟩,
      ⟨(some 69), .move (.tmp 68), none, .seq, [], []⟩,
      ⟨(some 70), .call 17 [], some (69, true), .seq, [], []⟩,
      ⟨(some 71), .pick (.tmp 69) (.tmp 70) (.const (.bool false)), none, .seq, [], []⟩,
      ⟨(some 4), .move (.tmp 71), none, .seq, [], []⟩])
    .ret)
    .skip))
  (.seq (.region [⟨(some 73), .load (some 3) (.tmp 2), none, .seq, [], []⟩,
    ⟨(some 74), .move (.tmp 9), none, .seq, [], []⟩,
    ⟨(some 75), .call 34 [(.tmp 73), (.tmp 74)], none, .seq, [], []⟩,
    ⟨(some 72), .move (.tmp 75), none, .seq, [], []⟩,
    ⟨(some 76), .extract (.tmp 72) 0, none, .seq, [], []⟩,
    ⟨(some 77), .extract (.tmp 72) 1, none, .seq, [], []⟩,
    ⟨(some 14), .move (.tmp 76), none, .seq, [], []⟩,
    ⟨(some 15), .move (.tmp 77), none, .seq, [], []⟩])
  (.seq (.region [⟨(some 78), .move (.tmp 15), none, .seq, [], []⟩,
    ⟨(some 79), .bin .eql (.tmp 78) (.const (.int .i64 0)), none, .seq, [], []⟩,
    ⟨(some 80), .move (.tmp 79), none, .seq, [], []⟩,
    ⟨(some 81), .move (.tmp 14), some (80, true), .seq, [], []⟩,
    ⟨(some 82), .move (.tmp 12), some (80, true), .seq, [], []⟩,
    ⟨(some 83), .bin .eql (.tmp 81) (.tmp 82), some (80, true), .seq, [], []⟩,
    ⟨(some 84), .pick (.tmp 80) (.tmp 83) (.const (.bool false)), none, .seq, [], []⟩,
    ⟨(some 85), .move (.tmp 84), none, .seq, [], []⟩,
    ⟨(some 86), .call 17 [], some (85, true), .seq, [], []⟩,
    ⟨(some 87), .pick (.tmp 85) (.tmp 86) (.const (.bool false)), none, .seq, [], []⟩,
    ⟨(some 4), .move (.tmp 87), none, .seq, [], []⟩])
  .ret)))))))))))⟩

/-- forecourt/forecourtlaw11.ShopShelves -/
def f7 : AFunc := ⟨4, [.tmp 8],
  (.seq (.region [⟨(some 4), .box (.tmp 0), none, .seq, [], []⟩,
    ⟨(some 5), .box (.tmp 1), none, .seq, [], []⟩,
    ⟨(some 8), .move (.const (.bool false)), none, .seq, [], []⟩])
  (.seq (.seq (.region [⟨(some 19), .move (.tmp 2), none, .seq, [], []⟩,
     ⟨(some 20), .len .sl (.tmp 19), none, .seq, [], []⟩,
     ⟨(some 21), .bin .gtr (.tmp 20) (.const (.int .i64 40)), none, .seq, [], []⟩,
     ⟨(some 22), .move (.tmp 21), none, .seq, [], []⟩,
     ⟨(some 23), .move (.tmp 3), some (22, false), .seq, [], []⟩,
     ⟨(some 24), .len .sl (.tmp 23), some (22, false), .seq, [], []⟩,
     ⟨(some 25), .bin .gtr (.tmp 24) (.const (.int .i64 40)), some (22, false), .seq, [], []⟩,
     ⟨(some 26), .pick (.tmp 22) (.const (.bool true)) (.tmp 25), none, .seq, [], []⟩])
   (.cond (.tmp 26)
    (.seq (.region [⟨(some 27), .call 17 [], none, .seq, [], []⟩,
      ⟨(some 8), .move (.tmp 27), none, .seq, [], []⟩])
    .ret)
    .skip))
  (.seq (.region [⟨(some 29), .load (some 3) (.tmp 4), none, .seq, [], []⟩,
    ⟨(some 30), .load (some 3) (.tmp 5), none, .seq, [], []⟩,
    ⟨(some 31), .call 36 [(.tmp 29), (.tmp 30)], none, .seq, [], []⟩,
    ⟨(some 28), .move (.tmp 31), none, .seq, [], []⟩,
    ⟨(some 32), .extract (.tmp 28) 0, none, .seq, [], []⟩,
    ⟨(some 33), .extract (.tmp 28) 1, none, .seq, [], []⟩,
    ⟨(some 9), .move (.tmp 32), none, .seq, [], []⟩,
    ⟨(some 10), .move (.tmp 33), none, .seq, [], []⟩])
  (.seq (.region [⟨(some 35), .load (some 3) (.tmp 4), none, .seq, [], []⟩,
    ⟨(some 36), .load (some 3) (.tmp 5), none, .seq, [], []⟩,
    ⟨(some 37), .call 37 [(.tmp 35), (.tmp 36)], none, .seq, [], []⟩,
    ⟨(some 34), .move (.tmp 37), none, .seq, [], []⟩,
    ⟨(some 38), .extract (.tmp 34) 0, none, .seq, [], []⟩,
    ⟨(some 39), .extract (.tmp 34) 1, none, .seq, [], []⟩,
    ⟨(some 11), .move (.tmp 38), none, .seq, [], []⟩,
    ⟨(some 12), .move (.tmp 39), none, .seq, [], []⟩])
  (.seq (.region [⟨(some 41), .move (.tmp 2), none, .seq, [], []⟩,
    ⟨(some 42), .move (.tmp 3), none, .seq, [], []⟩,
    ⟨(some 43), .call 38 [(.tmp 41), (.tmp 42)], none, .seq, [], []⟩,
    ⟨(some 40), .move (.tmp 43), none, .seq, [], []⟩,
    ⟨(some 44), .extract (.tmp 40) 0, none, .seq, [], []⟩,
    ⟨(some 45), .extract (.tmp 40) 1, none, .seq, [], []⟩,
    ⟨(some 46), .extract (.tmp 40) 2, none, .seq, [], []⟩,
    ⟨(some 13), .move (.tmp 44), none, .seq, [], []⟩,
    ⟨(some 14), .move (.tmp 45), none, .seq, [], []⟩,
    ⟨(some 15), .move (.tmp 46), none, .seq, [], []⟩])
  (.seq (.region [⟨(some 48), .move (.tmp 2), none, .seq, [], []⟩,
    ⟨(some 49), .move (.tmp 3), none, .seq, [], []⟩,
    ⟨(some 50), .call 39 [(.tmp 48), (.tmp 49)], none, .seq, [], []⟩,
    ⟨(some 47), .move (.tmp 50), none, .seq, [], []⟩,
    ⟨(some 51), .extract (.tmp 47) 0, none, .seq, [], []⟩,
    ⟨(some 52), .extract (.tmp 47) 1, none, .seq, [], []⟩,
    ⟨(some 53), .extract (.tmp 47) 2, none, .seq, [], []⟩,
    ⟨(some 16), .move (.tmp 51), none, .seq, [], []⟩,
    ⟨(some 17), .move (.tmp 52), none, .seq, [], []⟩,
    ⟨(some 18), .move (.tmp 53), none, .seq, [], []⟩])
  (.seq (.region [⟨(some 54), .move (.tmp 9), none, .seq, [], []⟩,
    ⟨(some 55), .move (.tmp 11), none, .seq, [], []⟩,
    ⟨(some 56), .bin .eql (.tmp 54) (.tmp 55), none, .seq, [], []⟩,
    ⟨(some 57), .move (.tmp 56), none, .seq, [], []⟩,
    ⟨(some 58), .move (.tmp 10), some (57, true), .seq, [], []⟩,
    ⟨(some 59), .move (.tmp 12), some (57, true), .seq, [], []⟩,
    ⟨(some 60), .bin .eql (.tmp 58) (.tmp 59), some (57, true), .seq, [], []⟩,
    ⟨(some 61), .pick (.tmp 57) (.tmp 60) (.const (.bool false)), none, .seq, [], []⟩,
    ⟨(some 62), .move (.tmp 61), none, .seq, [], []⟩,
    ⟨(some 63), .move (.tmp 13), some (62, true), .seq, [], []⟩,
    ⟨(some 64), .move (.tmp 16), some (62, true), .seq, [], []⟩,
    ⟨(some 65), .bin .eql (.tmp 63) (.tmp 64), some (62, true), .seq, [], []⟩,
    ⟨(some 66), .pick (.tmp 62) (.tmp 65) (.const (.bool false)), none, .seq, [], []⟩,
    ⟨(some 67), .move (.tmp 66), none, .seq, [], []⟩,
    ⟨(some 68), .move (.tmp 14), some (67, true), .seq, [], []⟩,
    ⟨(some 69), .move (.tmp 17), some (67, true), .seq, [], []⟩,
    ⟨(some 70), .bin .eql (.tmp 68) (.tmp 69), some (67, true), .seq, [], []⟩,
    ⟨(some 71), .pick (.tmp 67) (.tmp 70) (.const (.bool false)), none, .seq, [], []⟩,
    ⟨(some 72), .move (.tmp 71), none, .seq, [], []⟩,
    ⟨(some 73), .move (.tmp 15), some (72, true), .seq, [], []⟩,
    ⟨(some 74), .move (.tmp 18), some (72, true), .seq, [], []⟩,
    ⟨(some 75), .bin .eql (.tmp 73) (.tmp 74), some (72, true), .seq, [], []⟩,
    ⟨(some 76), .pick (.tmp 72) (.tmp 75) (.const (.bool false)), none, .seq, [], []⟩,
    ⟨(some 77), .move (.tmp 76), none, .seq, [], []⟩,
    ⟨(some 78), .call 17 [], some (77, true), .seq, [], []⟩,
    ⟨(some 79), .pick (.tmp 77) (.tmp 78) (.const (.bool false)), none, .seq, [], []⟩,
    ⟨(some 8), .move (.tmp 79), none, .seq, [], []⟩])
  .ret)))))))⟩

/-- forecourt/forecourtlaw11.ShopProved -/
def f8 : AFunc := ⟨4, [.tmp 8],
  (.seq (.region [⟨(some 4), .box (.tmp 0), none, .seq, [], []⟩,
    ⟨(some 8), .move (.const (.bool false)), none, .seq, [], []⟩])
  (.seq (.seq (.region [⟨(some 26), .load (some 3) (.tmp 4), none, .seq, [], []⟩,
     ⟨(some 27), .call 40 [(.tmp 26)], none, .seq, [], []⟩,
     ⟨(some 28), .un .not (.tmp 27), none, .seq, [], []⟩,
     ⟨(some 29), .move (.tmp 28), none, .seq, [], []⟩,
     ⟨(some 30), .move (.tmp 1), some (29, false), .seq, [], []⟩,
     ⟨(some 31), .len .sl (.tmp 30), some (29, false), .seq, [], []⟩,
     ⟨(some 32), .bin .gtr (.tmp 31) (.const (.int .i64 40)), some (29, false), .seq, [], []⟩,
     ⟨(some 33), .pick (.tmp 29) (.const (.bool true)) (.tmp 32), none, .seq, [], []⟩,
     ⟨(some 34), .move (.tmp 33), none, .seq, [], []⟩,
     ⟨(some 35), .move (.tmp 2), some (34, false), .seq, [], []⟩,
     ⟨(some 36), .len .sl (.tmp 35), some (34, false), .seq, [], []⟩,
     ⟨(some 37), .bin .gtr (.tmp 36) (.const (.int .i64 40)), some (34, false), .seq, [], []⟩,
     ⟨(some 38), .pick (.tmp 34) (.const (.bool true)) (.tmp 37), none, .seq, [], []⟩,
     ⟨(some 39), .move (.tmp 38), none, .seq, [], []⟩,
     ⟨(some 40), .move (.tmp 3), some (39, false), .seq, [], []⟩,
     ⟨(some 41), .len .sl (.tmp 40), some (39, false), .seq, [], []⟩,
     ⟨(some 42), .bin .gtr (.tmp 41) (.const (.int .i64 200)), some (39, false), .seq, [], []⟩,
     ⟨(some 43), .pick (.tmp 39) (.const (.bool true)) (.tmp 42), none, .seq, [], []⟩])
   (.cond (.tmp 43)
    (.seq (.region [⟨(some 44), .call 17 [], none, .seq, [], []⟩,
      ⟨(some 8), .move (.tmp 44), none, .seq, [], []⟩])
    .ret)
    .skip))
  (.seq (.region [⟨(some 46), .load (some 3) (.tmp 4), none, .seq, [], []⟩,
    ⟨(some 47), .call 30 [(.tmp 46)], none, .seq, [], []⟩,
    ⟨(some 45), .move (.tmp 47), none, .seq, [], []⟩,
    ⟨(some 48), .extract (.tmp 45) 0, none, .seq, [], []⟩,
    ⟨(some 49), .extract (.tmp 45) 1, none, .seq, [], []⟩,
    ⟨(some 50), .extract (.tmp 45) 2, none, .seq, [], []⟩,
    ⟨(some 9), .move (.tmp 48), none, .seq, [], []⟩,
    ⟨(some 10), .move (.tmp 49), none, .seq, [], []⟩,
    ⟨(some 11), .move (.tmp 50), none, .seq, [], []⟩])
  (.seq (.region [⟨(some 52), .load (some 3) (.tmp 4), none, .seq, [], []⟩,
    ⟨(some 53), .call 35 [(.tmp 52)], none, .seq, [], []⟩,
    ⟨(some 51), .move (.tmp 53), none, .seq, [], []⟩,
    ⟨(some 54), .extract (.tmp 51) 0, none, .seq, [], []⟩,
    ⟨(some 55), .extract (.tmp 51) 1, none, .seq, [], []⟩,
    ⟨(some 12), .move (.tmp 54), none, .seq, [], []⟩,
    ⟨(some 13), .move (.tmp 55), none, .seq, [], []⟩])
  (.seq (.region [⟨(some 57), .load (some 3) (.tmp 4), none, .seq, [], []⟩,
    ⟨(some 58), .move (.tmp 9), none, .seq, [], []⟩,
    ⟨(some 59), .call 18 [(.tmp 57), (.tmp 58)], none, .seq, [], []⟩,
    ⟨(some 56), .move (.tmp 59), none, .seq, [], []⟩,
    ⟨(some 60), .extract (.tmp 56) 0, none, .seq, [], []⟩,
    ⟨(some 61), .extract (.tmp 56) 1, none, .seq, [], []⟩,
    ⟨(some 14), .move (.tmp 60), none, .seq, [], []⟩,
    ⟨(some 15), .move (.tmp 61), none, .seq, [], []⟩])
  (.seq (.region [⟨(some 63), .load (some 3) (.tmp 4), none, .seq, [], []⟩,
    ⟨(some 64), .move (.tmp 9), none, .seq, [], []⟩,
    ⟨(some 65), .call 19 [(.tmp 63), (.tmp 64)], none, .seq, [], []⟩,
    ⟨(some 62), .move (.tmp 65), none, .seq, [], []⟩,
    ⟨(some 66), .extract (.tmp 62) 0, none, .seq, [], []⟩,
    ⟨(some 67), .extract (.tmp 62) 1, none, .seq, [], []⟩,
    ⟨(some 16), .move (.tmp 66), none, .seq, [], []⟩,
    ⟨(some 17), .move (.tmp 67), none, .seq, [], []⟩])
  (.seq (.region [⟨(some 69), .load (some 3) (.tmp 4), none, .seq, [], []⟩,
    ⟨(some 70), .move (.tmp 12), none, .seq, [], []⟩,
    ⟨(some 71), .call 33 [(.tmp 69), (.tmp 70)], none, .seq, [], []⟩,
    ⟨(some 68), .move (.tmp 71), none, .seq, [], []⟩,
    ⟨(some 72), .extract (.tmp 68) 0, none, .seq, [], []⟩,
    ⟨(some 73), .extract (.tmp 68) 1, none, .seq, [], []⟩,
    ⟨(some 18), .move (.tmp 72), none, .seq, [], []⟩,
    ⟨(some 19), .move (.tmp 73), none, .seq, [], []⟩])
  (.seq (.region [⟨(some 75), .load (some 3) (.tmp 4), none, .seq, [], []⟩,
    ⟨(some 76), .move (.tmp 12), none, .seq, [], []⟩,
    ⟨(some 77), .call 34 [(.tmp 75), (.tmp 76)], none, .seq, [], []⟩,
    ⟨(some 74), .move (.tmp 77), none, .seq, [], []⟩,
    ⟨(some 78), .extract (.tmp 74) 0, none, .seq, [], []⟩,
    ⟨(some 79), .extract (.tmp 74) 1, none, .seq, [], []⟩,
    ⟨(some 20), .move (.tmp 78), none, .seq, [], []⟩,
    ⟨(some 21), .move (.tmp 79), none, .seq, [], []⟩])
  (.seq (.seq (.region [⟨(some 80), .move (.tmp 11), none, .seq, [], []⟩,
     ⟨(some 81), .bin .neq (.tmp 80) (.const (.int .i64 0)), none, .seq, [], []⟩,
     ⟨(some 82), .move (.tmp 81), none, .seq, [], []⟩,
     ⟨(some 83), .move (.tmp 13), some (82, false), .seq, [], []⟩,
     ⟨(some 84), .bin .neq (.tmp 83) (.const (.int .i64 0)), some (82, false), .seq, [], []⟩,
     ⟨(some 85), .pick (.tmp 82) (.const (.bool true)) (.tmp 84), none, .seq, [], []⟩,
     ⟨(some 86), .move (.tmp 85), none, .seq, [], []⟩,
     ⟨(some 87), .move (.tmp 15), some (86, false), .seq, [], []⟩,
     ⟨(some 88), .bin .neq (.tmp 87) (.const (.int .i64 0)), some (86, false), .seq, [], []⟩,
     ⟨(some 89), .pick (.tmp 86) (.const (.bool true)) (.tmp 88), none, .seq, [], []⟩,
     ⟨(some 90), .move (.tmp 89), none, .seq, [], []⟩,
     ⟨(some 91), .move (.tmp 17), some (90, false), .seq, [], []⟩,
     ⟨(some 92), .bin .neq (.tmp 91) (.const (.int .i64 0)), some (90, false), .seq, [], []⟩,
     ⟨(some 93), .pick (.tmp 90) (.const (.bool true)) (.tmp 92), none, .seq, [], []⟩,
     ⟨(some 94), .move (.tmp 93), none, .seq, [], []⟩,
     ⟨(some 95), .move (.tmp 19), some (94, false), .seq, [], []⟩,
     ⟨(some 96), .bin .neq (.tmp 95) (.const (.int .i64 0)), some (94, false), .seq, [], []⟩,
     ⟨(some 97), .pick (.tmp 94) (.const (.bool true)) (.tmp 96), none, .seq, [], []⟩,
     ⟨(some 98), .move (.tmp 97), none, .seq, [], []⟩,
     ⟨(some 99), .move (.tmp 21), some (98, false), .seq, [], []⟩,
     ⟨(some 100), .bin .neq (.tmp 99) (.const (.int .i64 0)), some (98, false), .seq, [], []⟩,
     ⟨(some 101), .pick (.tmp 98) (.const (.bool true)) (.tmp 100), none, .seq, [], []⟩,
     ⟨(some 102), .move (.tmp 101), none, .seq, [], []⟩,
     ⟨(some 103), .move (.tmp 14), some (102, false), .seq, [], []⟩,
     ⟨(some 104), .move (.tmp 10), some (102, false), .seq, [], []⟩,
     ⟨(some 105), .bin .neq (.tmp 103) (.tmp 104), some (102, false), .seq, [], []⟩,
     ⟨(some 106), .pick (.tmp 102) (.const (.bool true)) (.tmp 105), none, .seq, [], []⟩,
     ⟨(some 107), .move (.tmp 106), none, .seq, [], []⟩,
     ⟨(some 108), .move (.tmp 16), some (107, false), .seq, [], []⟩,
     ⟨(some 109), .move (.tmp 10), some (107, false), .seq, [], []⟩,
     ⟨(some 110), .bin .neq (.tmp 108) (.tmp 109), some (107, false), .seq, [], []⟩,
     ⟨(some 111), .pick (.tmp 107) (.const (.bool true)) (.tmp 110), none, .seq, [], []⟩,
     ⟨(some 112), .move (.tmp 111), none, .seq, [], []⟩,
     ⟨(some 113), .move (.tmp 18), some (112, false), .seq, [], []⟩,
     ⟨(some 114), .move (.tmp 10), some (112, false), .seq, [], []⟩,
     ⟨(some 115), .bin .neq (.tmp 113) (.tmp 114), some (112, false), .seq, [], []⟩,
     ⟨(some 116), .pick (.tmp 112) (.const (.bool true)) (.tmp 115), none, .seq, [], []⟩,
     ⟨(some 117), .move (.tmp 116), none, .seq, [], []⟩,
     ⟨(some 118), .move (.tmp 20), some (117, false), .seq, [], []⟩,
     ⟨(some 119), .move (.tmp 10), some (117, false), .seq, [], []⟩,
     ⟨(some 120), .bin .neq (.tmp 118) (.tmp 119), some (117, false), .seq, [], []⟩,
     ⟨(some 121), .pick (.tmp 117) (.const (.bool true)) (.tmp 120), none, .seq, [], []⟩])
   (.cond (.tmp 121)
    (.seq (.region [⟨(some 8), .move (.const (.bool false)), none, .seq, [], []⟩])
    .ret)
    .skip))
  (.seq (.region [⟨(some 123), .load (some 3) (.tmp 4), none, .rd, [], []⟩,
    ⟨(some 124), .load (some 3) (.tmp 4), none, .rd, [], []⟩,
    ⟨(some 125), .move (.tmp 1), none, .still, [], []⟩,
    ⟨(some 126), .call 41 [(.tmp 124), (.tmp 125)], none, .ro, [], []⟩,
    ⟨(some 127), .call 18 [(.tmp 123), (.tmp 126)], none, .seq, [], []⟩,
    ⟨(some 122), .move (.tmp 127), none, .still, [], []⟩,
    ⟨(some 128), .extract (.tmp 122) 0, none, .still, [], []⟩,
    ⟨(some 129), .extract (.tmp 122) 1, none, .still, [], []⟩,
    ⟨(some 22), .move (.tmp 128), none, .still, [], []⟩,
    ⟨(some 23), .move (.tmp 129), none, .still, [], []⟩])
  (.seq (.seq (.region [⟨(some 130), .move (.tmp 23), none, .seq, [], []⟩,
     ⟨(some 131), .bin .neq (.tmp 130) (.const (.int .i64 0)), none, .seq, [], []⟩,
     ⟨(some 132), .move (.tmp 131), none, .seq, [], []⟩,
     ⟨(some 133), .move (.tmp 22), some (132, false), .seq, [], []⟩,
     ⟨(some 134), .move (.tmp 10), some (132, false), .seq, [], []⟩,
     ⟨(some 135), .bin .gtr (.tmp 133) (.tmp 134), some (132, false), .seq, [], []⟩,
     ⟨(some 136), .pick (.tmp 132) (.const (.bool true)) (.tmp 135), none, .seq, [], []⟩])
   (.cond (.tmp 136)
    (.seq (.region [⟨(some 8), .move (.const (.bool false)), none, .seq, [], []⟩])
    .ret)
    .skip))
  (.seq (.region [⟨(some 138), .load (some 3) (.tmp 4), none, .seq, [], []⟩,
    ⟨(some 139), .move (.tmp 2), none, .seq, [], []⟩,
    ⟨(some 140), .call 18 [(.tmp 138), (.tmp 139)], none, .seq, [], []⟩,
    ⟨(some 137), .move (.tmp 140), none, .seq, [], []⟩,
    ⟨(some 141), .extract (.tmp 137) 0, none, .seq, [], []⟩,
    ⟨(some 142), .extract (.tmp 137) 1, none, .seq, [], []⟩,
    ⟨(some 24), .move (.tmp 141), none, .seq, [], []⟩,
    ⟨(some 11), .move (.tmp 142), none, .seq, [], []⟩])
  (.seq (.region [⟨(some 144), .load (some 3) (.tmp 4), none, .seq, [], []⟩,
    ⟨(some 145), .move (.tmp 3), none, .seq, [], []⟩,
    ⟨(some 146), .call 33 [(.tmp 144), (.tmp 145)], none, .seq, [], []⟩,
    ⟨(some 143), .move (.tmp 146), none, .seq, [], []⟩,
    ⟨(some 147), .extract (.tmp 143) 0, none, .seq, [], []⟩,
    ⟨(some 148), .extract (.tmp 143) 1, none, .seq, [], []⟩,
    ⟨(some 25), .move (.tmp 147), none, .seq, [], []⟩,
    ⟨(some 13), .move (.tmp 148), none, .seq, [], []⟩])
  (.seq (.region [⟨(some 149), .move (.tmp 11), none, .seq, [], []⟩,
    ⟨(some 150), .bin .neq (.tmp 149) (.const (.int .i64 0)), none, .seq, [], []⟩,
    ⟨(some 151), .move (.tmp 150), none, .seq, [], []⟩,
    ⟨(some 152), .move (.tmp 24), some (151, false), .seq, [], []⟩,
    ⟨(some 153), .move (.tmp 10), some (151, false), .seq, [], []⟩,
    ⟨(some 154), .bin .leq (.tmp 152) (.tmp 153), some (151, false), .seq, [], []⟩,
    ⟨(some 155), .pick (.tmp 151) (.const (.bool true)) (.tmp 154), none, .seq, [], []⟩,
    ⟨(some 156), .move (.tmp 155), none, .seq, [], []⟩,
    ⟨(some 157), .move (.tmp 13), some (156, true), .seq, [], []⟩,
    ⟨(some 158), .bin .neq (.tmp 157) (.const (.int .i64 0)), some (156, true), .seq, [], []⟩,
    ⟨(some 159), .move (.tmp 158), some (156, true), .seq, [], []⟩,
    ⟨(some 160), .move (.tmp 25), some (159, false), .seq, [], []⟩,
    ⟨(some 161), .move (.tmp 10), some (159, false), .seq, [], []⟩,
    ⟨(some 162), .bin .geq (.tmp 160) (.tmp 161), some (159, false), .seq, [], []⟩,
    ⟨(some 163), .pick (.tmp 159) (.const (.bool true)) (.tmp 162), some (156, true), .seq, [], []⟩,
    ⟨(some 164), .pick (.tmp 156) (.tmp 163) (.const (.bool false)), none, .seq, [], []⟩,
    ⟨(some 165), .move (.tmp 164), none, .seq, [], []⟩,
    ⟨(some 166), .call 17 [], some (165, true), .seq, [], []⟩,
    ⟨(some 167), .pick (.tmp 165) (.tmp 166) (.const (.bool false)), none, .seq, [], []⟩,
    ⟨(some 8), .move (.tmp 167), none, .seq, [], []⟩])
  .ret))))))))))))))⟩

def f9l0 : ACode :=
  (.keep [3, 10, 11, 13, 14, 15, 16, 17, 18]
      (.seq (.seq (.region [⟨(some 83), .move (.tmp 18), none, .seq, [], []⟩,
         ⟨(some 84), .move (.tmp 11), none, .seq, [], []⟩,
         ⟨(some 85), .len .sl (.tmp 84), none, .seq, [], []⟩,
         ⟨(some 86), .bin .lss (.tmp 83) (.tmp 85), none, .seq, [], []⟩])
       (.cond (.tmp 86)
        .skip
        (.exit 2)))
      (.seq (.block 3
        (.seq (.region [⟨(some 89), .fieldAddr 2 (.tmp 3), none, .still, [], []⟩,
          ⟨(some 90), .load none (.tmp 89), none, .rd, [], []⟩,
          ⟨(some 91), .move (.tmp 11), none, .still, [], []⟩,
          ⟨(some 92), .move (.tmp 18), none, .still, [], []⟩,
          ⟨(some 93), .indexAddr none 1 (.tmp 91) (.tmp 92), none, .still, [], []⟩,
          ⟨(some 94), .load none (.tmp 93), none, .rd, [], []⟩,
          ⟨(some 95), .indexAddr none 3 (.tmp 90) (.tmp 94), none, .still, [], []⟩,
          ⟨(some 96), .fieldAddr 0 (.tmp 95), none, .still, [], []⟩,
          ⟨(some 97), .load none (.tmp 96), none, .seq, [], []⟩,
          ⟨(some 98), .move (.tmp 13), none, .still, [], []⟩,
          ⟨(some 99), .bin .geq (.tmp 97) (.tmp 98), none, .still, [], []⟩,
          ⟨(some 100), .move (.tmp 99), none, .still, [], []⟩,
          ⟨(some 101), .fieldAddr 2 (.tmp 3), some (100, true), .still, [], []⟩,
          ⟨(some 102), .load none (.tmp 101), some (100, true), .rd, [], []⟩,
          ⟨(some 103), .move (.tmp 11), some (100, true), .still, [], []⟩,
          ⟨(some 104), .move (.tmp 18), some (100, true), .still, [], []⟩,
          ⟨(some 105), .indexAddr none 1 (.tmp 103) (.tmp 104), some (100, true), .still, [], []⟩,
          ⟨(some 106), .load none (.tmp 105), some (100, true), .rd, [], []⟩,
          ⟨(some 107), .indexAddr none 3 (.tmp 102) (.tmp 106), some (100, true), .still, [], []⟩,
          ⟨(some 108), .fieldAddr 1 (.tmp 107), some (100, true), .still, [], []⟩,
          ⟨(some 109), .load none (.tmp 108), some (100, true), .seq, [], []⟩,
          ⟨(some 110), .move (.tmp 14), some (100, true), .still, [], []⟩,
          ⟨(some 111), .bin .leq (.tmp 109) (.tmp 110), some (100, true), .still, [], []⟩,
          ⟨(some 112), .pick (.tmp 100) (.tmp 111) (.const (.bool false)), none, .still, [], []⟩])
        (.cond (.tmp 112)
         (.region [⟨(some 113), .move (.tmp 17), none, .seq, [], []⟩,
          ⟨(some 114), .bin .add (.tmp 113) (.const (.int .i64 1)), none, .seq, [], []⟩,
          ⟨(some 17), .move (.tmp 114), none, .seq, [], []⟩])
         .skip)))
      (.region [⟨(some 87), .move (.tmp 18), none, .seq, [], []⟩,
       ⟨(some 88), .bin .add (.tmp 87) (.const (.int .i64 1)), none, .seq, [], []⟩,
       ⟨(some 18), .move (.tmp 88), none, .seq, [], []⟩]))))

def f9l1 : ACode :=
  (.keep [2, 3, 11, 12]
      (.seq (.seq (.region [⟨(some 41), .move (.tmp 12), none, .seq, [], []⟩,
         ⟨(some 42), .fieldAddr 2 (.tmp 3), none, .seq, [], []⟩,
         ⟨(some 43), .load none (.tmp 42), none, .seq, [], []⟩,
         ⟨(some 44), .len .sl (.tmp 43), none, .seq, [], []⟩,
         ⟨(some 45), .bin .lss (.tmp 41) (.tmp 44), none, .seq, [], []⟩])
       (.cond (.tmp 45)
        .skip
        (.exit 0)))
      (.seq (.block 1
        (.seq (.region [⟨(some 48), .move (.tmp 2), none, .seq, [], []⟩,
          ⟨(some 49), .move (.tmp 12), none, .seq, [], []⟩,
          ⟨(some 50), .bin .shr (.tmp 48) (.tmp 49), none, .seq, [], []⟩,
          ⟨(some 51), .bin .and (.tmp 50) (.const (.int .u32 1)), none, .seq, [], []⟩,
          ⟨(some 52), .bin .eql (.tmp 51) (.const (.int .u32 1)), none, .seq, [], []⟩])
        (.cond (.tmp 52)
         (.region [⟨(some 53), .move (.tmp 11), none, .seq, [], []⟩,
          ⟨(some 54), .move (.tmp 12), none, .seq, [], []⟩,
          ⟨(some 55), .buildSlice 1 [(.int .i64 0)] 1 [(0, (.tmp 54))], none, .seq, [], []⟩,
          ⟨(some 56), .append 1 8 (.tmp 53) (.tmp 55), none, .seq, [], []⟩,
          ⟨(some 11), .move (.tmp 56), none, .seq, [], []⟩])
         .skip)))
      (.region [⟨(some 46), .move (.tmp 12), none, .seq, [], []⟩,
       ⟨(some 47), .bin .add (.tmp 46) (.const (.int .i64 1)), none, .seq, [], []⟩,
       ⟨(some 12), .move (.tmp 47), none, .seq, [], []⟩]))))

/-- forecourt/forecourtlaw11.ShopEither -/
def f9 : AFunc := ⟨3, [.tmp 6],
  (.seq (.region [⟨(some 3), .box (.tmp 0), none, .seq, [], []⟩,
    ⟨(some 6), .move (.const (.bool false)), none, .seq, [], []⟩])
  (.seq (.seq (.region [⟨(some 19), .load (some 3) (.tmp 3), none, .seq, [], []⟩,
     ⟨(some 20), .call 40 [(.tmp 19)], none, .seq, [], []⟩,
     ⟨(some 21), .un .not (.tmp 20), none, .seq, [], []⟩,
     ⟨(some 22), .move (.tmp 21), none, .seq, [], []⟩,
     ⟨(some 23), .move (.tmp 1), some (22, false), .seq, [], []⟩,
     ⟨(some 24), .len .sl (.tmp 23), some (22, false), .seq, [], []⟩,
     ⟨(some 25), .bin .gtr (.tmp 24) (.const (.int .i64 40)), some (22, false), .seq, [], []⟩,
     ⟨(some 26), .pick (.tmp 22) (.const (.bool true)) (.tmp 25), none, .seq, [], []⟩])
   (.cond (.tmp 26)
    (.seq (.region [⟨(some 27), .call 17 [], none, .seq, [], []⟩,
      ⟨(some 6), .move (.tmp 27), none, .seq, [], []⟩])
    .ret)
    .skip))
  (.seq (.region [⟨(some 28), .load (some 3) (.tmp 3), none, .seq, [], []⟩,
    ⟨(some 29), .move (.tmp 1), none, .seq, [], []⟩,
    ⟨(some 30), .call 41 [(.tmp 28), (.tmp 29)], none, .seq, [], []⟩,
    ⟨(some 31), .call 42 [(.tmp 30)], none, .seq, [], []⟩,
    ⟨(some 7), .move (.tmp 31), none, .seq, [], []⟩])
  (.seq (.region [⟨(some 33), .load (some 3) (.tmp 3), none, .seq, [], []⟩,
    ⟨(some 34), .move (.tmp 7), none, .seq, [], []⟩,
    ⟨(some 35), .call 22 [(.tmp 33), (.tmp 34)], none, .seq, [], []⟩,
    ⟨(some 32), .move (.tmp 35), none, .seq, [], []⟩,
    ⟨(some 36), .extract (.tmp 32) 0, none, .seq, [], []⟩,
    ⟨(some 37), .extract (.tmp 32) 1, none, .seq, [], []⟩,
    ⟨(some 38), .extract (.tmp 32) 2, none, .seq, [], []⟩,
    ⟨(some 8), .move (.tmp 36), none, .seq, [], []⟩,
    ⟨(some 9), .move (.tmp 37), none, .seq, [], []⟩,
    ⟨(some 10), .move (.tmp 38), none, .seq, [], []⟩])
  (.seq (.seq (.region [⟨(some 39), .move (.tmp 10), none, .seq, [], []⟩,
     ⟨(some 40), .bin .neq (.tmp 39) (.const (.int .i64 5)), none, .seq, [], []⟩])
   (.cond (.tmp 40)
    (.seq (.region [⟨(some 6), .move (.const (.bool false)), none, .seq, [], []⟩])
    .ret)
    .skip))
  (.seq (.region [⟨(some 11), .move (.const (.slice none 0 0)), none, .seq, [], []⟩])
  (.seq (.seq (.region [⟨(some 12), .move (.const (.int .i64 0)), none, .seq, [], []⟩])
   (.block 0
    (.loop f9l1)))
  (.seq (.region [⟨(some 58), .load (some 3) (.tmp 3), none, .seq, [], []⟩,
    ⟨(some 59), .move (.tmp 11), none, .seq, [], []⟩,
    ⟨(some 60), .call 22 [(.tmp 58), (.tmp 59)], none, .seq, [], []⟩,
    ⟨(some 57), .move (.tmp 60), none, .seq, [], []⟩,
    ⟨(some 61), .extract (.tmp 57) 0, none, .seq, [], []⟩,
    ⟨(some 62), .extract (.tmp 57) 1, none, .seq, [], []⟩,
    ⟨(some 63), .extract (.tmp 57) 2, none, .seq, [], []⟩,
    ⟨(some 13), .move (.tmp 61), none, .seq, [], []⟩,
    ⟨(some 14), .move (.tmp 62), none, .seq, [], []⟩,
    ⟨(some 10), .move (.tmp 63), none, .seq, [], []⟩])
  (.seq (.region [⟨(some 65), .load (some 3) (.tmp 3), none, .seq, [], []⟩,
    ⟨(some 66), .move (.tmp 11), none, .seq, [], []⟩,
    ⟨(some 67), .call 24 [(.tmp 65), (.tmp 66)], none, .seq, [], []⟩,
    ⟨(some 64), .move (.tmp 67), none, .seq, [], []⟩,
    ⟨(some 68), .extract (.tmp 64) 0, none, .seq, [], []⟩,
    ⟨(some 69), .extract (.tmp 64) 1, none, .seq, [], []⟩,
    ⟨(some 15), .move (.tmp 68), none, .seq, [], []⟩,
    ⟨(some 16), .move (.tmp 69), none, .seq, [], []⟩])
  (.seq (.seq (.region [⟨(some 70), .move (.tmp 10), none, .seq, [], []⟩,
     ⟨(some 71), .bin .eql (.tmp 70) (.const (.int .i64 5)), none, .seq, [], []⟩])
   (.cond (.tmp 71)
    (.seq (.region [⟨(some 72), .move (.tmp 16), none, .seq, [], []⟩,
      ⟨(some 73), .bin .eql (.tmp 72) (.const (.int .i64 0)), none, .seq, [], []⟩,
      ⟨(some 74), .move (.tmp 73), none, .seq, [], []⟩,
      ⟨(some 75), .load (some 3) (.tmp 3), some (74, true), .seq, [], []⟩,
      ⟨(some 76), .move (.tmp 15), some (74, true), .seq, [], []⟩,
      ⟨(some 77), .move (.tmp 11), some (74, true), .seq, [], []⟩,
      ⟨(some 78), .call 26 [(.tmp 75), (.tmp 76), (.tmp 77)], some (74, true), .seq, [], []⟩,
      ⟨(some 79), .pick (.tmp 74) (.tmp 78) (.const (.bool false)), none, .seq, [], []⟩,
      ⟨(some 80), .move (.tmp 79), none, .seq, [], []⟩,
      ⟨(some 81), .call 17 [], some (80, true), .seq, [], []⟩,
      ⟨(some 82), .pick (.tmp 80) (.tmp 81) (.const (.bool false)), none, .seq, [], []⟩,
      ⟨(some 6), .move (.tmp 82), none, .seq, [], []⟩])
    .ret)
    .skip))
  (.seq (.region [⟨(some 17), .move (.const (.int .i64 0)), none, .seq, [], []⟩])
  (.seq (.seq (.region [⟨(some 18), .move (.const (.int .i64 0)), none, .seq, [], []⟩])
   (.block 2
    (.loop f9l0)))
  (.seq (.region [⟨(some 115), .move (.tmp 10), none, .seq, [], []⟩,
    ⟨(some 116), .bin .eql (.tmp 115) (.const (.int .i64 0)), none, .seq, [], []⟩,
    ⟨(some 117), .move (.tmp 116), none, .seq, [], []⟩,
    ⟨(some 118), .move (.tmp 16), some (117, true), .seq, [], []⟩,
    ⟨(some 119), .bin .eql (.tmp 118) (.const (.int .i64 10)), some (117, true), .seq, [], []⟩,
    ⟨(some 120), .pick (.tmp 117) (.tmp 119) (.const (.bool false)), none, .seq, [], []⟩,
    ⟨(some 121), .move (.tmp 120), none, .seq, [], []⟩,
    ⟨(some 122), .move (.tmp 15), some (121, true), .seq, [], []⟩,
    ⟨(some 123), .len .sl (.tmp 122), some (121, true), .seq, [], []⟩,
    ⟨(some 124), .bin .eql (.tmp 123) (.const (.int .i64 0)), some (121, true), .seq, [], []⟩,
    ⟨(some 125), .pick (.tmp 121) (.tmp 124) (.const (.bool false)), none, .seq, [], []⟩,
    ⟨(some 126), .move (.tmp 125), none, .seq, [], []⟩,
    ⟨(some 127), .move (.tmp 13), some (126, true), .seq, [], []⟩,
    ⟨(some 128), .bin .geq (.tmp 127) (.const (.int .i64 0)), some (126, true), .seq, [], []⟩,
    ⟨(some 129), .pick (.tmp 126) (.tmp 128) (.const (.bool false)), none, .seq, [], []⟩,
    ⟨(some 130), .move (.tmp 129), none, .seq, [], []⟩,
    ⟨(some 131), .move (.tmp 13), some (130, true), .seq, [], []⟩,
    ⟨(some 132), .move (.tmp 14), some (130, true), .seq, [], []⟩,
    ⟨(some 133), .bin .leq (.tmp 131) (.tmp 132), some (130, true), .seq, [], []⟩,
    ⟨(some 134), .pick (.tmp 130) (.tmp 133) (.const (.bool false)), none, .seq, [], []⟩,
    ⟨(some 135), .move (.tmp 134), none, .seq, [], []⟩,
    ⟨(some 136), .move (.tmp 14), some (135, true), .seq, [], []⟩,
    ⟨(some 137), .fieldAddr 0 (.tmp 3), some (135, true), .seq, [], []⟩,
    ⟨(some 138), .load none (.tmp 137), some (135, true), .seq, [], []⟩,
    ⟨(some 139), .bin .lss (.tmp 136) (.tmp 138), some (135, true), .seq, [], []⟩,
    ⟨(some 140), .pick (.tmp 135) (.tmp 139) (.const (.bool false)), none, .seq, [], []⟩,
    ⟨(some 141), .move (.tmp 140), none, .seq, [], []⟩,
    ⟨(some 142), .move (.tmp 17), some (141, true), .seq, [], []⟩,
    ⟨(some 143), .fieldAddr 1 (.tmp 3), some (141, true), .seq, [], []⟩,
    ⟨(some 144), .load none (.tmp 143), some (141, true), .seq, [], []⟩,
    ⟨(some 145), .move (.tmp 14), some (141, true), .seq, [], []⟩,
    ⟨(some 146), .move (.tmp 13), some (141, true), .seq, [], []⟩,
    ⟨(some 147), .bin .sub (.tmp 145) (.tmp 146), some (141, true), .seq, [], []⟩,
    ⟨(some 148), .bin .add (.tmp 147) (.const (.int .i64 1)), some (141, true), .seq, [], []⟩,
    ⟨(some 149), .bin .mul (.tmp 144) (.tmp 148), some (141, true), .seq, [], []⟩,
    ⟨(some 150), .bin .gtr (.tmp 142) (.tmp 149), some (141, true), .seq, [], []⟩,
    ⟨(some 151), .pick (.tmp 141) (.tmp 150) (.const (.bool false)), none, .seq, [], []⟩,
    ⟨(some 152), .move (.tmp 151), none, .seq, [], []⟩,
    ⟨(some 153), .call 17 [], some (152, true), .seq, [], []⟩,
    ⟨(some 154), .pick (.tmp 152) (.tmp 153) (.const (.bool false)), none, .seq, [], []⟩,
    ⟨(some 6), .move (.tmp 154), none, .seq, [], []⟩])
  .ret)))))))))))))⟩

def f10l0 : ACode :=
  (.keep [3, 4, 9, 12, 19, 20]
      (.seq (.seq (.region [⟨(some 141), .move (.tmp 20), none, .seq, [], []⟩,
         ⟨(some 142), .move (.tmp 9), none, .seq, [], []⟩,
         ⟨(some 143), .len .sl (.tmp 142), none, .seq, [], []⟩,
         ⟨(some 144), .bin .lss (.tmp 141) (.tmp 143), none, .seq, [], []⟩])
       (.cond (.tmp 144)
        .skip
        (.exit 4)))
      (.seq (.block 5
        (.seq (.seq (.region [⟨(some 147), .move (.tmp 9), none, .seq, [], []⟩,
           ⟨(some 148), .move (.tmp 20), none, .seq, [], []⟩,
           ⟨(some 149), .indexAddr none 1 (.tmp 147) (.tmp 148), none, .seq, [], []⟩,
           ⟨(some 150), .load none (.tmp 149), none, .seq, [], []⟩,
           ⟨(some 151), .bin .lss (.tmp 150) (.const (.int .i64 0)), none, .seq, [], []⟩,
           ⟨(some 152), .move (.tmp 151), none, .seq, [], []⟩,
           ⟨(some 153), .move (.tmp 9), some (152, false), .seq, [], []⟩,
           ⟨(some 154), .move (.tmp 20), some (152, false), .seq, [], []⟩,
           ⟨(some 155), .indexAddr none 1 (.tmp 153) (.tmp 154), some (152, false), .seq, [], []⟩,
           ⟨(some 156), .load none (.tmp 155), some (152, false), .seq, [], []⟩,
           ⟨(some 157), .bin .gtr (.tmp 156) (.const (.int .i64 2)), some (152, false), .seq, [], []⟩,
           ⟨(some 158), .pick (.tmp 152) (.const (.bool true)) (.tmp 157), none, .seq, [], []⟩])
         (.cond (.tmp 158)
          (.seq (.region [⟨(some 8), .move (.const (.bool false)), none, .seq, [], []⟩])
          .ret)
          .skip))
        (.seq (.region [⟨(some 159), .move (.tmp 9), none, .seq, [], []⟩,
          ⟨(some 160), .move (.tmp 20), none, .seq, [], []⟩,
          ⟨(some 161), .indexAddr none 1 (.tmp 159) (.tmp 160), none, .seq, [], []⟩,
          ⟨(some 162), .load none (.tmp 161), none, .seq, [], []⟩,
          ⟨(some 163), .bin .eql (.tmp 162) (.const (.int .i64 2)), none, .seq, [], []⟩])
        (.cond (.tmp 163)
         (.region [⟨(some 164), .move (.tmp 19), none, .seq, [], []⟩,
          ⟨(some 165), .move (.tmp 20), none, .seq, [], []⟩,
          ⟨(some 166), .buildSlice 1 [(.int .i64 0)] 1 [(0, (.tmp 165))], none, .seq, [], []⟩,
          ⟨(some 167), .append 1 8 (.tmp 164) (.tmp 166), none, .seq, [], []⟩,
          ⟨(some 19), .move (.tmp 167), none, .seq, [], []⟩])
         .skip))))
      (.region [⟨(some 145), .move (.tmp 20), none, .seq, [], []⟩,
       ⟨(some 146), .bin .add (.tmp 145) (.const (.int .i64 1)), none, .seq, [], []⟩,
       ⟨(some 20), .move (.tmp 146), none, .seq, [], []⟩]))))

def f10l1 : ACode :=
  (.keep [3, 4, 9, 12, 14, 15, 18]
           (.seq (.seq (.region [⟨(some 103), .move (.tmp 18), none, .seq, [], []⟩,
              ⟨(some 104), .move (.tmp 9), none, .seq, [], []⟩,
              ⟨(some 105), .len .sl (.tmp 104), none, .seq, [], []⟩,
              ⟨(some 106), .bin .lss (.tmp 103) (.tmp 105), none, .seq, [], []⟩])
            (.cond (.tmp 106)
             .skip
             (.exit 2)))
           (.seq (.block 3
             (.seq (.region [⟨(some 109), .move (.tmp 9), none, .seq, [], []⟩,
               ⟨(some 110), .move (.tmp 18), none, .seq, [], []⟩,
               ⟨(some 111), .indexAddr none 1 (.tmp 109) (.tmp 110), none, .seq, [], []⟩,
               ⟨(some 112), .load none (.tmp 111), none, .seq, [], []⟩,
               ⟨(some 113), .bin .eql (.tmp 112) (.const (.int .i64 2)), none, .seq, [], []⟩,
               ⟨(some 114), .move (.tmp 113), none, .seq, [], []⟩,
               ⟨(some 115), .move (.tmp 14), some (114, true), .seq, [], []⟩,
               ⟨(some 116), .move (.tmp 15), some (114, true), .seq, [], []⟩,
               ⟨(some 117), .indexAddr none 1 (.tmp 115) (.tmp 116), some (114, true), .seq, [], []⟩,
               ⟨(some 118), .load none (.tmp 117), some (114, true), .seq, [], []⟩,
               ⟨(some 119), .move (.tmp 18), some (114, true), .seq, [], []⟩,
               ⟨(some 120), .indexAddr none 1 (.tmp 118) (.tmp 119), some (114, true), .seq, [], []⟩,
               ⟨(some 121), .load none (.tmp 120), some (114, true), .seq, [], []⟩,
               ⟨(some 122), .bin .lss (.tmp 121) (.const (.int .i64 0)), some (114, true), .seq, [], []⟩,
               ⟨(some 123), .pick (.tmp 114) (.tmp 122) (.const (.bool false)), none, .seq, [], []⟩,
               ⟨(some 124), .move (.tmp 123), none, .seq, [], []⟩,
               ⟨(some 125), .move (.tmp 9), some (124, false), .seq, [], []⟩,
               ⟨(some 126), .move (.tmp 18), some (124, false), .seq, [], []⟩,
               ⟨(some 127), .indexAddr none 1 (.tmp 125) (.tmp 126), some (124, false), .seq, [], []⟩,
               ⟨(some 128), .load none (.tmp 127), some (124, false), .seq, [], []⟩,
               ⟨(some 129), .bin .eql (.tmp 128) (.const (.int .i64 0)), some (124, false), .seq, [], []⟩,
               ⟨(some 130), .move (.tmp 129), some (124, false), .seq, [], []⟩,
               ⟨(some 131), .move (.tmp 14), some (130, true), .seq, [], []⟩,
               ⟨(some 132), .move (.tmp 15), some (130, true), .seq, [], []⟩,
               ⟨(some 133), .indexAddr none 1 (.tmp 131) (.tmp 132), some (130, true), .seq, [], []⟩,
               ⟨(some 134), .load none (.tmp 133), some (130, true), .seq, [], []⟩,
               ⟨(some 135), .move (.tmp 18), some (130, true), .seq, [], []⟩,
               ⟨(some 136), .indexAddr none 1 (.tmp 134) (.tmp 135), some (130, true), .seq, [], []⟩,
               ⟨(some 137), .load none (.tmp 136), some (130, true), .seq, [], []⟩,
               ⟨(some 138), .bin .geq (.tmp 137) (.const (.int .i64 0)), some (130, true), .seq, [], []⟩,
               ⟨(some 139), .pick (.tmp 130) (.tmp 138) (.const (.bool false)), some (124, false), .seq, [], []⟩,
               ⟨(some 140), .pick (.tmp 124) (.const (.bool true)) (.tmp 139), none, .seq, [], []⟩])
             (.cond (.tmp 140)
              (.seq (.region [⟨(some 8), .move (.const (.bool false)), none, .seq, [], []⟩])
              .ret)
              .skip)))
           (.region [⟨(some 107), .move (.tmp 18), none, .seq, [], []⟩,
            ⟨(some 108), .bin .add (.tmp 107) (.const (.int .i64 1)), none, .seq, [], []⟩,
            ⟨(some 18), .move (.tmp 108), none, .seq, [], []⟩]))))

def f10l2 : ACode :=
  (.keep [3, 4, 9, 12, 14, 15]
      (.seq (.seq (.region [⟨(some 72), .move (.tmp 15), none, .seq, [], []⟩,
         ⟨(some 73), .bin .lss (.tmp 72) (.const (.int .i64 3)), none, .seq, [], []⟩])
       (.cond (.tmp 73)
        .skip
        (.exit 0)))
      (.seq (.block 1
        (.seq (.region [⟨(some 77), .load (some 3) (.tmp 4), none, .rd, [], []⟩,
          ⟨(some 78), .move (.tmp 14), none, .still, [], []⟩,
          ⟨(some 79), .move (.tmp 15), none, .still, [], []⟩,
          ⟨(some 80), .indexAddr none 1 (.tmp 78) (.tmp 79), none, .still, [], []⟩,
          ⟨(some 81), .load none (.tmp 80), none, .rd, [], []⟩,
          ⟨(some 82), .call 19 [(.tmp 77), (.tmp 81)], none, .seq, [], []⟩,
          ⟨(some 76), .move (.tmp 82), none, .still, [], []⟩,
          ⟨(some 83), .extract (.tmp 76) 0, none, .still, [], []⟩,
          ⟨(some 84), .extract (.tmp 76) 1, none, .still, [], []⟩,
          ⟨(some 16), .move (.tmp 83), none, .still, [], []⟩,
          ⟨(some 17), .move (.tmp 84), none, .still, [], []⟩])
        (.seq (.seq (.region [⟨(some 85), .move (.tmp 15), none, .seq, [], []⟩,
           ⟨(some 86), .bin .eql (.tmp 85) (.const (.int .i64 0)), none, .seq, [], []⟩,
           ⟨(some 87), .move (.tmp 86), none, .seq, [], []⟩,
           ⟨(some 88), .move (.tmp 17), some (87, true), .seq, [], []⟩,
           ⟨(some 89), .bin .neq (.tmp 88) (.const (.int .i64 0)), some (87, true), .seq, [], []⟩,
           ⟨(some 90), .move (.tmp 89), some (87, true), .seq, [], []⟩,
           ⟨(some 91), .move (.tmp 16), some (90, false), .seq, [], []⟩,
           ⟨(some 92), .move (.tmp 12), some (90, false), .seq, [], []⟩,
           ⟨(some 93), .bin .neq (.tmp 91) (.tmp 92), some (90, false), .seq, [], []⟩,
           ⟨(some 94), .pick (.tmp 90) (.const (.bool true)) (.tmp 93), some (87, true), .seq, [], []⟩,
           ⟨(some 95), .pick (.tmp 87) (.tmp 94) (.const (.bool false)), none, .seq, [], []⟩])
         (.cond (.tmp 95)
          (.seq (.region [⟨(some 8), .move (.const (.bool false)), none, .seq, [], []⟩])
          .ret)
          .skip))
        (.seq (.seq (.region [⟨(some 96), .move (.tmp 17), none, .seq, [], []⟩,
           ⟨(some 97), .bin .neq (.tmp 96) (.const (.int .i64 0)), none, .seq, [], []⟩,
           ⟨(some 98), .move (.tmp 97), none, .seq, [], []⟩,
           ⟨(some 99), .move (.tmp 16), some (98, false), .seq, [], []⟩,
           ⟨(some 100), .move (.tmp 12), some (98, false), .seq, [], []⟩,
           ⟨(some 101), .bin .neq (.tmp 99) (.tmp 100), some (98, false), .seq, [], []⟩,
           ⟨(some 102), .pick (.tmp 98) (.const (.bool true)) (.tmp 101), none, .seq, [], []⟩])
         (.cond (.tmp 102)
          (.exit 1)
          .skip))
        (.seq (.region [⟨(some 18), .move (.const (.int .i64 0)), none, .seq, [], []⟩])
        (.block 2
         (.loop f10l1)))))))
      (.region [⟨(some 74), .move (.tmp 15), none, .seq, [], []⟩,
       ⟨(some 75), .bin .add (.tmp 74) (.const (.int .i64 1)), none, .seq, [], []⟩,
       ⟨(some 15), .move (.tmp 75), none, .seq, [], []⟩]))))

/-- forecourt/forecourtlaw11.ShopCertain -/
def f10 : AFunc := ⟨4, [.tmp 8],
  (.seq (.region [⟨(some 4), .box (.tmp 0), none, .seq, [], []⟩,
    ⟨(some 8), .move (.const (.bool false)), none, .seq, [], []⟩])
  (.seq (.seq (.region [⟨(some 27), .load (some 3) (.tmp 4), none, .seq, [], []⟩,
     ⟨(some 28), .call 40 [(.tmp 27)], none, .seq, [], []⟩,
     ⟨(some 29), .un .not (.tmp 28), none, .seq, [], []⟩,
     ⟨(some 30), .move (.tmp 29), none, .seq, [], []⟩,
     ⟨(some 31), .move (.tmp 1), some (30, false), .seq, [], []⟩,
     ⟨(some 32), .len .sl (.tmp 31), some (30, false), .seq, [], []⟩,
     ⟨(some 33), .bin .gtr (.tmp 32) (.const (.int .i64 40)), some (30, false), .seq, [], []⟩,
     ⟨(some 34), .pick (.tmp 30) (.const (.bool true)) (.tmp 33), none, .seq, [], []⟩,
     ⟨(some 35), .move (.tmp 34), none, .seq, [], []⟩,
     ⟨(some 36), .move (.tmp 2), some (35, false), .seq, [], []⟩,
     ⟨(some 37), .len .sl (.tmp 36), some (35, false), .seq, [], []⟩,
     ⟨(some 38), .bin .gtr (.tmp 37) (.const (.int .i64 40)), some (35, false), .seq, [], []⟩,
     ⟨(some 39), .pick (.tmp 35) (.const (.bool true)) (.tmp 38), none, .seq, [], []⟩])
   (.cond (.tmp 39)
    (.seq (.region [⟨(some 40), .call 17 [], none, .seq, [], []⟩,
      ⟨(some 8), .move (.tmp 40), none, .seq, [], []⟩])
    .ret)
    .skip))
  (.seq (.region [⟨(some 42), .load (some 3) (.tmp 4), none, .seq, [], []⟩,
    ⟨(some 43), .call 28 [(.tmp 42)], none, .seq, [], []⟩,
    ⟨(some 41), .move (.tmp 43), none, .seq, [], []⟩,
    ⟨(some 44), .extract (.tmp 41) 0, none, .seq, [], []⟩,
    ⟨(some 45), .extract (.tmp 41) 1, none, .seq, [], []⟩,
    ⟨(some 9), .move (.tmp 44), none, .seq, [], []⟩,
    ⟨(some 10), .move (.tmp 45), none, .seq, [], []⟩])
  (.seq (.region [⟨(some 47), .load (some 3) (.tmp 4), none, .seq, [], []⟩,
    ⟨(some 48), .call 30 [(.tmp 47)], none, .seq, [], []⟩,
    ⟨(some 46), .move (.tmp 48), none, .seq, [], []⟩,
    ⟨(some 49), .extract (.tmp 46) 0, none, .seq, [], []⟩,
    ⟨(some 50), .extract (.tmp 46) 1, none, .seq, [], []⟩,
    ⟨(some 51), .extract (.tmp 46) 2, none, .seq, [], []⟩,
    ⟨(some 11), .move (.tmp 49), none, .seq, [], []⟩,
    ⟨(some 12), .move (.tmp 50), none, .seq, [], []⟩,
    ⟨(some 13), .move (.tmp 51), none, .seq, [], []⟩])
  (.seq (.seq (.region [⟨(some 52), .move (.tmp 10), none, .seq, [], []⟩,
     ⟨(some 53), .bin .neq (.tmp 52) (.const (.int .i64 0)), none, .seq, [], []⟩,
     ⟨(some 54), .move (.tmp 53), none, .seq, [], []⟩,
     ⟨(some 55), .move (.tmp 13), some (54, false), .seq, [], []⟩,
     ⟨(some 56), .bin .neq (.tmp 55) (.const (.int .i64 0)), some (54, false), .seq, [], []⟩,
     ⟨(some 57), .pick (.tmp 54) (.const (.bool true)) (.tmp 56), none, .seq, [], []⟩,
     ⟨(some 58), .move (.tmp 57), none, .seq, [], []⟩,
     ⟨(some 59), .move (.tmp 9), some (58, false), .seq, [], []⟩,
     ⟨(some 60), .len .sl (.tmp 59), some (58, false), .seq, [], []⟩,
     ⟨(some 61), .fieldAddr 2 (.tmp 4), some (58, false), .seq, [], []⟩,
     ⟨(some 62), .load none (.tmp 61), some (58, false), .seq, [], []⟩,
     ⟨(some 63), .len .sl (.tmp 62), some (58, false), .seq, [], []⟩,
     ⟨(some 64), .bin .neq (.tmp 60) (.tmp 63), some (58, false), .seq, [], []⟩,
     ⟨(some 65), .pick (.tmp 58) (.const (.bool true)) (.tmp 64), none, .seq, [], []⟩])
   (.cond (.tmp 65)
    (.seq (.region [⟨(some 8), .move (.const (.bool false)), none, .seq, [], []⟩])
    .ret)
    .skip))
  (.seq (.region [⟨(some 66), .move (.tmp 11), none, .seq, [], []⟩,
    ⟨(some 67), .load (some 3) (.tmp 4), none, .seq, [], []⟩,
    ⟨(some 68), .move (.tmp 1), none, .seq, [], []⟩,
    ⟨(some 69), .call 41 [(.tmp 67), (.tmp 68)], none, .seq, [], []⟩,
    ⟨(some 70), .move (.tmp 2), none, .seq, [], []⟩,
    ⟨(some 71), .buildSlice 1 [(.slice none 0 0)] 3 [(0, (.tmp 66)), (1, (.tmp 69)), (2, (.tmp 70))], none, .seq, [], []⟩,
    ⟨(some 14), .move (.tmp 71), none, .seq, [], []⟩])
  (.seq (.seq (.region [⟨(some 15), .move (.const (.int .i64 0)), none, .seq, [], []⟩])
   (.block 0
    (.loop f10l2)))
  (.seq (.region [⟨(some 19), .move (.const (.slice none 0 0)), none, .seq, [], []⟩])
  (.seq (.seq (.region [⟨(some 20), .move (.const (.int .i64 0)), none, .seq, [], []⟩])
   (.block 4
    (.loop f10l0)))
  (.seq (.region [⟨(some 169), .load (some 3) (.tmp 4), none, .seq, [], []⟩,
    ⟨(some 170), .move (.tmp 19), none, .seq, [], []⟩,
    ⟨(some 171), .call 24 [(.tmp 169), (.tmp 170)], none, .seq, [], []⟩,
    ⟨(some 168), .move (.tmp 171), none, .seq, [], []⟩,
    ⟨(some 172), .extract (.tmp 168) 0, none, .seq, [], []⟩,
    ⟨(some 173), .extract (.tmp 168) 1, none, .seq, [], []⟩,
    ⟨(some 21), .move (.tmp 172), none, .seq, [], []⟩,
    ⟨(some 22), .move (.tmp 173), none, .seq, [], []⟩])
  (.seq (.seq (.region [⟨(some 174), .move (.tmp 22), none, .seq, [], []⟩,
     ⟨(some 175), .bin .neq (.tmp 174) (.const (.int .i64 0)), none, .seq, [], []⟩])
   (.cond (.tmp 175)
    (.seq (.region [⟨(some 8), .move (.const (.bool false)), none, .seq, [], []⟩])
    .ret)
    .skip))
  (.seq (.seq (.region [⟨(some 176), .move (.tmp 9), none, .seq, [], []⟩,
     ⟨(some 177), .len .sl (.tmp 176), none, .seq, [], []⟩,
     ⟨(some 178), .bin .eql (.tmp 177) (.const (.int .i64 0)), none, .seq, [], []⟩])
   (.cond (.tmp 178)
    (.seq (.region [⟨(some 179), .call 17 [], none, .seq, [], []⟩,
      ⟨(some 8), .move (.tmp 179), none, .seq, [], []⟩])
    .ret)
    .skip))
  (.seq (.region [⟨(some 180), .move (.tmp 3), none, .seq, [], []⟩,
    ⟨(some 181), .convInt .i64 (.tmp 180), none, .seq, [], []⟩,
    ⟨(some 182), .move (.tmp 9), none, .seq, [], []⟩,
    ⟨(some 183), .len .sl (.tmp 182), none, .seq, [], []⟩,
    ⟨(some 184), .bin .rem (.tmp 181) (.tmp 183), none, .seq, [], []⟩,
    ⟨(some 23), .move (.tmp 184), none, .seq, [], []⟩])
  (.seq (.region [⟨(some 185), .fieldAddr 0 (.tmp 4), none, .still, [], []⟩,
    ⟨(some 186), .load none (.tmp 185), none, .rd, [], []⟩,
    ⟨(some 187), .fieldAddr 1 (.tmp 4), none, .still, [], []⟩,
    ⟨(some 188), .load none (.tmp 187), none, .rd, [], []⟩,
    ⟨(some 189), .buildSlice 3 [(.int .i64 0), (.int .i64 0), (.int .i64 0)] 0 [], none, .mk, [], []⟩,
    ⟨(some 190), .fieldAddr 2 (.tmp 4), none, .still, [], []⟩,
    ⟨(some 191), .load none (.tmp 190), none, .rd, [1], []⟩,
    ⟨(some 192), .move (.tmp 23), none, .still, [], []⟩,
    ⟨(some 193), .slice (.sl 3) (.tmp 191) none (some (.tmp 192)) none, none, .mk, [], []⟩,
    ⟨(some 194), .append 3 24 (.tmp 189) (.tmp 193), none, .on, [7, 5], []⟩,
    ⟨(some 195), .fieldAddr 2 (.tmp 4), none, .still, [], []⟩,
    ⟨(some 196), .load none (.tmp 195), none, .rd, [6, 2, 1], []⟩,
    ⟨(some 197), .move (.tmp 23), none, .still, [], []⟩,
    ⟨(some 198), .bin .add (.tmp 197) (.const (.int .i64 1)), none, .still, [], []⟩,
    ⟨(some 199), .slice (.sl 3) (.tmp 196) (some (.tmp 198)) none none, none, .mk, [], []⟩,
    ⟨(some 200), .append 3 24 (.tmp 194) (.tmp 199), none, .on, [13, 11], []⟩,
    ⟨(some 201), .build [(.int .i64 0), (.int .i64 0), (.slice none 0 0)] (.list [(0, 1), (1, 1), (2, 1)]) [(0, (.tmp 186)), (1, (.tmp 188)), (2, (.tmp 200))], none, .still, [], []⟩,
    ⟨(some 24), .alloc [(.int .i64 0), (.int .i64 0), (.slice none 0 0)], none, .mk, [], []⟩,
    ⟨none, .store 3 (.tmp 24) (.tmp 201), none, .seq, [], []⟩])
  (.seq (.region [⟨(some 203), .load (some 3) (.tmp 24), none, .seq, [], []⟩,
    ⟨(some 204), .call 30 [(.tmp 203)], none, .seq, [], []⟩,
    ⟨(some 202), .move (.tmp 204), none, .seq, [], []⟩,
    ⟨(some 205), .extract (.tmp 202) 0, none, .seq, [], []⟩,
    ⟨(some 206), .extract (.tmp 202) 1, none, .seq, [], []⟩,
    ⟨(some 207), .extract (.tmp 202) 2, none, .seq, [], []⟩,
    ⟨(some 25), .move (.tmp 205), none, .seq, [], []⟩,
    ⟨(some 26), .move (.tmp 206), none, .seq, [], []⟩,
    ⟨(some 22), .move (.tmp 207), none, .seq, [], []⟩])
  (.seq (.region [⟨(some 208), .move (.tmp 22), none, .seq, [], []⟩,
    ⟨(some 209), .bin .eql (.tmp 208) (.const (.int .i64 0)), none, .seq, [], []⟩,
    ⟨(some 210), .move (.tmp 209), none, .seq, [], []⟩,
    ⟨(some 211), .move (.tmp 9), some (210, true), .seq, [], []⟩,
    ⟨(some 212), .move (.tmp 23), some (210, true), .seq, [], []⟩,
    ⟨(some 213), .indexAddr none 1 (.tmp 211) (.tmp 212), some (210, true), .seq, [], []⟩,
    ⟨(some 214), .load none (.tmp 213), some (210, true), .seq, [], []⟩,
    ⟨(some 215), .bin .eql (.tmp 214) (.const (.int .i64 2)), some (210, true), .seq, [], []⟩,
    ⟨(some 216), .move (.tmp 26), some (210, true), .seq, [], []⟩,
    ⟨(some 217), .move (.tmp 12), some (210, true), .seq, [], []⟩,
    ⟨(some 218), .bin .lss (.tmp 216) (.tmp 217), some (210, true), .seq, [], []⟩,
    ⟨(some 219), .nilEq false .bool (.tmp 215) (.tmp 218), some (210, true), .seq, [], []⟩,
    ⟨(some 220), .pick (.tmp 210) (.tmp 219) (.const (.bool false)), none, .seq, [], []⟩,
    ⟨(some 221), .move (.tmp 220), none, .seq, [], []⟩,
    ⟨(some 222), .move (.tmp 26), some (221, true), .seq, [], []⟩,
    ⟨(some 223), .move (.tmp 12), some (221, true), .seq, [], []⟩,
    ⟨(some 224), .bin .leq (.tmp 222) (.tmp 223), some (221, true), .seq, [], []⟩,
    ⟨(some 225), .pick (.tmp 221) (.tmp 224) (.const (.bool false)), none, .seq, [], []⟩,
    ⟨(some 226), .move (.tmp 225), none, .seq, [], []⟩,
    ⟨(some 227), .call 17 [], some (226, true), .seq, [], []⟩,
    ⟨(some 228), .pick (.tmp 226) (.tmp 227) (.const (.bool false)), none, .seq, [], []⟩,
    ⟨(some 8), .move (.tmp 228), none, .seq, [], []⟩])
  .ret))))))))))))))))⟩

def f11l0 : ACode :=
  (.keep [4, 5, 11, 17, 23, 24, 25]
      (.seq (.seq (.region [⟨(some 157), .move (.tmp 25), none, .seq, [], []⟩,
         ⟨(some 158), .fieldAddr 2 (.tmp 5), none, .seq, [], []⟩,
         ⟨(some 159), .load none (.tmp 158), none, .seq, [], []⟩,
         ⟨(some 160), .len .sl (.tmp 159), none, .seq, [], []⟩,
         ⟨(some 161), .bin .lss (.tmp 157) (.tmp 160), none, .seq, [], []⟩])
       (.cond (.tmp 161)
        .skip
        (.exit 2)))
      (.seq (.block 3
        (.seq (.region [⟨(some 164), .move (.tmp 4), none, .seq, [], []⟩,
          ⟨(some 165), .move (.tmp 25), none, .seq, [], []⟩,
          ⟨(some 166), .bin .shr (.tmp 164) (.tmp 165), none, .seq, [], []⟩,
          ⟨(some 167), .bin .and (.tmp 166) (.const (.int .u32 1)), none, .seq, [], []⟩,
          ⟨(some 168), .bin .eql (.tmp 167) (.const (.int .u32 1)), none, .seq, [], []⟩])
        (.cond (.tmp 168)
         (.seq (.region [⟨(some 169), .move (.tmp 23), none, .seq, [], []⟩,
           ⟨(some 170), .move (.tmp 25), none, .seq, [], []⟩,
           ⟨(some 171), .buildSlice 1 [(.int .i64 0)] 1 [(0, (.tmp 170))], none, .seq, [], []⟩,
           ⟨(some 172), .append 1 8 (.tmp 169) (.tmp 171), none, .seq, [], []⟩,
           ⟨(some 23), .move (.tmp 172), none, .seq, [], []⟩])
         (.seq (.region [⟨(some 173), .move (.tmp 25), none, .seq, [], []⟩,
           ⟨(some 174), .move (.tmp 11), none, .seq, [], []⟩,
           ⟨(some 175), .bin .neq (.tmp 173) (.tmp 174), none, .seq, [], []⟩])
         (.cond (.tmp 175)
          (.region [⟨(some 176), .move (.tmp 24), none, .seq, [], []⟩,
           ⟨(some 177), .move (.tmp 25), none, .seq, [], []⟩,
           ⟨(some 178), .buildSlice 1 [(.int .i64 0)] 1 [(0, (.tmp 177))], none, .seq, [], []⟩,
           ⟨(some 179), .append 1 8 (.tmp 176) (.tmp 178), none, .seq, [], []⟩,
           ⟨(some 24), .move (.tmp 179), none, .seq, [], []⟩])
          .skip)))
         .skip)))
      (.region [⟨(some 162), .move (.tmp 25), none, .seq, [], []⟩,
       ⟨(some 163), .bin .add (.tmp 162) (.const (.int .i64 1)), none, .seq, [], []⟩,
       ⟨(some 25), .move (.tmp 163), none, .seq, [], []⟩]))))

def f11l1 : ACode :=
  (.keep [3, 4, 5, 11, 16, 17, 18, 19]
      (.seq (.seq (.region [⟨(some 119), .move (.tmp 19), none, .seq, [], []⟩,
         ⟨(some 120), .bin .lss (.tmp 119) (.const (.int .i64 3)), none, .seq, [], []⟩])
       (.cond (.tmp 120)
        .skip
        (.exit 0)))
      (.seq (.block 1
        (.seq (.seq (.region [⟨(some 123), .move (.tmp 18), none, .seq, [], []⟩,
           ⟨(some 124), .move (.tmp 19), none, .seq, [], []⟩,
           ⟨(some 125), .indexAddr none 3 (.tmp 123) (.tmp 124), none, .seq, [], []⟩,
           ⟨(some 126), .load (some 3) (.tmp 125), none, .seq, [], []⟩,
           ⟨(some 127), .call 40 [(.tmp 126)], none, .seq, [], []⟩,
           ⟨(some 128), .un .not (.tmp 127), none, .seq, [], []⟩])
         (.cond (.tmp 128)
          (.exit 1)
          .skip))
        (.seq (.region [⟨(some 130), .move (.tmp 18), none, .seq, [], []⟩,
          ⟨(some 131), .move (.tmp 19), none, .seq, [], []⟩,
          ⟨(some 132), .indexAddr none 3 (.tmp 130) (.tmp 131), none, .seq, [], []⟩,
          ⟨(some 133), .load (some 3) (.tmp 132), none, .seq, [], []⟩,
          ⟨(some 134), .call 30 [(.tmp 133)], none, .seq, [], []⟩,
          ⟨(some 129), .move (.tmp 134), none, .seq, [], []⟩,
          ⟨(some 135), .extract (.tmp 129) 0, none, .seq, [], []⟩,
          ⟨(some 136), .extract (.tmp 129) 1, none, .seq, [], []⟩,
          ⟨(some 137), .extract (.tmp 129) 2, none, .seq, [], []⟩,
          ⟨(some 20), .move (.tmp 135), none, .seq, [], []⟩,
          ⟨(some 21), .move (.tmp 136), none, .seq, [], []⟩,
          ⟨(some 22), .move (.tmp 137), none, .seq, [], []⟩])
        (.seq (.region [⟨(some 138), .move (.tmp 22), none, .seq, [], []⟩,
          ⟨(some 139), .bin .neq (.tmp 138) (.const (.int .i64 0)), none, .seq, [], []⟩,
          ⟨(some 140), .move (.tmp 139), none, .seq, [], []⟩,
          ⟨(some 141), .move (.tmp 21), some (140, false), .seq, [], []⟩,
          ⟨(some 142), .move (.tmp 16), some (140, false), .seq, [], []⟩,
          ⟨(some 143), .bin .lss (.tmp 141) (.tmp 142), some (140, false), .seq, [], []⟩,
          ⟨(some 144), .pick (.tmp 140) (.const (.bool true)) (.tmp 143), none, .seq, [], []⟩,
          ⟨(some 145), .move (.tmp 144), none, .seq, [], []⟩,
          ⟨(some 146), .move (.tmp 19), some (145, false), .seq, [], []⟩,
          ⟨(some 147), .bin .eql (.tmp 146) (.const (.int .i64 2)), some (145, false), .seq, [], []⟩,
          ⟨(some 148), .move (.tmp 147), some (145, false), .seq, [], []⟩,
          ⟨(some 149), .move (.tmp 21), some (148, true), .seq, [], []⟩,
          ⟨(some 150), .move (.tmp 16), some (148, true), .seq, [], []⟩,
          ⟨(some 151), .move (.tmp 3), some (148, true), .seq, [], []⟩,
          ⟨(some 152), .convInt .i64 (.tmp 151), some (148, true), .seq, [], []⟩,
          ⟨(some 153), .bin .add (.tmp 150) (.tmp 152), some (148, true), .seq, [], []⟩,
          ⟨(some 154), .bin .gtr (.tmp 149) (.tmp 153), some (148, true), .seq, [], []⟩,
          ⟨(some 155), .pick (.tmp 148) (.tmp 154) (.const (.bool false)), some (145, false), .seq, [], []⟩,
          ⟨(some 156), .pick (.tmp 145) (.const (.bool true)) (.tmp 155), none, .seq, [], []⟩])
        (.cond (.tmp 156)
         (.seq (.region [⟨(some 10), .move (.const (.bool false)), none, .seq, [], []⟩])
         .ret)
         .skip)))))
      (.region [⟨(some 121), .move (.tmp 19), none, .seq, [], []⟩,
       ⟨(some 122), .bin .add (.tmp 121) (.const (.int .i64 1)), none, .seq, [], []⟩,
       ⟨(some 19), .move (.tmp 122), none, .seq, [], []⟩]))))

/-- forecourt/forecourtlaw11.ShopMore -/
def f11 : AFunc := ⟨5, [.tmp 10],
  (.seq (.region [⟨(some 5), .box (.tmp 0), none, .seq, [], []⟩,
    ⟨(some 7), .box (.tmp 2), none, .seq, [], []⟩,
    ⟨(some 10), .move (.const (.bool false)), none, .seq, [], []⟩])
  (.seq (.seq (.region [⟨(some 30), .load (some 3) (.tmp 5), none, .seq, [], []⟩,
     ⟨(some 31), .call 40 [(.tmp 30)], none, .seq, [], []⟩,
     ⟨(some 32), .un .not (.tmp 31), none, .seq, [], []⟩,
     ⟨(some 33), .move (.tmp 32), none, .seq, [], []⟩,
     ⟨(some 34), .fieldAddr 2 (.tmp 5), some (33, false), .seq, [], []⟩,
     ⟨(some 35), .load none (.tmp 34), some (33, false), .seq, [], []⟩,
     ⟨(some 36), .len .sl (.tmp 35), some (33, false), .seq, [], []⟩,
     ⟨(some 37), .bin .eql (.tmp 36) (.const (.int .i64 0)), some (33, false), .seq, [], []⟩,
     ⟨(some 38), .pick (.tmp 33) (.const (.bool true)) (.tmp 37), none, .seq, [], []⟩])
   (.cond (.tmp 38)
    (.seq (.region [⟨(some 39), .call 17 [], none, .seq, [], []⟩,
      ⟨(some 10), .move (.tmp 39), none, .seq, [], []⟩])
    .ret)
    .skip))
  (.seq (.region [⟨(some 40), .move (.tmp 1), none, .seq, [], []⟩,
    ⟨(some 41), .convInt .i64 (.tmp 40), none, .seq, [], []⟩,
    ⟨(some 42), .fieldAddr 2 (.tmp 5), none, .seq, [], []⟩,
    ⟨(some 43), .load none (.tmp 42), none, .seq, [], []⟩,
    ⟨(some 44), .len .sl (.tmp 43), none, .seq, [], []⟩,
    ⟨(some 45), .bin .rem (.tmp 41) (.tmp 44), none, .seq, [], []⟩,
    ⟨(some 11), .move (.tmp 45), none, .seq, [], []⟩])
  (.seq (.region [⟨(some 46), .load (some 3) (.tmp 5), none, .rd, [], []⟩,
    ⟨(some 47), .load (some 3) (.tmp 5), none, .rd, [], []⟩,
    ⟨(some 48), .load (some 3) (.tmp 5), none, .rd, [], []⟩,
    ⟨(some 12), .alloc [(.int .i64 0), (.int .i64 0), (.slice none 0 0)], none, .mk, [], []⟩,
    ⟨(some 13), .alloc [(.int .i64 0), (.int .i64 0), (.slice none 0 0)], none, .mk, [], []⟩,
    ⟨(some 14), .alloc [(.int .i64 0), (.int .i64 0), (.slice none 0 0)], none, .mk, [], []⟩,
    ⟨none, .store 3 (.tmp 12) (.tmp 46), none, .on, [4, 3], []⟩,
    ⟨none, .store 3 (.tmp 13) (.tmp 47), none, .on, [4], []⟩,
    ⟨none, .store 3 (.tmp 14) (.tmp 48), none, .seq, [], []⟩])
  (.seq (.region [⟨(some 49), .fieldAddr 1 (.tmp 12), none, .seq, [], []⟩,
    ⟨(some 50), .load none (.tmp 49), none, .seq, [], []⟩,
    ⟨(some 51), .bin .add (.tmp 50) (.const (.int .i64 1)), none, .seq, [], []⟩,
    ⟨(some 52), .fieldAddr 1 (.tmp 12), none, .seq, [], []⟩,
    ⟨none, .store 1 (.tmp 52) (.tmp 51), none, .seq, [], []⟩])
  (.seq (.region [⟨(some 53), .buildSlice 3 [(.int .i64 0), (.int .i64 0), (.int .i64 0)] 0 [], none, .seq, [], []⟩,
    ⟨(some 54), .fieldAddr 2 (.tmp 5), none, .seq, [], []⟩,
    ⟨(some 55), .load none (.tmp 54), none, .seq, [], []⟩,
    ⟨(some 56), .append 3 24 (.tmp 53) (.tmp 55), none, .seq, [], []⟩,
    ⟨(some 57), .fieldAddr 2 (.tmp 13), none, .seq, [], []⟩,
    ⟨none, .store 1 (.tmp 57) (.tmp 56), none, .seq, [], []⟩])
  (.seq (.region [⟨(some 58), .buildSlice 3 [(.int .i64 0), (.int .i64 0), (.int .i64 0)] 0 [], none, .seq, [], []⟩,
    ⟨(some 59), .fieldAddr 2 (.tmp 5), none, .seq, [], []⟩,
    ⟨(some 60), .load none (.tmp 59), none, .seq, [], []⟩,
    ⟨(some 61), .append 3 24 (.tmp 58) (.tmp 60), none, .seq, [], []⟩,
    ⟨(some 62), .fieldAddr 2 (.tmp 14), none, .seq, [], []⟩,
    ⟨none, .store 1 (.tmp 62) (.tmp 61), none, .seq, [], []⟩])
  (.seq (.region [⟨(some 63), .fieldAddr 2 (.tmp 13), none, .still, [], []⟩,
    ⟨(some 64), .load none (.tmp 63), none, .rd, [], []⟩,
    ⟨(some 65), .move (.tmp 11), none, .still, [], []⟩,
    ⟨(some 66), .fieldAddr 2 (.tmp 13), none, .still, [], []⟩,
    ⟨(some 67), .load none (.tmp 66), none, .rd, [], []⟩,
    ⟨(some 68), .move (.tmp 11), none, .still, [], []⟩,
    ⟨(some 69), .indexAddr none 3 (.tmp 67) (.tmp 68), none, .still, [], []⟩,
    ⟨(some 70), .fieldAddr 0 (.tmp 69), none, .still, [], []⟩,
    ⟨(some 71), .load none (.tmp 70), none, .rd, [], []⟩,
    ⟨(some 72), .indexAddr (some 2) 1 (.tmp 7) (.const (.int .i64 0)), none, .still, [], []⟩,
    ⟨(some 73), .load none (.tmp 72), none, .rd, [], []⟩,
    ⟨(some 74), .convInt .i64 (.tmp 73), none, .still, [], []⟩,
    ⟨(some 75), .bin .sub (.tmp 71) (.tmp 74), none, .still, [], []⟩,
    ⟨(some 76), .minmax true [(.const (.int .i64 0)), (.tmp 75)], none, .still, [], []⟩,
    ⟨(some 77), .indexAddr none 3 (.tmp 64) (.tmp 65), none, .still, [], []⟩,
    ⟨(some 78), .fieldAddr 0 (.tmp 77), none, .still, [], []⟩,
    ⟨none, .store 1 (.tmp 78) (.tmp 76), none, .seq, [], []⟩])
  (.seq (.region [⟨(some 79), .fieldAddr 2 (.tmp 13), none, .still, [], []⟩,
    ⟨(some 80), .load none (.tmp 79), none, .rd, [], []⟩,
    ⟨(some 81), .move (.tmp 11), none, .still, [], []⟩,
    ⟨(some 82), .fieldAddr 0 (.tmp 5), none, .still, [], []⟩,
    ⟨(some 83), .load none (.tmp 82), none, .rd, [], []⟩,
    ⟨(some 84), .bin .sub (.tmp 83) (.const (.int .i64 1)), none, .still, [], []⟩,
    ⟨(some 85), .fieldAddr 2 (.tmp 13), none, .still, [], []⟩,
    ⟨(some 86), .load none (.tmp 85), none, .rd, [], []⟩,
    ⟨(some 87), .move (.tmp 11), none, .still, [], []⟩,
    ⟨(some 88), .indexAddr none 3 (.tmp 86) (.tmp 87), none, .still, [], []⟩,
    ⟨(some 89), .fieldAddr 1 (.tmp 88), none, .still, [], []⟩,
    ⟨(some 90), .load none (.tmp 89), none, .rd, [], []⟩,
    ⟨(some 91), .indexAddr (some 2) 1 (.tmp 7) (.const (.int .i64 1)), none, .still, [], []⟩,
    ⟨(some 92), .load none (.tmp 91), none, .rd, [], []⟩,
    ⟨(some 93), .convInt .i64 (.tmp 92), none, .still, [], []⟩,
    ⟨(some 94), .bin .add (.tmp 90) (.tmp 93), none, .still, [], []⟩,
    ⟨(some 95), .minmax false [(.tmp 84), (.tmp 94)], none, .still, [], []⟩,
    ⟨(some 96), .indexAddr none 3 (.tmp 80) (.tmp 81), none, .still, [], []⟩,
    ⟨(some 97), .fieldAddr 1 (.tmp 96), none, .still, [], []⟩,
    ⟨none, .store 1 (.tmp 97) (.tmp 95), none, .seq, [], []⟩])
  (.seq (.region [⟨(some 98), .fieldAddr 2 (.tmp 14), none, .seq, [], []⟩,
    ⟨(some 99), .load none (.tmp 98), none, .seq, [], []⟩,
    ⟨(some 100), .move (.tmp 11), none, .seq, [], []⟩,
    ⟨(some 101), .indexAddr none 3 (.tmp 99) (.tmp 100), none, .seq, [], []⟩,
    ⟨(some 102), .fieldAddr 2 (.tmp 101), none, .seq, [], []⟩,
    ⟨(some 103), .load none (.tmp 102), none, .seq, [], []⟩,
    ⟨(some 104), .move (.tmp 3), none, .seq, [], []⟩,
    ⟨(some 105), .convInt .i64 (.tmp 104), none, .seq, [], []⟩,
    ⟨(some 106), .bin .add (.tmp 103) (.tmp 105), none, .seq, [], []⟩,
    ⟨(some 107), .indexAddr none 3 (.tmp 99) (.tmp 100), none, .seq, [], []⟩,
    ⟨(some 108), .fieldAddr 2 (.tmp 107), none, .seq, [], []⟩,
    ⟨none, .store 1 (.tmp 108) (.tmp 106), none, .seq, [], []⟩])
  (.seq (.region [⟨(some 110), .load (some 3) (.tmp 5), none, .seq, [], []⟩,
    ⟨(some 111), .call 30 [(.tmp 110)], none, .seq, [], []⟩,
    ⟨(some 109), .move (.tmp 111), none, .seq, [], []⟩,
    ⟨(some 112), .extract (.tmp 109) 0, none, .seq, [], []⟩,
    ⟨(some 113), .extract (.tmp 109) 1, none, .seq, [], []⟩,
    ⟨(some 114), .extract (.tmp 109) 2, none, .seq, [], []⟩,
    ⟨(some 15), .move (.tmp 112), none, .seq, [], []⟩,
    ⟨(some 16), .move (.tmp 113), none, .seq, [], []⟩,
    ⟨(some 17), .move (.tmp 114), none, .seq, [], []⟩])
  (.seq (.region [⟨(some 115), .load (some 3) (.tmp 12), none, .seq, [], []⟩,
    ⟨(some 116), .load (some 3) (.tmp 13), none, .seq, [], []⟩,
    ⟨(some 117), .load (some 3) (.tmp 14), none, .seq, [], []⟩,
    ⟨(some 118), .buildSlice 3 [(.int .i64 0), (.int .i64 0), (.slice none 0 0)] 3 [(0, (.tmp 115)), (1, (.tmp 116)), (2, (.tmp 117))], none, .seq, [], []⟩,
    ⟨(some 18), .move (.tmp 118), none, .seq, [], []⟩])
  (.seq (.seq (.region [⟨(some 19), .move (.const (.int .i64 0)), none, .seq, [], []⟩])
   (.block 0
    (.loop f11l1)))
  (.seq (.region [⟨(some 23), .move (.const (.slice none 0 0)), none, .seq, [], []⟩,
    ⟨(some 24), .move (.const (.slice none 0 0)), none, .seq, [], []⟩])
  (.seq (.seq (.region [⟨(some 25), .move (.const (.int .i64 0)), none, .seq, [], []⟩])
   (.block 2
    (.loop f11l0)))
  (.seq (.region [⟨(some 181), .load (some 3) (.tmp 5), none, .seq, [], []⟩,
    ⟨(some 182), .move (.tmp 23), none, .seq, [], []⟩,
    ⟨(some 183), .call 24 [(.tmp 181), (.tmp 182)], none, .seq, [], []⟩,
    ⟨(some 180), .move (.tmp 183), none, .seq, [], []⟩,
    ⟨(some 184), .extract (.tmp 180) 0, none, .seq, [], []⟩,
    ⟨(some 185), .extract (.tmp 180) 1, none, .seq, [], []⟩,
    ⟨(some 26), .move (.tmp 184), none, .seq, [], []⟩,
    ⟨(some 27), .move (.tmp 185), none, .seq, [], []⟩])
  (.seq (.region [⟨(some 187), .load (some 3) (.tmp 5), none, .seq, [], []⟩,
    ⟨(some 188), .move (.tmp 24), none, .seq, [], []⟩,
    ⟨(some 189), .call 24 [(.tmp 187), (.tmp 188)], none, .seq, [], []⟩,
    ⟨(some 186), .move (.tmp 189), none, .seq, [], []⟩,
    ⟨(some 190), .extract (.tmp 186) 0, none, .seq, [], []⟩,
    ⟨(some 191), .extract (.tmp 186) 1, none, .seq, [], []⟩,
    ⟨(some 28), .move (.tmp 190), none, .seq, [], []⟩,
    ⟨(some 29), .move (.tmp 191), none, .seq, [], []⟩])
  (.seq (.region [⟨(some 192), .move (.tmp 17), none, .seq, [], []⟩,
    ⟨(some 193), .bin .eql (.tmp 192) (.const (.int .i64 0)), none, .seq, [], []⟩,
    ⟨(some 194), .move (.tmp 193), none, .seq, [], []⟩,
    ⟨(some 195), .move (.tmp 27), some (194, true), .seq, [], []⟩,
    ⟨(some 196), .bin .neq (.tmp 195) (.const (.int .i64 0)), some (194, true), .seq, [], []⟩,
    ⟨(some 197), .move (.tmp 196), some (194, true), .seq, [], []⟩,
    ⟨(some 198), .move (.tmp 29), some (197, false), .seq, [], []⟩,
    ⟨(some 199), .bin .eql (.tmp 198) (.const (.int .i64 0)), some (197, false), .seq, [], []⟩,
    ⟨(some 200), .pick (.tmp 197) (.const (.bool true)) (.tmp 199), some (194, true), .seq, [], []⟩,
    ⟨(some 201), .pick (.tmp 194) (.tmp 200) (.const (.bool false)), none, .seq, [], []⟩,
    ⟨(some 202), .move (.tmp 201), none, .seq, [], []⟩,
    ⟨(some 203), .call 17 [], some (202, true), .seq, [], []⟩,
    ⟨(some 204), .pick (.tmp 202) (.tmp 203) (.const (.bool false)), none, .seq, [], []⟩,
    ⟨(some 10), .move (.tmp 204), none, .seq, [], []⟩])
  .ret))))))))))))))))))⟩

end Go.Proofs.Ytbhgncfbljkdgaa.Fn
