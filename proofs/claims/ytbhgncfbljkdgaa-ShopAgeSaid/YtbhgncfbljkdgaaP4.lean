/-
  The abstract code of the functions that the laws reach, part 4. Printed by a program (Emit.lean).
-/
import Derived.Test.YtbhgncfbljkdgaaA1
namespace Go.Proofs.Ytbhgncfbljkdgaa.Fn
open Go Go.Proofs.Ytbhgncfbljkdgaa.AI

/-- forecourt/shop.days -/
def f96 : AFunc := ⟨2, [.tmp 4],
  (.seq (.region [⟨(some 4), .move (.const (.int .i64 0)), none, .seq, [], []⟩])
  (.seq (.seq (.region [⟨(some 5), .move (.tmp 1), none, .seq, [], []⟩])
   (.block 0
    (.seq (.region [⟨(some 7), .bin .eql (.tmp 5) (.const (.int .i64 2)), none, .seq, [], []⟩,
      ⟨(some 6), .move (.tmp 7), none, .seq, [], []⟩])
    (.cond (.tmp 6)
     (.seq (.seq (.region [⟨(some 8), .move (.tmp 0), none, .seq, [], []⟩,
        ⟨(some 9), .bin .rem (.tmp 8) (.const (.int .i64 400)), none, .seq, [], []⟩,
        ⟨(some 10), .bin .eql (.tmp 9) (.const (.int .i64 0)), none, .seq, [], []⟩,
        ⟨(some 11), .move (.tmp 10), none, .seq, [], []⟩,
        ⟨(some 12), .move (.tmp 0), some (11, false), .seq, [], []⟩,
        ⟨(some 13), .bin .rem (.tmp 12) (.const (.int .i64 4)), some (11, false), .seq, [], []⟩,
        ⟨(some 14), .bin .eql (.tmp 13) (.const (.int .i64 0)), some (11, false), .seq, [], []⟩,
        ⟨(some 15), .move (.tmp 14), some (11, false), .seq, [], []⟩,
        ⟨(some 16), .move (.tmp 0), some (15, true), .seq, [], []⟩,
        ⟨(some 17), .bin .rem (.tmp 16) (.const (.int .i64 100)), some (15, true), .seq, [], []⟩,
        ⟨(some 18), .bin .neq (.tmp 17) (.const (.int .i64 0)), some (15, true), .seq, [], []⟩,
        ⟨(some 19), .pick (.tmp 15) (.tmp 18) (.const (.bool false)), some (11, false), .seq, [], []⟩,
        ⟨(some 20), .pick (.tmp 11) (.const (.bool true)) (.tmp 19), none, .seq, [], []⟩])
      (.cond (.tmp 20)
       (.seq (.region [⟨(some 4), .move (.const (.int .i64 29)), none, .seq, [], []⟩])
       .ret)
       .skip))
     (.seq (.region [⟨(some 4), .move (.const (.int .i64 28)), none, .seq, [], []⟩])
     .ret))
     (.seq (.seq (.region [⟨(some 22), .bin .eql (.tmp 5) (.const (.int .i64 4)), none, .seq, [], []⟩,
        ⟨(some 21), .move (.tmp 22), none, .seq, [], []⟩])
      (.cond (.tmp 21)
       .skip
       (.seq (.region [⟨(some 23), .bin .eql (.tmp 5) (.const (.int .i64 6)), none, .seq, [], []⟩,
         ⟨(some 21), .move (.tmp 23), none, .seq, [], []⟩])
       (.cond (.tmp 21)
        .skip
        (.seq (.region [⟨(some 24), .bin .eql (.tmp 5) (.const (.int .i64 9)), none, .seq, [], []⟩,
          ⟨(some 21), .move (.tmp 24), none, .seq, [], []⟩])
        (.cond (.tmp 21)
         .skip
         (.region [⟨(some 25), .bin .eql (.tmp 5) (.const (.int .i64 11)), none, .seq, [], []⟩,
          ⟨(some 21), .move (.tmp 25), none, .seq, [], []⟩])))))))
     (.cond (.tmp 21)
      (.seq (.region [⟨(some 4), .move (.const (.int .i64 30)), none, .seq, [], []⟩])
      .ret)
      .skip))))))
  (.seq (.region [⟨(some 4), .move (.const (.int .i64 31)), none, .seq, [], []⟩])
  .ret)))⟩

def f97l0 : ACode :=
  (.keep [0, 1, 7, 8]
      (.seq (.region [⟨(some 9), .bin .lss (.tmp 8) (.tmp 7), none, .seq, [], []⟩])
      (.seq (.cond (.tmp 9)
        .skip
        (.exit 0))
      (.seq (.block 1
        (.seq (.region [⟨(some 10), .move (.tmp 8), none, .seq, [], []⟩,
          ⟨(some 5), .move (.tmp 10), none, .seq, [], []⟩])
        (.seq (.region [⟨(some 11), .move (.tmp 1), none, .seq, [], []⟩,
          ⟨(some 12), .move (.tmp 0), none, .seq, [], []⟩,
          ⟨(some 13), .move (.tmp 5), none, .seq, [], []⟩,
          ⟨(some 14), .indexAddr none 2 (.tmp 12) (.tmp 13), none, .seq, [], []⟩,
          ⟨(some 15), .load (some 2) (.tmp 14), none, .seq, [], []⟩,
          ⟨(some 16), .callv (.tmp 11) [(.tmp 15)], none, .seq, [], []⟩])
        (.cond (.tmp 16)
         (.seq (.region [⟨(some 17), .move (.tmp 5), none, .seq, [], []⟩,
           ⟨(some 4), .move (.tmp 17), none, .seq, [], []⟩])
         .ret)
         .skip))))
      (.region [⟨(some 18), .bin .add (.tmp 8) (.const (.int .i64 1)), none, .seq, [], []⟩,
       ⟨(some 8), .move (.tmp 18), none, .seq, [], []⟩])))))

/-- slices.IndexFunc[[]forecourt/api.ShopBatch,forecourt/api.ShopBatch] -/
def f97 : AFunc := ⟨2, [.tmp 4],
  (.seq (.region [⟨(some 4), .move (.const (.int .i64 0)), none, .seq, [], []⟩])
  (.seq (.seq (.region [⟨(some 6), .move (.tmp 0), none, .seq, [], []⟩,
     ⟨(some 7), .len .sl (.tmp 6), none, .seq, [], []⟩,
     ⟨(some 8), .move (.const (.int .i64 0)), none, .seq, [], []⟩])
   (.block 0
    (.loop f97l0)))
  (.seq (.region [⟨(some 4), .move (.const (.int .i64 (-1))), none, .seq, [], []⟩])
  .ret)))⟩

def f98l0 : ACode :=
  (.keep [0, 1, 7, 8]
      (.seq (.region [⟨(some 9), .bin .lss (.tmp 8) (.tmp 7), none, .seq, [], []⟩])
      (.seq (.cond (.tmp 9)
        .skip
        (.exit 0))
      (.seq (.block 1
        (.seq (.region [⟨(some 10), .move (.tmp 8), none, .seq, [], []⟩,
          ⟨(some 5), .move (.tmp 10), none, .seq, [], []⟩])
        (.seq (.region [⟨(some 11), .move (.tmp 1), none, .seq, [], []⟩,
          ⟨(some 12), .move (.tmp 0), none, .seq, [], []⟩,
          ⟨(some 13), .move (.tmp 5), none, .seq, [], []⟩,
          ⟨(some 14), .indexAddr none 1 (.tmp 12) (.tmp 13), none, .seq, [], []⟩,
          ⟨(some 15), .load none (.tmp 14), none, .seq, [], []⟩,
          ⟨(some 16), .callv (.tmp 11) [(.tmp 15)], none, .seq, [], []⟩])
        (.cond (.tmp 16)
         (.seq (.region [⟨(some 17), .move (.tmp 5), none, .seq, [], []⟩,
           ⟨(some 4), .move (.tmp 17), none, .seq, [], []⟩])
         .ret)
         .skip))))
      (.region [⟨(some 18), .bin .add (.tmp 8) (.const (.int .i64 1)), none, .seq, [], []⟩,
       ⟨(some 8), .move (.tmp 18), none, .seq, [], []⟩])))))

/-- slices.IndexFunc[[]int64,int64] -/
def f98 : AFunc := ⟨2, [.tmp 4],
  (.seq (.region [⟨(some 4), .move (.const (.int .i64 0)), none, .seq, [], []⟩])
  (.seq (.seq (.region [⟨(some 6), .move (.tmp 0), none, .seq, [], []⟩,
     ⟨(some 7), .len .sl (.tmp 6), none, .seq, [], []⟩,
     ⟨(some 8), .move (.const (.int .i64 0)), none, .seq, [], []⟩])
   (.block 0
    (.loop f98l0)))
  (.seq (.region [⟨(some 4), .move (.const (.int .i64 (-1))), none, .seq, [], []⟩])
  .ret)))⟩

def f99l0 : ACode :=
  (.keep [0, 1, 2, 6, 7, 8]
          (.seq (.seq (.region [⟨(some 33), .move (.tmp 8), none, .seq, [], []⟩,
             ⟨(some 34), .move (.tmp 1), none, .seq, [], []⟩,
             ⟨(some 35), .bin .leq (.tmp 33) (.tmp 34), none, .seq, [], []⟩])
           (.cond (.tmp 35)
            .skip
            (.exit 4)))
          (.block 5
           (.seq (.region [⟨(some 36), .move (.tmp 0), none, .seq, [], []⟩,
             ⟨(some 37), .move (.tmp 7), none, .seq, [], []⟩,
             ⟨(some 38), .move (.tmp 7), none, .seq, [], []⟩,
             ⟨(some 39), .move (.tmp 6), none, .seq, [], []⟩,
             ⟨(some 40), .bin .add (.tmp 38) (.tmp 39), none, .seq, [], []⟩,
             ⟨(some 41), .move (.tmp 8), none, .seq, [], []⟩,
             ⟨(some 42), .move (.tmp 2), none, .seq, [], []⟩,
             ⟨(some 43), .call 105 [(.tmp 36), (.tmp 37), (.tmp 40), (.tmp 41), (.tmp 42)], none, .seq, [], []⟩])
           (.seq (.region [⟨(some 44), .move (.tmp 8), none, .seq, [], []⟩,
             ⟨(some 7), .move (.tmp 44), none, .seq, [], []⟩])
           (.region [⟨(some 45), .move (.tmp 8), none, .seq, [], []⟩,
            ⟨(some 46), .move (.tmp 6), none, .seq, [], []⟩,
            ⟨(some 47), .bin .mul (.const (.int .i64 2)) (.tmp 46), none, .seq, [], []⟩,
            ⟨(some 48), .bin .add (.tmp 45) (.tmp 47), none, .seq, [], []⟩,
            ⟨(some 8), .move (.tmp 48), none, .seq, [], []⟩]))))))

def f99l1 : ACode :=
  (.keep [0, 1, 2, 6]
     (.seq (.seq (.region [⟨(some 28), .move (.tmp 6), none, .seq, [], []⟩,
        ⟨(some 29), .move (.tmp 1), none, .seq, [], []⟩,
        ⟨(some 30), .bin .lss (.tmp 28) (.tmp 29), none, .seq, [], []⟩])
      (.cond (.tmp 30)
       .skip
       (.exit 2)))
     (.block 3
      (.seq (.region [⟨(some 31), .move (.tmp 6), none, .seq, [], []⟩,
        ⟨(some 32), .bin .mul (.const (.int .i64 2)) (.tmp 31), none, .seq, [], []⟩,
        ⟨(some 7), .move (.const (.int .i64 0)), none, .seq, [], []⟩,
        ⟨(some 8), .move (.tmp 32), none, .seq, [], []⟩])
      (.seq (.block 4
        (.loop f99l0))
      (.seq (.seq (.region [⟨(some 49), .move (.tmp 7), none, .seq, [], []⟩,
         ⟨(some 50), .move (.tmp 6), none, .seq, [], []⟩,
         ⟨(some 51), .bin .add (.tmp 49) (.tmp 50), none, .seq, [], []⟩,
         ⟨(some 9), .move (.tmp 51), none, .seq, [], []⟩])
       (.seq (.region [⟨(some 52), .move (.tmp 9), none, .seq, [], []⟩,
         ⟨(some 53), .move (.tmp 1), none, .seq, [], []⟩,
         ⟨(some 54), .bin .lss (.tmp 52) (.tmp 53), none, .seq, [], []⟩])
       (.cond (.tmp 54)
        (.region [⟨(some 55), .move (.tmp 0), none, .seq, [], []⟩,
         ⟨(some 56), .move (.tmp 7), none, .seq, [], []⟩,
         ⟨(some 57), .move (.tmp 9), none, .seq, [], []⟩,
         ⟨(some 58), .move (.tmp 1), none, .seq, [], []⟩,
         ⟨(some 59), .move (.tmp 2), none, .seq, [], []⟩,
         ⟨(some 60), .call 105 [(.tmp 55), (.tmp 56), (.tmp 57), (.tmp 58), (.tmp 59)], none, .seq, [], []⟩])
        .skip)))
      (.region [⟨(some 61), .move (.tmp 6), none, .seq, [], []⟩,
       ⟨(some 62), .bin .mul (.tmp 61) (.const (.int .i64 2)), none, .seq, [], []⟩,
       ⟨(some 6), .move (.tmp 62), none, .seq, [], []⟩])))))))

def f99l2 : ACode :=
  (.keep [0, 1, 2, 6, 7, 8]
      (.seq (.seq (.region [⟨(some 11), .move (.tmp 8), none, .seq, [], []⟩,
         ⟨(some 12), .move (.tmp 1), none, .seq, [], []⟩,
         ⟨(some 13), .bin .leq (.tmp 11) (.tmp 12), none, .seq, [], []⟩])
       (.cond (.tmp 13)
        .skip
        (.exit 0)))
      (.block 1
       (.seq (.region [⟨(some 14), .move (.tmp 0), none, .seq, [], []⟩,
         ⟨(some 15), .move (.tmp 7), none, .seq, [], []⟩,
         ⟨(some 16), .move (.tmp 8), none, .seq, [], []⟩,
         ⟨(some 17), .move (.tmp 2), none, .seq, [], []⟩,
         ⟨(some 18), .call 104 [(.tmp 14), (.tmp 15), (.tmp 16), (.tmp 17)], none, .seq, [], []⟩])
       (.seq (.region [⟨(some 19), .move (.tmp 8), none, .seq, [], []⟩,
         ⟨(some 7), .move (.tmp 19), none, .seq, [], []⟩])
       (.region [⟨(some 20), .move (.tmp 8), none, .seq, [], []⟩,
        ⟨(some 21), .move (.tmp 6), none, .seq, [], []⟩,
        ⟨(some 22), .bin .add (.tmp 20) (.tmp 21), none, .seq, [], []⟩,
        ⟨(some 8), .move (.tmp 22), none, .seq, [], []⟩]))))))

/-- slices.stableCmpFunc[int] -/
def f99 : AFunc := ⟨3, [],
  (.seq (.region [⟨(some 6), .move (.const (.int .i64 20)), none, .seq, [], []⟩])
  (.seq (.region [⟨(some 10), .move (.tmp 6), none, .seq, [], []⟩,
    ⟨(some 7), .move (.const (.int .i64 0)), none, .seq, [], []⟩,
    ⟨(some 8), .move (.tmp 10), none, .seq, [], []⟩])
  (.seq (.block 0
    (.loop f99l2))
  (.seq (.region [⟨(some 23), .move (.tmp 0), none, .seq, [], []⟩,
    ⟨(some 24), .move (.tmp 7), none, .seq, [], []⟩,
    ⟨(some 25), .move (.tmp 1), none, .seq, [], []⟩,
    ⟨(some 26), .move (.tmp 2), none, .seq, [], []⟩,
    ⟨(some 27), .call 104 [(.tmp 23), (.tmp 24), (.tmp 25), (.tmp 26)], none, .seq, [], []⟩])
  (.block 2
   (.loop f99l1))))))⟩

/-- cmp.isNaN[int] -/
def f100 : AFunc := ⟨1, [.tmp 2],
  (.seq (.region [⟨(some 2), .move (.const (.bool false)), none, .seq, [], []⟩])
  (.seq (.region [⟨(some 3), .move (.tmp 0), none, .seq, [], []⟩,
    ⟨(some 4), .move (.tmp 0), none, .seq, [], []⟩,
    ⟨(some 5), .bin .neq (.tmp 3) (.tmp 4), none, .seq, [], []⟩,
    ⟨(some 2), .move (.tmp 5), none, .seq, [], []⟩])
  .ret))⟩

/-- cmp.isNaN[int64] -/
def f101 : AFunc := ⟨1, [.tmp 2],
  (.seq (.region [⟨(some 2), .move (.const (.bool false)), none, .seq, [], []⟩])
  (.seq (.region [⟨(some 3), .move (.tmp 0), none, .seq, [], []⟩,
    ⟨(some 4), .move (.tmp 0), none, .seq, [], []⟩,
    ⟨(some 5), .bin .neq (.tmp 3) (.tmp 4), none, .seq, [], []⟩,
    ⟨(some 2), .move (.tmp 5), none, .seq, [], []⟩])
  .ret))⟩

def f102l0 : ACode :=
  (.keep [0, 1, 2, 3, 8, 9]
     (.block 1
      (.seq (.region [⟨(some 19), .move (.tmp 2), none, .seq, [], []⟩,
        ⟨(some 20), .move (.tmp 1), none, .seq, [], []⟩,
        ⟨(some 21), .bin .sub (.tmp 19) (.tmp 20), none, .seq, [], []⟩,
        ⟨(some 10), .move (.tmp 21), none, .seq, [], []⟩])
      (.seq (.seq (.region [⟨(some 22), .move (.tmp 10), none, .seq, [], []⟩,
         ⟨(some 23), .bin .leq (.tmp 22) (.const (.int .i64 12)), none, .seq, [], []⟩])
       (.cond (.tmp 23)
        (.seq (.region [⟨(some 24), .move (.tmp 0), none, .seq, [], []⟩,
          ⟨(some 25), .move (.tmp 1), none, .seq, [], []⟩,
          ⟨(some 26), .move (.tmp 2), none, .seq, [], []⟩,
          ⟨(some 27), .call 106 [(.tmp 24), (.tmp 25), (.tmp 26)], none, .seq, [], []⟩])
        .ret)
        .skip))
      (.seq (.seq (.region [⟨(some 28), .move (.tmp 3), none, .seq, [], []⟩,
         ⟨(some 29), .bin .eql (.tmp 28) (.const (.int .i64 0)), none, .seq, [], []⟩])
       (.cond (.tmp 29)
        (.seq (.region [⟨(some 30), .move (.tmp 0), none, .seq, [], []⟩,
          ⟨(some 31), .move (.tmp 1), none, .seq, [], []⟩,
          ⟨(some 32), .move (.tmp 2), none, .seq, [], []⟩,
          ⟨(some 33), .call 107 [(.tmp 30), (.tmp 31), (.tmp 32)], none, .seq, [], []⟩])
        .ret)
        .skip))
      (.seq (.seq (.region [⟨(some 34), .move (.tmp 8), none, .seq, [], []⟩,
         ⟨(some 35), .un .not (.tmp 34), none, .seq, [], []⟩])
       (.cond (.tmp 35)
        (.seq (.region [⟨(some 36), .move (.tmp 0), none, .seq, [], []⟩,
          ⟨(some 37), .move (.tmp 1), none, .seq, [], []⟩,
          ⟨(some 38), .move (.tmp 2), none, .seq, [], []⟩,
          ⟨(some 39), .call 108 [(.tmp 36), (.tmp 37), (.tmp 38)], none, .seq, [], []⟩])
        (.region [⟨(some 40), .move (.tmp 3), none, .seq, [], []⟩,
         ⟨(some 41), .bin .sub (.tmp 40) (.const (.int .i64 1)), none, .seq, [], []⟩,
         ⟨(some 3), .move (.tmp 41), none, .seq, [], []⟩]))
        .skip))
      (.seq (.region [⟨(some 43), .move (.tmp 0), none, .seq, [], []⟩,
        ⟨(some 44), .move (.tmp 1), none, .seq, [], []⟩,
        ⟨(some 45), .move (.tmp 2), none, .seq, [], []⟩,
        ⟨(some 46), .call 109 [(.tmp 43), (.tmp 44), (.tmp 45)], none, .seq, [], []⟩,
        ⟨(some 42), .move (.tmp 46), none, .seq, [], []⟩,
        ⟨(some 47), .extract (.tmp 42) 0, none, .seq, [], []⟩,
        ⟨(some 48), .extract (.tmp 42) 1, none, .seq, [], []⟩,
        ⟨(some 11), .move (.tmp 47), none, .seq, [], []⟩,
        ⟨(some 12), .move (.tmp 48), none, .seq, [], []⟩])
      (.seq (.seq (.region [⟨(some 49), .move (.tmp 12), none, .seq, [], []⟩,
         ⟨(some 50), .bin .eql (.tmp 49) (.const (.int .i64 2)), none, .seq, [], []⟩])
       (.cond (.tmp 50)
        (.seq (.region [⟨(some 51), .move (.tmp 0), none, .seq, [], []⟩,
          ⟨(some 52), .move (.tmp 1), none, .seq, [], []⟩,
          ⟨(some 53), .move (.tmp 2), none, .seq, [], []⟩,
          ⟨(some 54), .call 110 [(.tmp 51), (.tmp 52), (.tmp 53)], none, .seq, [], []⟩])
        (.seq (.region [⟨(some 55), .move (.tmp 2), none, .seq, [], []⟩,
          ⟨(some 56), .bin .sub (.tmp 55) (.const (.int .i64 1)), none, .seq, [], []⟩,
          ⟨(some 57), .move (.tmp 11), none, .seq, [], []⟩,
          ⟨(some 58), .move (.tmp 1), none, .seq, [], []⟩,
          ⟨(some 59), .bin .sub (.tmp 57) (.tmp 58), none, .seq, [], []⟩,
          ⟨(some 60), .bin .sub (.tmp 56) (.tmp 59), none, .seq, [], []⟩,
          ⟨(some 11), .move (.tmp 60), none, .seq, [], []⟩])
        (.region [⟨(some 12), .move (.const (.int .i64 1)), none, .seq, [], []⟩])))
        .skip))
      (.seq (.seq (.region [⟨(some 61), .move (.tmp 8), none, .seq, [], []⟩,
         ⟨(some 62), .move (.tmp 61), none, .seq, [], []⟩,
         ⟨(some 63), .move (.tmp 9), some (62, true), .seq, [], []⟩,
         ⟨(some 64), .pick (.tmp 62) (.tmp 63) (.const (.bool false)), none, .seq, [], []⟩,
         ⟨(some 65), .move (.tmp 64), none, .seq, [], []⟩,
         ⟨(some 66), .move (.tmp 12), some (65, true), .seq, [], []⟩,
         ⟨(some 67), .bin .eql (.tmp 66) (.const (.int .i64 1)), some (65, true), .seq, [], []⟩,
         ⟨(some 68), .pick (.tmp 65) (.tmp 67) (.const (.bool false)), none, .seq, [], []⟩])
       (.cond (.tmp 68)
        (.seq (.region [⟨(some 69), .move (.tmp 0), none, .seq, [], []⟩,
          ⟨(some 70), .move (.tmp 1), none, .seq, [], []⟩,
          ⟨(some 71), .move (.tmp 2), none, .seq, [], []⟩,
          ⟨(some 72), .call 111 [(.tmp 69), (.tmp 70), (.tmp 71)], none, .seq, [], []⟩])
        (.cond (.tmp 72)
         .ret
         .skip))
        .skip))
      (.seq (.seq (.region [⟨(some 73), .move (.tmp 1), none, .still, [], []⟩,
         ⟨(some 74), .bin .gtr (.tmp 73) (.const (.int .i64 0)), none, .still, [], []⟩,
         ⟨(some 75), .move (.tmp 74), none, .still, [], []⟩,
         ⟨(some 76), .move (.tmp 0), some (75, true), .still, [], []⟩,
         ⟨(some 77), .move (.tmp 1), some (75, true), .still, [], []⟩,
         ⟨(some 78), .bin .sub (.tmp 77) (.const (.int .i64 1)), some (75, true), .still, [], []⟩,
         ⟨(some 79), .indexAddr none 1 (.tmp 76) (.tmp 78), some (75, true), .still, [], []⟩,
         ⟨(some 80), .load none (.tmp 79), some (75, true), .rd, [], []⟩,
         ⟨(some 81), .move (.tmp 0), some (75, true), .still, [], []⟩,
         ⟨(some 82), .move (.tmp 11), some (75, true), .still, [], []⟩,
         ⟨(some 83), .indexAddr none 1 (.tmp 81) (.tmp 82), some (75, true), .still, [], []⟩,
         ⟨(some 84), .load none (.tmp 83), some (75, true), .rd, [], []⟩,
         ⟨(some 85), .call 112 [(.tmp 80), (.tmp 84)], some (75, true), .seq, [], []⟩,
         ⟨(some 86), .un .not (.tmp 85), some (75, true), .still, [], []⟩,
         ⟨(some 87), .pick (.tmp 75) (.tmp 86) (.const (.bool false)), none, .still, [], []⟩])
       (.cond (.tmp 87)
        (.seq (.region [⟨(some 88), .move (.tmp 0), none, .seq, [], []⟩,
          ⟨(some 89), .move (.tmp 1), none, .seq, [], []⟩,
          ⟨(some 90), .move (.tmp 2), none, .seq, [], []⟩,
          ⟨(some 91), .move (.tmp 11), none, .seq, [], []⟩,
          ⟨(some 92), .call 113 [(.tmp 88), (.tmp 89), (.tmp 90), (.tmp 91)], none, .seq, [], []⟩,
          ⟨(some 13), .move (.tmp 92), none, .seq, [], []⟩])
        (.seq (.region [⟨(some 93), .move (.tmp 13), none, .seq, [], []⟩,
          ⟨(some 1), .move (.tmp 93), none, .seq, [], []⟩])
        (.exit 1)))
        .skip))
      (.seq (.region [⟨(some 95), .move (.tmp 0), none, .seq, [], []⟩,
        ⟨(some 96), .move (.tmp 1), none, .seq, [], []⟩,
        ⟨(some 97), .move (.tmp 2), none, .seq, [], []⟩,
        ⟨(some 98), .move (.tmp 11), none, .seq, [], []⟩,
        ⟨(some 99), .call 114 [(.tmp 95), (.tmp 96), (.tmp 97), (.tmp 98)], none, .seq, [], []⟩,
        ⟨(some 94), .move (.tmp 99), none, .seq, [], []⟩,
        ⟨(some 100), .extract (.tmp 94) 0, none, .seq, [], []⟩,
        ⟨(some 101), .extract (.tmp 94) 1, none, .seq, [], []⟩,
        ⟨(some 14), .move (.tmp 100), none, .seq, [], []⟩,
        ⟨(some 15), .move (.tmp 101), none, .seq, [], []⟩])
      (.seq (.region [⟨(some 102), .move (.tmp 15), none, .seq, [], []⟩,
        ⟨(some 9), .move (.tmp 102), none, .seq, [], []⟩])
      (.seq (.region [⟨(some 103), .move (.tmp 14), none, .seq, [], []⟩,
        ⟨(some 104), .move (.tmp 1), none, .seq, [], []⟩,
        ⟨(some 105), .bin .sub (.tmp 103) (.tmp 104), none, .seq, [], []⟩,
        ⟨(some 106), .move (.tmp 2), none, .seq, [], []⟩,
        ⟨(some 107), .move (.tmp 14), none, .seq, [], []⟩,
        ⟨(some 108), .bin .sub (.tmp 106) (.tmp 107), none, .seq, [], []⟩,
        ⟨(some 16), .move (.tmp 105), none, .seq, [], []⟩,
        ⟨(some 17), .move (.tmp 108), none, .seq, [], []⟩])
      (.seq (.region [⟨(some 109), .move (.tmp 10), none, .seq, [], []⟩,
        ⟨(some 110), .bin .quo (.tmp 109) (.const (.int .i64 8)), none, .seq, [], []⟩,
        ⟨(some 18), .move (.tmp 110), none, .seq, [], []⟩])
      (.seq (.region [⟨(some 111), .move (.tmp 16), none, .seq, [], []⟩,
        ⟨(some 112), .move (.tmp 17), none, .seq, [], []⟩,
        ⟨(some 113), .bin .lss (.tmp 111) (.tmp 112), none, .seq, [], []⟩])
      (.cond (.tmp 113)
       (.seq (.region [⟨(some 114), .move (.tmp 16), none, .seq, [], []⟩,
         ⟨(some 115), .move (.tmp 18), none, .seq, [], []⟩,
         ⟨(some 116), .bin .geq (.tmp 114) (.tmp 115), none, .seq, [], []⟩,
         ⟨(some 8), .move (.tmp 116), none, .seq, [], []⟩])
       (.seq (.region [⟨(some 117), .move (.tmp 0), none, .seq, [], []⟩,
         ⟨(some 118), .move (.tmp 1), none, .seq, [], []⟩,
         ⟨(some 119), .move (.tmp 14), none, .seq, [], []⟩,
         ⟨(some 120), .move (.tmp 3), none, .seq, [], []⟩,
         ⟨(some 121), .call 102 [(.tmp 117), (.tmp 118), (.tmp 119), (.tmp 120)], none, .seq, [], []⟩])
       (.region [⟨(some 122), .move (.tmp 14), none, .seq, [], []⟩,
        ⟨(some 123), .bin .add (.tmp 122) (.const (.int .i64 1)), none, .seq, [], []⟩,
        ⟨(some 1), .move (.tmp 123), none, .seq, [], []⟩])))
       (.seq (.region [⟨(some 124), .move (.tmp 17), none, .seq, [], []⟩,
         ⟨(some 125), .move (.tmp 18), none, .seq, [], []⟩,
         ⟨(some 126), .bin .geq (.tmp 124) (.tmp 125), none, .seq, [], []⟩,
         ⟨(some 8), .move (.tmp 126), none, .seq, [], []⟩])
       (.seq (.region [⟨(some 127), .move (.tmp 0), none, .seq, [], []⟩,
         ⟨(some 128), .move (.tmp 14), none, .seq, [], []⟩,
         ⟨(some 129), .bin .add (.tmp 128) (.const (.int .i64 1)), none, .seq, [], []⟩,
         ⟨(some 130), .move (.tmp 2), none, .seq, [], []⟩,
         ⟨(some 131), .move (.tmp 3), none, .seq, [], []⟩,
         ⟨(some 132), .call 102 [(.tmp 127), (.tmp 129), (.tmp 130), (.tmp 131)], none, .seq, [], []⟩])
       (.region [⟨(some 133), .move (.tmp 14), none, .seq, [], []⟩,
        ⟨(some 2), .move (.tmp 133), none, .seq, [], []⟩])))))))))))))))))))

/-- slices.pdqsortOrdered[int64] -/
def f102 : AFunc := ⟨4, [],
  (.seq (.region [⟨(some 8), .move (.const (.bool true)), none, .seq, [], []⟩])
  (.seq (.region [⟨(some 9), .move (.const (.bool true)), none, .seq, [], []⟩])
  (.block 0
   (.loop f102l0))))⟩

/-- math/bits.Len -/
def f103 : AFunc := ⟨1, [.tmp 2],
  (.seq (.region [⟨(some 2), .move (.const (.int .i64 0)), none, .seq, [], []⟩])
  (.seq (.cond (.const (.bool false))
    (.seq (.region [⟨(some 3), .move (.tmp 0), none, .seq, [], []⟩,
      ⟨(some 4), .convInt .u32 (.tmp 3), none, .seq, [], []⟩,
      ⟨(some 5), .call 115 [(.tmp 4)], none, .seq, [], []⟩,
      ⟨(some 2), .move (.tmp 5), none, .seq, [], []⟩])
    .ret)
    .skip)
  (.seq (.region [⟨(some 6), .move (.tmp 0), none, .seq, [], []⟩,
    ⟨(some 7), .call 116 [(.tmp 6)], none, .seq, [], []⟩,
    ⟨(some 2), .move (.tmp 7), none, .seq, [], []⟩])
  .ret)))⟩

def f104l0 : ACode :=
  (.keep [0, 1, 2, 3, 8, 9]
          (.seq (.seq (.region [⟨(some 18), .move (.tmp 9), none, .still, [], []⟩,
             ⟨(some 19), .move (.tmp 1), none, .still, [], []⟩,
             ⟨(some 20), .bin .gtr (.tmp 18) (.tmp 19), none, .still, [], []⟩,
             ⟨(some 21), .move (.tmp 20), none, .still, [], []⟩,
             ⟨(some 22), .move (.tmp 3), some (21, true), .still, [], []⟩,
             ⟨(some 23), .move (.tmp 0), some (21, true), .still, [], []⟩,
             ⟨(some 24), .move (.tmp 9), some (21, true), .still, [], []⟩,
             ⟨(some 25), .indexAddr none 1 (.tmp 23) (.tmp 24), some (21, true), .still, [], []⟩,
             ⟨(some 26), .load none (.tmp 25), some (21, true), .rd, [], []⟩,
             ⟨(some 27), .move (.tmp 0), some (21, true), .still, [], []⟩,
             ⟨(some 28), .move (.tmp 9), some (21, true), .still, [], []⟩,
             ⟨(some 29), .bin .sub (.tmp 28) (.const (.int .i64 1)), some (21, true), .still, [], []⟩,
             ⟨(some 30), .indexAddr none 1 (.tmp 27) (.tmp 29), some (21, true), .still, [], []⟩,
             ⟨(some 31), .load none (.tmp 30), some (21, true), .rd, [], []⟩,
             ⟨(some 32), .callv (.tmp 22) [(.tmp 26), (.tmp 31)], some (21, true), .seq, [], []⟩,
             ⟨(some 33), .bin .lss (.tmp 32) (.const (.int .i64 0)), some (21, true), .still, [], []⟩,
             ⟨(some 34), .pick (.tmp 21) (.tmp 33) (.const (.bool false)), none, .still, [], []⟩])
           (.cond (.tmp 34)
            .skip
            (.exit 2)))
          (.seq (.block 3
            (.region [⟨(some 37), .move (.tmp 0), none, .still, [], []⟩,
             ⟨(some 38), .move (.tmp 9), none, .still, [], []⟩,
             ⟨(some 39), .move (.tmp 0), none, .still, [], []⟩,
             ⟨(some 40), .move (.tmp 9), none, .still, [], []⟩,
             ⟨(some 41), .bin .sub (.tmp 40) (.const (.int .i64 1)), none, .still, [], []⟩,
             ⟨(some 42), .move (.tmp 0), none, .still, [], []⟩,
             ⟨(some 43), .move (.tmp 9), none, .still, [], []⟩,
             ⟨(some 44), .bin .sub (.tmp 43) (.const (.int .i64 1)), none, .still, [], []⟩,
             ⟨(some 45), .indexAddr none 1 (.tmp 42) (.tmp 44), none, .still, [], []⟩,
             ⟨(some 46), .load none (.tmp 45), none, .rd, [], []⟩,
             ⟨(some 47), .move (.tmp 0), none, .still, [], []⟩,
             ⟨(some 48), .move (.tmp 9), none, .still, [], []⟩,
             ⟨(some 49), .indexAddr none 1 (.tmp 47) (.tmp 48), none, .still, [], []⟩,
             ⟨(some 50), .load none (.tmp 49), none, .rd, [], []⟩,
             ⟨(some 51), .indexAddr none 1 (.tmp 37) (.tmp 38), none, .still, [], []⟩,
             ⟨none, .store 1 (.tmp 51) (.tmp 46), none, .seq, [], []⟩,
             ⟨(some 52), .indexAddr none 1 (.tmp 39) (.tmp 41), none, .still, [], []⟩,
             ⟨none, .store 1 (.tmp 52) (.tmp 50), none, .seq, [], []⟩]))
          (.region [⟨(some 35), .move (.tmp 9), none, .seq, [], []⟩,
           ⟨(some 36), .bin .sub (.tmp 35) (.const (.int .i64 1)), none, .seq, [], []⟩,
           ⟨(some 9), .move (.tmp 36), none, .seq, [], []⟩]))))

def f104l1 : ACode :=
  (.keep [0, 1, 2, 3, 8]
     (.seq (.seq (.region [⟨(some 12), .move (.tmp 8), none, .seq, [], []⟩,
        ⟨(some 13), .move (.tmp 2), none, .seq, [], []⟩,
        ⟨(some 14), .bin .lss (.tmp 12) (.tmp 13), none, .seq, [], []⟩])
      (.cond (.tmp 14)
       .skip
       (.exit 0)))
     (.seq (.block 1
       (.seq (.region [⟨(some 17), .move (.tmp 8), none, .seq, [], []⟩,
         ⟨(some 9), .move (.tmp 17), none, .seq, [], []⟩])
       (.block 2
        (.loop f104l0))))
     (.region [⟨(some 15), .move (.tmp 8), none, .seq, [], []⟩,
      ⟨(some 16), .bin .add (.tmp 15) (.const (.int .i64 1)), none, .seq, [], []⟩,
      ⟨(some 8), .move (.tmp 16), none, .seq, [], []⟩]))))

/-- slices.insertionSortCmpFunc[int] -/
def f104 : AFunc := ⟨4, [],
  (.seq (.region [⟨(some 10), .move (.tmp 1), none, .seq, [], []⟩,
    ⟨(some 11), .bin .add (.tmp 10) (.const (.int .i64 1)), none, .seq, [], []⟩,
    ⟨(some 8), .move (.tmp 11), none, .seq, [], []⟩])
  (.block 0
   (.loop f104l1)))⟩

def f105l0 : ACode :=
  (.keep [0, 1, 2, 3, 4, 18, 19, 20, 21, 22]
      (.seq (.seq (.region [⟨(some 149), .move (.tmp 20), none, .seq, [], []⟩,
         ⟨(some 150), .move (.tmp 21), none, .seq, [], []⟩,
         ⟨(some 151), .bin .lss (.tmp 149) (.tmp 150), none, .seq, [], []⟩])
       (.cond (.tmp 151)
        .skip
        (.exit 8)))
      (.block 9
       (.seq (.region [⟨(some 152), .move (.tmp 20), none, .seq, [], []⟩,
         ⟨(some 153), .move (.tmp 21), none, .seq, [], []⟩,
         ⟨(some 154), .bin .add (.tmp 152) (.tmp 153), none, .seq, [], []⟩,
         ⟨(some 155), .convInt .u64 (.tmp 154), none, .seq, [], []⟩,
         ⟨(some 156), .bin .shr (.tmp 155) (.const (.int .u64 1)), none, .seq, [], []⟩,
         ⟨(some 157), .convInt .i64 (.tmp 156), none, .seq, [], []⟩,
         ⟨(some 23), .move (.tmp 157), none, .seq, [], []⟩])
       (.seq (.region [⟨(some 158), .move (.tmp 4), none, .still, [], []⟩,
         ⟨(some 159), .move (.tmp 0), none, .still, [], []⟩,
         ⟨(some 160), .move (.tmp 22), none, .still, [], []⟩,
         ⟨(some 161), .move (.tmp 23), none, .still, [], []⟩,
         ⟨(some 162), .bin .sub (.tmp 160) (.tmp 161), none, .still, [], []⟩,
         ⟨(some 163), .indexAddr none 1 (.tmp 159) (.tmp 162), none, .still, [], []⟩,
         ⟨(some 164), .load none (.tmp 163), none, .rd, [], []⟩,
         ⟨(some 165), .move (.tmp 0), none, .still, [], []⟩,
         ⟨(some 166), .move (.tmp 23), none, .still, [], []⟩,
         ⟨(some 167), .indexAddr none 1 (.tmp 165) (.tmp 166), none, .still, [], []⟩,
         ⟨(some 168), .load none (.tmp 167), none, .rd, [], []⟩,
         ⟨(some 169), .callv (.tmp 158) [(.tmp 164), (.tmp 168)], none, .seq, [], []⟩,
         ⟨(some 170), .bin .lss (.tmp 169) (.const (.int .i64 0)), none, .still, [], []⟩,
         ⟨(some 171), .un .not (.tmp 170), none, .still, [], []⟩])
       (.cond (.tmp 171)
        (.region [⟨(some 172), .move (.tmp 23), none, .seq, [], []⟩,
         ⟨(some 173), .bin .add (.tmp 172) (.const (.int .i64 1)), none, .seq, [], []⟩,
         ⟨(some 20), .move (.tmp 173), none, .seq, [], []⟩])
        (.region [⟨(some 174), .move (.tmp 23), none, .seq, [], []⟩,
         ⟨(some 21), .move (.tmp 174), none, .seq, [], []⟩])))))))

def f105l1 : ACode :=
  (.keep [0, 14, 17]
        (.seq (.seq (.region [⟨(some 108), .move (.tmp 17), none, .seq, [], []⟩,
           ⟨(some 109), .move (.tmp 14), none, .seq, [], []⟩,
           ⟨(some 110), .bin .gtr (.tmp 108) (.tmp 109), none, .seq, [], []⟩])
         (.cond (.tmp 110)
          .skip
          (.exit 6)))
        (.seq (.block 7
          (.region [⟨(some 113), .move (.tmp 0), none, .still, [], []⟩,
           ⟨(some 114), .move (.tmp 17), none, .still, [], []⟩,
           ⟨(some 115), .move (.tmp 0), none, .still, [], []⟩,
           ⟨(some 116), .move (.tmp 17), none, .still, [], []⟩,
           ⟨(some 117), .bin .sub (.tmp 116) (.const (.int .i64 1)), none, .still, [], []⟩,
           ⟨(some 118), .move (.tmp 0), none, .still, [], []⟩,
           ⟨(some 119), .move (.tmp 17), none, .still, [], []⟩,
           ⟨(some 120), .bin .sub (.tmp 119) (.const (.int .i64 1)), none, .still, [], []⟩,
           ⟨(some 121), .indexAddr none 1 (.tmp 118) (.tmp 120), none, .still, [], []⟩,
           ⟨(some 122), .load none (.tmp 121), none, .rd, [], []⟩,
           ⟨(some 123), .move (.tmp 0), none, .still, [], []⟩,
           ⟨(some 124), .move (.tmp 17), none, .still, [], []⟩,
           ⟨(some 125), .indexAddr none 1 (.tmp 123) (.tmp 124), none, .still, [], []⟩,
           ⟨(some 126), .load none (.tmp 125), none, .rd, [], []⟩,
           ⟨(some 127), .indexAddr none 1 (.tmp 113) (.tmp 114), none, .still, [], []⟩,
           ⟨none, .store 1 (.tmp 127) (.tmp 122), none, .seq, [], []⟩,
           ⟨(some 128), .indexAddr none 1 (.tmp 115) (.tmp 117), none, .still, [], []⟩,
           ⟨none, .store 1 (.tmp 128) (.tmp 126), none, .seq, [], []⟩]))
        (.region [⟨(some 111), .move (.tmp 17), none, .seq, [], []⟩,
         ⟨(some 112), .bin .sub (.tmp 111) (.const (.int .i64 1)), none, .seq, [], []⟩,
         ⟨(some 17), .move (.tmp 112), none, .seq, [], []⟩]))))

def f105l2 : ACode :=
  (.keep [0, 2, 4, 14, 15]
        (.seq (.seq (.region [⟨(some 83), .move (.tmp 14), none, .seq, [], []⟩,
           ⟨(some 84), .move (.tmp 15), none, .seq, [], []⟩,
           ⟨(some 85), .bin .lss (.tmp 83) (.tmp 84), none, .seq, [], []⟩])
         (.cond (.tmp 85)
          .skip
          (.exit 4)))
        (.block 5
         (.seq (.region [⟨(some 86), .move (.tmp 14), none, .seq, [], []⟩,
           ⟨(some 87), .move (.tmp 15), none, .seq, [], []⟩,
           ⟨(some 88), .bin .add (.tmp 86) (.tmp 87), none, .seq, [], []⟩,
           ⟨(some 89), .convInt .u64 (.tmp 88), none, .seq, [], []⟩,
           ⟨(some 90), .bin .shr (.tmp 89) (.const (.int .u64 1)), none, .seq, [], []⟩,
           ⟨(some 91), .convInt .i64 (.tmp 90), none, .seq, [], []⟩,
           ⟨(some 16), .move (.tmp 91), none, .seq, [], []⟩])
         (.seq (.region [⟨(some 92), .move (.tmp 4), none, .still, [], []⟩,
           ⟨(some 93), .move (.tmp 0), none, .still, [], []⟩,
           ⟨(some 94), .move (.tmp 2), none, .still, [], []⟩,
           ⟨(some 95), .indexAddr none 1 (.tmp 93) (.tmp 94), none, .still, [], []⟩,
           ⟨(some 96), .load none (.tmp 95), none, .rd, [], []⟩,
           ⟨(some 97), .move (.tmp 0), none, .still, [], []⟩,
           ⟨(some 98), .move (.tmp 16), none, .still, [], []⟩,
           ⟨(some 99), .indexAddr none 1 (.tmp 97) (.tmp 98), none, .still, [], []⟩,
           ⟨(some 100), .load none (.tmp 99), none, .rd, [], []⟩,
           ⟨(some 101), .callv (.tmp 92) [(.tmp 96), (.tmp 100)], none, .seq, [], []⟩,
           ⟨(some 102), .bin .lss (.tmp 101) (.const (.int .i64 0)), none, .still, [], []⟩,
           ⟨(some 103), .un .not (.tmp 102), none, .still, [], []⟩])
         (.cond (.tmp 103)
          (.region [⟨(some 104), .move (.tmp 16), none, .seq, [], []⟩,
           ⟨(some 105), .bin .add (.tmp 104) (.const (.int .i64 1)), none, .seq, [], []⟩,
           ⟨(some 14), .move (.tmp 105), none, .seq, [], []⟩])
          (.region [⟨(some 106), .move (.tmp 16), none, .seq, [], []⟩,
           ⟨(some 15), .move (.tmp 106), none, .seq, [], []⟩])))))))

def f105l3 : ACode :=
  (.keep [0, 10, 13]
        (.seq (.seq (.region [⟨(some 55), .move (.tmp 13), none, .seq, [], []⟩,
           ⟨(some 56), .move (.tmp 10), none, .seq, [], []⟩,
           ⟨(some 57), .bin .sub (.tmp 56) (.const (.int .i64 1)), none, .seq, [], []⟩,
           ⟨(some 58), .bin .lss (.tmp 55) (.tmp 57), none, .seq, [], []⟩])
         (.cond (.tmp 58)
          .skip
          (.exit 2)))
        (.seq (.block 3
          (.region [⟨(some 61), .move (.tmp 0), none, .still, [], []⟩,
           ⟨(some 62), .move (.tmp 13), none, .still, [], []⟩,
           ⟨(some 63), .move (.tmp 0), none, .still, [], []⟩,
           ⟨(some 64), .move (.tmp 13), none, .still, [], []⟩,
           ⟨(some 65), .bin .add (.tmp 64) (.const (.int .i64 1)), none, .still, [], []⟩,
           ⟨(some 66), .move (.tmp 0), none, .still, [], []⟩,
           ⟨(some 67), .move (.tmp 13), none, .still, [], []⟩,
           ⟨(some 68), .bin .add (.tmp 67) (.const (.int .i64 1)), none, .still, [], []⟩,
           ⟨(some 69), .indexAddr none 1 (.tmp 66) (.tmp 68), none, .still, [], []⟩,
           ⟨(some 70), .load none (.tmp 69), none, .rd, [], []⟩,
           ⟨(some 71), .move (.tmp 0), none, .still, [], []⟩,
           ⟨(some 72), .move (.tmp 13), none, .still, [], []⟩,
           ⟨(some 73), .indexAddr none 1 (.tmp 71) (.tmp 72), none, .still, [], []⟩,
           ⟨(some 74), .load none (.tmp 73), none, .rd, [], []⟩,
           ⟨(some 75), .indexAddr none 1 (.tmp 61) (.tmp 62), none, .still, [], []⟩,
           ⟨none, .store 1 (.tmp 75) (.tmp 70), none, .seq, [], []⟩,
           ⟨(some 76), .indexAddr none 1 (.tmp 63) (.tmp 65), none, .still, [], []⟩,
           ⟨none, .store 1 (.tmp 76) (.tmp 74), none, .seq, [], []⟩]))
        (.region [⟨(some 59), .move (.tmp 13), none, .seq, [], []⟩,
         ⟨(some 60), .bin .add (.tmp 59) (.const (.int .i64 1)), none, .seq, [], []⟩,
         ⟨(some 13), .move (.tmp 60), none, .seq, [], []⟩]))))

def f105l4 : ACode :=
  (.keep [0, 1, 4, 10, 11]
        (.seq (.seq (.region [⟨(some 31), .move (.tmp 10), none, .seq, [], []⟩,
           ⟨(some 32), .move (.tmp 11), none, .seq, [], []⟩,
           ⟨(some 33), .bin .lss (.tmp 31) (.tmp 32), none, .seq, [], []⟩])
         (.cond (.tmp 33)
          .skip
          (.exit 0)))
        (.block 1
         (.seq (.region [⟨(some 34), .move (.tmp 10), none, .seq, [], []⟩,
           ⟨(some 35), .move (.tmp 11), none, .seq, [], []⟩,
           ⟨(some 36), .bin .add (.tmp 34) (.tmp 35), none, .seq, [], []⟩,
           ⟨(some 37), .convInt .u64 (.tmp 36), none, .seq, [], []⟩,
           ⟨(some 38), .bin .shr (.tmp 37) (.const (.int .u64 1)), none, .seq, [], []⟩,
           ⟨(some 39), .convInt .i64 (.tmp 38), none, .seq, [], []⟩,
           ⟨(some 12), .move (.tmp 39), none, .seq, [], []⟩])
         (.seq (.region [⟨(some 40), .move (.tmp 4), none, .still, [], []⟩,
           ⟨(some 41), .move (.tmp 0), none, .still, [], []⟩,
           ⟨(some 42), .move (.tmp 12), none, .still, [], []⟩,
           ⟨(some 43), .indexAddr none 1 (.tmp 41) (.tmp 42), none, .still, [], []⟩,
           ⟨(some 44), .load none (.tmp 43), none, .rd, [], []⟩,
           ⟨(some 45), .move (.tmp 0), none, .still, [], []⟩,
           ⟨(some 46), .move (.tmp 1), none, .still, [], []⟩,
           ⟨(some 47), .indexAddr none 1 (.tmp 45) (.tmp 46), none, .still, [], []⟩,
           ⟨(some 48), .load none (.tmp 47), none, .rd, [], []⟩,
           ⟨(some 49), .callv (.tmp 40) [(.tmp 44), (.tmp 48)], none, .seq, [], []⟩,
           ⟨(some 50), .bin .lss (.tmp 49) (.const (.int .i64 0)), none, .still, [], []⟩])
         (.cond (.tmp 50)
          (.region [⟨(some 51), .move (.tmp 12), none, .seq, [], []⟩,
           ⟨(some 52), .bin .add (.tmp 51) (.const (.int .i64 1)), none, .seq, [], []⟩,
           ⟨(some 10), .move (.tmp 52), none, .seq, [], []⟩])
          (.region [⟨(some 53), .move (.tmp 12), none, .seq, [], []⟩,
           ⟨(some 11), .move (.tmp 53), none, .seq, [], []⟩])))))))

/-- slices.symMergeCmpFunc[int] -/
def f105 : AFunc := ⟨5, [],
  (.seq (.seq (.region [⟨(some 25), .move (.tmp 2), none, .seq, [], []⟩,
     ⟨(some 26), .move (.tmp 1), none, .seq, [], []⟩,
     ⟨(some 27), .bin .sub (.tmp 25) (.tmp 26), none, .seq, [], []⟩,
     ⟨(some 28), .bin .eql (.tmp 27) (.const (.int .i64 1)), none, .seq, [], []⟩])
   (.cond (.tmp 28)
    (.seq (.region [⟨(some 29), .move (.tmp 2), none, .seq, [], []⟩,
      ⟨(some 10), .move (.tmp 29), none, .seq, [], []⟩])
    (.seq (.region [⟨(some 30), .move (.tmp 3), none, .seq, [], []⟩,
      ⟨(some 11), .move (.tmp 30), none, .seq, [], []⟩])
    (.seq (.block 0
      (.loop f105l4))
    (.seq (.seq (.region [⟨(some 54), .move (.tmp 1), none, .seq, [], []⟩,
       ⟨(some 13), .move (.tmp 54), none, .seq, [], []⟩])
     (.block 2
      (.loop f105l3)))
    .ret))))
    .skip))
  (.seq (.seq (.region [⟨(some 77), .move (.tmp 3), none, .seq, [], []⟩,
     ⟨(some 78), .move (.tmp 2), none, .seq, [], []⟩,
     ⟨(some 79), .bin .sub (.tmp 77) (.tmp 78), none, .seq, [], []⟩,
     ⟨(some 80), .bin .eql (.tmp 79) (.const (.int .i64 1)), none, .seq, [], []⟩])
   (.cond (.tmp 80)
    (.seq (.region [⟨(some 81), .move (.tmp 1), none, .seq, [], []⟩,
      ⟨(some 14), .move (.tmp 81), none, .seq, [], []⟩])
    (.seq (.region [⟨(some 82), .move (.tmp 2), none, .seq, [], []⟩,
      ⟨(some 15), .move (.tmp 82), none, .seq, [], []⟩])
    (.seq (.block 4
      (.loop f105l2))
    (.seq (.seq (.region [⟨(some 107), .move (.tmp 2), none, .seq, [], []⟩,
       ⟨(some 17), .move (.tmp 107), none, .seq, [], []⟩])
     (.block 6
      (.loop f105l1)))
    .ret))))
    .skip))
  (.seq (.region [⟨(some 129), .move (.tmp 1), none, .seq, [], []⟩,
    ⟨(some 130), .move (.tmp 3), none, .seq, [], []⟩,
    ⟨(some 131), .bin .add (.tmp 129) (.tmp 130), none, .seq, [], []⟩,
    ⟨(some 132), .convInt .u64 (.tmp 131), none, .seq, [], []⟩,
    ⟨(some 133), .bin .shr (.tmp 132) (.const (.int .u64 1)), none, .seq, [], []⟩,
    ⟨(some 134), .convInt .i64 (.tmp 133), none, .seq, [], []⟩,
    ⟨(some 18), .move (.tmp 134), none, .seq, [], []⟩])
  (.seq (.region [⟨(some 135), .move (.tmp 18), none, .seq, [], []⟩,
    ⟨(some 136), .move (.tmp 2), none, .seq, [], []⟩,
    ⟨(some 137), .bin .add (.tmp 135) (.tmp 136), none, .seq, [], []⟩,
    ⟨(some 19), .move (.tmp 137), none, .seq, [], []⟩])
  (.seq (.region [⟨(some 20), .move (.const (.int .i64 0)), none, .seq, [], []⟩,
    ⟨(some 21), .move (.const (.int .i64 0)), none, .seq, [], []⟩])
  (.seq (.seq (.region [⟨(some 138), .move (.tmp 2), none, .seq, [], []⟩,
     ⟨(some 139), .move (.tmp 18), none, .seq, [], []⟩,
     ⟨(some 140), .bin .gtr (.tmp 138) (.tmp 139), none, .seq, [], []⟩])
   (.cond (.tmp 140)
    (.seq (.region [⟨(some 141), .move (.tmp 19), none, .seq, [], []⟩,
      ⟨(some 142), .move (.tmp 3), none, .seq, [], []⟩,
      ⟨(some 143), .bin .sub (.tmp 141) (.tmp 142), none, .seq, [], []⟩,
      ⟨(some 20), .move (.tmp 143), none, .seq, [], []⟩])
    (.region [⟨(some 144), .move (.tmp 18), none, .seq, [], []⟩,
     ⟨(some 21), .move (.tmp 144), none, .seq, [], []⟩]))
    (.seq (.region [⟨(some 145), .move (.tmp 1), none, .seq, [], []⟩,
      ⟨(some 20), .move (.tmp 145), none, .seq, [], []⟩])
    (.region [⟨(some 146), .move (.tmp 2), none, .seq, [], []⟩,
     ⟨(some 21), .move (.tmp 146), none, .seq, [], []⟩]))))
  (.seq (.region [⟨(some 147), .move (.tmp 19), none, .seq, [], []⟩,
    ⟨(some 148), .bin .sub (.tmp 147) (.const (.int .i64 1)), none, .seq, [], []⟩,
    ⟨(some 22), .move (.tmp 148), none, .seq, [], []⟩])
  (.seq (.block 8
    (.loop f105l0))
  (.seq (.region [⟨(some 175), .move (.tmp 19), none, .seq, [], []⟩,
    ⟨(some 176), .move (.tmp 20), none, .seq, [], []⟩,
    ⟨(some 177), .bin .sub (.tmp 175) (.tmp 176), none, .seq, [], []⟩,
    ⟨(some 24), .move (.tmp 177), none, .seq, [], []⟩])
  (.seq (.seq (.region [⟨(some 178), .move (.tmp 20), none, .seq, [], []⟩,
     ⟨(some 179), .move (.tmp 2), none, .seq, [], []⟩,
     ⟨(some 180), .bin .lss (.tmp 178) (.tmp 179), none, .seq, [], []⟩,
     ⟨(some 181), .move (.tmp 180), none, .seq, [], []⟩,
     ⟨(some 182), .move (.tmp 2), some (181, true), .seq, [], []⟩,
     ⟨(some 183), .move (.tmp 24), some (181, true), .seq, [], []⟩,
     ⟨(some 184), .bin .lss (.tmp 182) (.tmp 183), some (181, true), .seq, [], []⟩,
     ⟨(some 185), .pick (.tmp 181) (.tmp 184) (.const (.bool false)), none, .seq, [], []⟩])
   (.cond (.tmp 185)
    (.region [⟨(some 186), .move (.tmp 0), none, .seq, [], []⟩,
     ⟨(some 187), .move (.tmp 20), none, .seq, [], []⟩,
     ⟨(some 188), .move (.tmp 2), none, .seq, [], []⟩,
     ⟨(some 189), .move (.tmp 24), none, .seq, [], []⟩,
     ⟨(some 190), .move (.tmp 4), none, .seq, [], []⟩,
     ⟨(some 191), .call 117 [(.tmp 186), (.tmp 187), (.tmp 188), (.tmp 189), (.tmp 190)], none, .seq, [], []⟩])
    .skip))
  (.seq (.seq (.region [⟨(some 192), .move (.tmp 1), none, .seq, [], []⟩,
     ⟨(some 193), .move (.tmp 20), none, .seq, [], []⟩,
     ⟨(some 194), .bin .lss (.tmp 192) (.tmp 193), none, .seq, [], []⟩,
     ⟨(some 195), .move (.tmp 194), none, .seq, [], []⟩,
     ⟨(some 196), .move (.tmp 20), some (195, true), .seq, [], []⟩,
     ⟨(some 197), .move (.tmp 18), some (195, true), .seq, [], []⟩,
     ⟨(some 198), .bin .lss (.tmp 196) (.tmp 197), some (195, true), .seq, [], []⟩,
     ⟨(some 199), .pick (.tmp 195) (.tmp 198) (.const (.bool false)), none, .seq, [], []⟩])
   (.cond (.tmp 199)
    (.region [⟨(some 200), .move (.tmp 0), none, .seq, [], []⟩,
     ⟨(some 201), .move (.tmp 1), none, .seq, [], []⟩,
     ⟨(some 202), .move (.tmp 20), none, .seq, [], []⟩,
     ⟨(some 203), .move (.tmp 18), none, .seq, [], []⟩,
     ⟨(some 204), .move (.tmp 4), none, .seq, [], []⟩,
     ⟨(some 205), .call 105 [(.tmp 200), (.tmp 201), (.tmp 202), (.tmp 203), (.tmp 204)], none, .seq, [], []⟩])
    .skip))
  (.seq (.region [⟨(some 206), .move (.tmp 18), none, .seq, [], []⟩,
    ⟨(some 207), .move (.tmp 24), none, .seq, [], []⟩,
    ⟨(some 208), .bin .lss (.tmp 206) (.tmp 207), none, .seq, [], []⟩,
    ⟨(some 209), .move (.tmp 208), none, .seq, [], []⟩,
    ⟨(some 210), .move (.tmp 24), some (209, true), .seq, [], []⟩,
    ⟨(some 211), .move (.tmp 3), some (209, true), .seq, [], []⟩,
    ⟨(some 212), .bin .lss (.tmp 210) (.tmp 211), some (209, true), .seq, [], []⟩,
    ⟨(some 213), .pick (.tmp 209) (.tmp 212) (.const (.bool false)), none, .seq, [], []⟩])
  (.cond (.tmp 213)
   (.region [⟨(some 214), .move (.tmp 0), none, .seq, [], []⟩,
    ⟨(some 215), .move (.tmp 18), none, .seq, [], []⟩,
    ⟨(some 216), .move (.tmp 24), none, .seq, [], []⟩,
    ⟨(some 217), .move (.tmp 3), none, .seq, [], []⟩,
    ⟨(some 218), .move (.tmp 4), none, .seq, [], []⟩,
    ⟨(some 219), .call 105 [(.tmp 214), (.tmp 215), (.tmp 216), (.tmp 217), (.tmp 218)], none, .seq, [], []⟩])
   .skip)))))))))))))⟩

def f106l0 : ACode :=
  (.keep [0, 1, 2, 6, 7]
          (.seq (.seq (.region [⟨(some 16), .move (.tmp 7), none, .still, [], []⟩,
             ⟨(some 17), .move (.tmp 1), none, .still, [], []⟩,
             ⟨(some 18), .bin .gtr (.tmp 16) (.tmp 17), none, .still, [], []⟩,
             ⟨(some 19), .move (.tmp 18), none, .still, [], []⟩,
             ⟨(some 20), .move (.tmp 0), some (19, true), .still, [], []⟩,
             ⟨(some 21), .move (.tmp 7), some (19, true), .still, [], []⟩,
             ⟨(some 22), .indexAddr none 1 (.tmp 20) (.tmp 21), some (19, true), .still, [], []⟩,
             ⟨(some 23), .load none (.tmp 22), some (19, true), .rd, [], []⟩,
             ⟨(some 24), .move (.tmp 0), some (19, true), .still, [], []⟩,
             ⟨(some 25), .move (.tmp 7), some (19, true), .still, [], []⟩,
             ⟨(some 26), .bin .sub (.tmp 25) (.const (.int .i64 1)), some (19, true), .still, [], []⟩,
             ⟨(some 27), .indexAddr none 1 (.tmp 24) (.tmp 26), some (19, true), .still, [], []⟩,
             ⟨(some 28), .load none (.tmp 27), some (19, true), .rd, [], []⟩,
             ⟨(some 29), .call 112 [(.tmp 23), (.tmp 28)], some (19, true), .seq, [], []⟩,
             ⟨(some 30), .pick (.tmp 19) (.tmp 29) (.const (.bool false)), none, .still, [], []⟩])
           (.cond (.tmp 30)
            .skip
            (.exit 2)))
          (.seq (.block 3
            (.region [⟨(some 33), .move (.tmp 0), none, .still, [], []⟩,
             ⟨(some 34), .move (.tmp 7), none, .still, [], []⟩,
             ⟨(some 35), .move (.tmp 0), none, .still, [], []⟩,
             ⟨(some 36), .move (.tmp 7), none, .still, [], []⟩,
             ⟨(some 37), .bin .sub (.tmp 36) (.const (.int .i64 1)), none, .still, [], []⟩,
             ⟨(some 38), .move (.tmp 0), none, .still, [], []⟩,
             ⟨(some 39), .move (.tmp 7), none, .still, [], []⟩,
             ⟨(some 40), .bin .sub (.tmp 39) (.const (.int .i64 1)), none, .still, [], []⟩,
             ⟨(some 41), .indexAddr none 1 (.tmp 38) (.tmp 40), none, .still, [], []⟩,
             ⟨(some 42), .load none (.tmp 41), none, .rd, [], []⟩,
             ⟨(some 43), .move (.tmp 0), none, .still, [], []⟩,
             ⟨(some 44), .move (.tmp 7), none, .still, [], []⟩,
             ⟨(some 45), .indexAddr none 1 (.tmp 43) (.tmp 44), none, .still, [], []⟩,
             ⟨(some 46), .load none (.tmp 45), none, .rd, [], []⟩,
             ⟨(some 47), .indexAddr none 1 (.tmp 33) (.tmp 34), none, .still, [], []⟩,
             ⟨none, .store 1 (.tmp 47) (.tmp 42), none, .seq, [], []⟩,
             ⟨(some 48), .indexAddr none 1 (.tmp 35) (.tmp 37), none, .still, [], []⟩,
             ⟨none, .store 1 (.tmp 48) (.tmp 46), none, .seq, [], []⟩]))
          (.region [⟨(some 31), .move (.tmp 7), none, .seq, [], []⟩,
           ⟨(some 32), .bin .sub (.tmp 31) (.const (.int .i64 1)), none, .seq, [], []⟩,
           ⟨(some 7), .move (.tmp 32), none, .seq, [], []⟩]))))

def f106l1 : ACode :=
  (.keep [0, 1, 2, 6]
     (.seq (.seq (.region [⟨(some 10), .move (.tmp 6), none, .seq, [], []⟩,
        ⟨(some 11), .move (.tmp 2), none, .seq, [], []⟩,
        ⟨(some 12), .bin .lss (.tmp 10) (.tmp 11), none, .seq, [], []⟩])
      (.cond (.tmp 12)
       .skip
       (.exit 0)))
     (.seq (.block 1
       (.seq (.region [⟨(some 15), .move (.tmp 6), none, .seq, [], []⟩,
         ⟨(some 7), .move (.tmp 15), none, .seq, [], []⟩])
       (.block 2
        (.loop f106l0))))
     (.region [⟨(some 13), .move (.tmp 6), none, .seq, [], []⟩,
      ⟨(some 14), .bin .add (.tmp 13) (.const (.int .i64 1)), none, .seq, [], []⟩,
      ⟨(some 6), .move (.tmp 14), none, .seq, [], []⟩]))))

/-- slices.insertionSortOrdered[int64] -/
def f106 : AFunc := ⟨3, [],
  (.seq (.region [⟨(some 8), .move (.tmp 1), none, .seq, [], []⟩,
    ⟨(some 9), .bin .add (.tmp 8) (.const (.int .i64 1)), none, .seq, [], []⟩,
    ⟨(some 6), .move (.tmp 9), none, .seq, [], []⟩])
  (.block 0
   (.loop f106l1)))⟩

def f107l0 : ACode :=
  (.keep [0, 6, 7, 10]
     (.seq (.seq (.region [⟨(some 29), .move (.tmp 10), none, .seq, [], []⟩,
        ⟨(some 30), .bin .geq (.tmp 29) (.const (.int .i64 0)), none, .seq, [], []⟩])
      (.cond (.tmp 30)
       .skip
       (.exit 2)))
     (.seq (.block 3
       (.seq (.region [⟨(some 33), .move (.tmp 0), none, .still, [], []⟩,
         ⟨(some 34), .move (.tmp 6), none, .still, [], []⟩,
         ⟨(some 35), .move (.tmp 0), none, .still, [], []⟩,
         ⟨(some 36), .move (.tmp 6), none, .still, [], []⟩,
         ⟨(some 37), .move (.tmp 10), none, .still, [], []⟩,
         ⟨(some 38), .bin .add (.tmp 36) (.tmp 37), none, .still, [], []⟩,
         ⟨(some 39), .move (.tmp 0), none, .still, [], []⟩,
         ⟨(some 40), .move (.tmp 6), none, .still, [], []⟩,
         ⟨(some 41), .move (.tmp 10), none, .still, [], []⟩,
         ⟨(some 42), .bin .add (.tmp 40) (.tmp 41), none, .still, [], []⟩,
         ⟨(some 43), .indexAddr none 1 (.tmp 39) (.tmp 42), none, .still, [], []⟩,
         ⟨(some 44), .load none (.tmp 43), none, .rd, [], []⟩,
         ⟨(some 45), .move (.tmp 0), none, .still, [], []⟩,
         ⟨(some 46), .move (.tmp 6), none, .still, [], []⟩,
         ⟨(some 47), .indexAddr none 1 (.tmp 45) (.tmp 46), none, .still, [], []⟩,
         ⟨(some 48), .load none (.tmp 47), none, .rd, [], []⟩,
         ⟨(some 49), .indexAddr none 1 (.tmp 33) (.tmp 34), none, .still, [], []⟩,
         ⟨none, .store 1 (.tmp 49) (.tmp 44), none, .seq, [], []⟩,
         ⟨(some 50), .indexAddr none 1 (.tmp 35) (.tmp 38), none, .still, [], []⟩,
         ⟨none, .store 1 (.tmp 50) (.tmp 48), none, .seq, [], []⟩])
       (.region [⟨(some 51), .move (.tmp 0), none, .seq, [], []⟩,
        ⟨(some 52), .move (.tmp 7), none, .seq, [], []⟩,
        ⟨(some 53), .move (.tmp 10), none, .seq, [], []⟩,
        ⟨(some 54), .move (.tmp 6), none, .seq, [], []⟩,
        ⟨(some 55), .call 118 [(.tmp 51), (.tmp 52), (.tmp 53), (.tmp 54)], none, .seq, [], []⟩])))
     (.region [⟨(some 31), .move (.tmp 10), none, .seq, [], []⟩,
      ⟨(some 32), .bin .sub (.tmp 31) (.const (.int .i64 1)), none, .seq, [], []⟩,
      ⟨(some 10), .move (.tmp 32), none, .seq, [], []⟩]))))

def f107l1 : ACode :=
  (.keep [0, 6, 7, 8, 9]
      (.seq (.seq (.region [⟨(some 18), .move (.tmp 9), none, .seq, [], []⟩,
         ⟨(some 19), .bin .geq (.tmp 18) (.const (.int .i64 0)), none, .seq, [], []⟩])
       (.cond (.tmp 19)
        .skip
        (.exit 0)))
      (.seq (.block 1
        (.region [⟨(some 22), .move (.tmp 0), none, .seq, [], []⟩,
         ⟨(some 23), .move (.tmp 9), none, .seq, [], []⟩,
         ⟨(some 24), .move (.tmp 8), none, .seq, [], []⟩,
         ⟨(some 25), .move (.tmp 6), none, .seq, [], []⟩,
         ⟨(some 26), .call 118 [(.tmp 22), (.tmp 23), (.tmp 24), (.tmp 25)], none, .seq, [], []⟩]))
      (.region [⟨(some 20), .move (.tmp 9), none, .seq, [], []⟩,
       ⟨(some 21), .bin .sub (.tmp 20) (.const (.int .i64 1)), none, .seq, [], []⟩,
       ⟨(some 9), .move (.tmp 21), none, .seq, [], []⟩]))))

/-- slices.heapSortOrdered[int64] -/
def f107 : AFunc := ⟨3, [],
  (.seq (.region [⟨(some 11), .move (.tmp 1), none, .seq, [], []⟩,
    ⟨(some 6), .move (.tmp 11), none, .seq, [], []⟩])
  (.seq (.region [⟨(some 7), .move (.const (.int .i64 0)), none, .seq, [], []⟩])
  (.seq (.region [⟨(some 12), .move (.tmp 2), none, .seq, [], []⟩,
    ⟨(some 13), .move (.tmp 1), none, .seq, [], []⟩,
    ⟨(some 14), .bin .sub (.tmp 12) (.tmp 13), none, .seq, [], []⟩,
    ⟨(some 8), .move (.tmp 14), none, .seq, [], []⟩])
  (.seq (.seq (.region [⟨(some 15), .move (.tmp 8), none, .seq, [], []⟩,
     ⟨(some 16), .bin .sub (.tmp 15) (.const (.int .i64 1)), none, .seq, [], []⟩,
     ⟨(some 17), .bin .quo (.tmp 16) (.const (.int .i64 2)), none, .seq, [], []⟩,
     ⟨(some 9), .move (.tmp 17), none, .seq, [], []⟩])
   (.block 0
    (.loop f107l1)))
  (.seq (.region [⟨(some 27), .move (.tmp 8), none, .seq, [], []⟩,
    ⟨(some 28), .bin .sub (.tmp 27) (.const (.int .i64 1)), none, .seq, [], []⟩,
    ⟨(some 10), .move (.tmp 28), none, .seq, [], []⟩])
  (.block 2
   (.loop f107l0)))))))⟩

def f108l0 : ACode :=
  (.keep [0, 1, 6, 7, 8, 9]
      (.seq (.seq (.region [⟨(some 26), .move (.tmp 9), none, .seq, [], []⟩,
         ⟨(some 27), .move (.tmp 1), none, .seq, [], []⟩,
         ⟨(some 28), .move (.tmp 6), none, .seq, [], []⟩,
         ⟨(some 29), .bin .quo (.tmp 28) (.const (.int .i64 4)), none, .seq, [], []⟩,
         ⟨(some 30), .bin .mul (.tmp 29) (.const (.int .i64 2)), none, .seq, [], []⟩,
         ⟨(some 31), .bin .add (.tmp 27) (.tmp 30), none, .seq, [], []⟩,
         ⟨(some 32), .bin .add (.tmp 31) (.const (.int .i64 1)), none, .seq, [], []⟩,
         ⟨(some 33), .bin .leq (.tmp 26) (.tmp 32), none, .seq, [], []⟩])
       (.cond (.tmp 33)
        .skip
        (.exit 0)))
      (.seq (.block 1
        (.seq (.region [⟨(some 36), .call 120 [(.tmp 7)], none, .seq, [], []⟩,
          ⟨(some 37), .move (.tmp 8), none, .seq, [], []⟩,
          ⟨(some 38), .bin .sub (.tmp 37) (.const (.int .u64 1)), none, .seq, [], []⟩,
          ⟨(some 39), .bin .and (.tmp 36) (.tmp 38), none, .seq, [], []⟩,
          ⟨(some 40), .convInt .i64 (.tmp 39), none, .seq, [], []⟩,
          ⟨(some 10), .move (.tmp 40), none, .seq, [], []⟩])
        (.seq (.seq (.region [⟨(some 41), .move (.tmp 10), none, .seq, [], []⟩,
           ⟨(some 42), .move (.tmp 6), none, .seq, [], []⟩,
           ⟨(some 43), .bin .geq (.tmp 41) (.tmp 42), none, .seq, [], []⟩])
         (.cond (.tmp 43)
          (.region [⟨(some 44), .move (.tmp 10), none, .seq, [], []⟩,
           ⟨(some 45), .move (.tmp 6), none, .seq, [], []⟩,
           ⟨(some 46), .bin .sub (.tmp 44) (.tmp 45), none, .seq, [], []⟩,
           ⟨(some 10), .move (.tmp 46), none, .seq, [], []⟩])
          .skip))
        (.region [⟨(some 47), .move (.tmp 0), none, .still, [], []⟩,
         ⟨(some 48), .move (.tmp 9), none, .still, [], []⟩,
         ⟨(some 49), .move (.tmp 0), none, .still, [], []⟩,
         ⟨(some 50), .move (.tmp 1), none, .still, [], []⟩,
         ⟨(some 51), .move (.tmp 10), none, .still, [], []⟩,
         ⟨(some 52), .bin .add (.tmp 50) (.tmp 51), none, .still, [], []⟩,
         ⟨(some 53), .move (.tmp 0), none, .still, [], []⟩,
         ⟨(some 54), .move (.tmp 1), none, .still, [], []⟩,
         ⟨(some 55), .move (.tmp 10), none, .still, [], []⟩,
         ⟨(some 56), .bin .add (.tmp 54) (.tmp 55), none, .still, [], []⟩,
         ⟨(some 57), .indexAddr none 1 (.tmp 53) (.tmp 56), none, .still, [], []⟩,
         ⟨(some 58), .load none (.tmp 57), none, .rd, [], []⟩,
         ⟨(some 59), .move (.tmp 0), none, .still, [], []⟩,
         ⟨(some 60), .move (.tmp 9), none, .still, [], []⟩,
         ⟨(some 61), .indexAddr none 1 (.tmp 59) (.tmp 60), none, .still, [], []⟩,
         ⟨(some 62), .load none (.tmp 61), none, .rd, [], []⟩,
         ⟨(some 63), .indexAddr none 1 (.tmp 47) (.tmp 48), none, .still, [], []⟩,
         ⟨none, .store 1 (.tmp 63) (.tmp 58), none, .seq, [], []⟩,
         ⟨(some 64), .indexAddr none 1 (.tmp 49) (.tmp 52), none, .still, [], []⟩,
         ⟨none, .store 1 (.tmp 64) (.tmp 62), none, .seq, [], []⟩]))))
      (.region [⟨(some 34), .move (.tmp 9), none, .seq, [], []⟩,
       ⟨(some 35), .bin .add (.tmp 34) (.const (.int .i64 1)), none, .seq, [], []⟩,
       ⟨(some 9), .move (.tmp 35), none, .seq, [], []⟩]))))

/-- slices.breakPatternsOrdered[int64] -/
def f108 : AFunc := ⟨3, [],
  (.seq (.region [⟨(some 11), .move (.tmp 2), none, .seq, [], []⟩,
    ⟨(some 12), .move (.tmp 1), none, .seq, [], []⟩,
    ⟨(some 13), .bin .sub (.tmp 11) (.tmp 12), none, .seq, [], []⟩,
    ⟨(some 6), .move (.tmp 13), none, .seq, [], []⟩])
  (.seq (.region [⟨(some 14), .move (.tmp 6), none, .seq, [], []⟩,
    ⟨(some 15), .bin .geq (.tmp 14) (.const (.int .i64 8)), none, .seq, [], []⟩])
  (.cond (.tmp 15)
   (.seq (.region [⟨(some 16), .move (.tmp 6), none, .seq, [], []⟩,
     ⟨(some 17), .convInt .u64 (.tmp 16), none, .seq, [], []⟩,
     ⟨(some 7), .alloc [(.int .u64 0)], none, .seq, [], []⟩,
     ⟨none, .store 1 (.tmp 7) (.tmp 17), none, .seq, [], []⟩])
   (.seq (.region [⟨(some 18), .move (.tmp 6), none, .seq, [], []⟩,
     ⟨(some 19), .call 119 [(.tmp 18)], none, .seq, [], []⟩,
     ⟨(some 8), .move (.tmp 19), none, .seq, [], []⟩])
   (.seq (.region [⟨(some 20), .move (.tmp 1), none, .seq, [], []⟩,
     ⟨(some 21), .move (.tmp 6), none, .seq, [], []⟩,
     ⟨(some 22), .bin .quo (.tmp 21) (.const (.int .i64 4)), none, .seq, [], []⟩,
     ⟨(some 23), .bin .mul (.tmp 22) (.const (.int .i64 2)), none, .seq, [], []⟩,
     ⟨(some 24), .bin .add (.tmp 20) (.tmp 23), none, .seq, [], []⟩,
     ⟨(some 25), .bin .sub (.tmp 24) (.const (.int .i64 1)), none, .seq, [], []⟩,
     ⟨(some 9), .move (.tmp 25), none, .seq, [], []⟩])
   (.block 0
    (.loop f108l0)))))
   .skip)))⟩

/-- slices.choosePivotOrdered[int64] -/
def f109 : AFunc := ⟨3, [.tmp 6, .tmp 7],
  (.seq (.region [⟨(some 6), .move (.const (.int .i64 0)), none, .seq, [], []⟩,
    ⟨(some 7), .move (.const (.int .i64 0)), none, .seq, [], []⟩])
  (.seq (.region [⟨(some 13), .move (.tmp 2), none, .seq, [], []⟩,
    ⟨(some 14), .move (.tmp 1), none, .seq, [], []⟩,
    ⟨(some 15), .bin .sub (.tmp 13) (.tmp 14), none, .seq, [], []⟩,
    ⟨(some 8), .move (.tmp 15), none, .seq, [], []⟩])
  (.seq (.region [⟨(some 9), .alloc [(.int .i64 0)], none, .seq, [], []⟩])
  (.seq (.region [⟨(some 16), .move (.tmp 1), none, .seq, [], []⟩,
    ⟨(some 17), .move (.tmp 8), none, .seq, [], []⟩,
    ⟨(some 18), .bin .quo (.tmp 17) (.const (.int .i64 4)), none, .seq, [], []⟩,
    ⟨(some 19), .bin .mul (.tmp 18) (.const (.int .i64 1)), none, .seq, [], []⟩,
    ⟨(some 20), .bin .add (.tmp 16) (.tmp 19), none, .seq, [], []⟩,
    ⟨(some 10), .move (.tmp 20), none, .seq, [], []⟩])
  (.seq (.region [⟨(some 21), .move (.tmp 1), none, .seq, [], []⟩,
    ⟨(some 22), .move (.tmp 8), none, .seq, [], []⟩,
    ⟨(some 23), .bin .quo (.tmp 22) (.const (.int .i64 4)), none, .seq, [], []⟩,
    ⟨(some 24), .bin .mul (.tmp 23) (.const (.int .i64 2)), none, .seq, [], []⟩,
    ⟨(some 25), .bin .add (.tmp 21) (.tmp 24), none, .seq, [], []⟩,
    ⟨(some 11), .move (.tmp 25), none, .seq, [], []⟩])
  (.seq (.region [⟨(some 26), .move (.tmp 1), none, .seq, [], []⟩,
    ⟨(some 27), .move (.tmp 8), none, .seq, [], []⟩,
    ⟨(some 28), .bin .quo (.tmp 27) (.const (.int .i64 4)), none, .seq, [], []⟩,
    ⟨(some 29), .bin .mul (.tmp 28) (.const (.int .i64 3)), none, .seq, [], []⟩,
    ⟨(some 30), .bin .add (.tmp 26) (.tmp 29), none, .seq, [], []⟩,
    ⟨(some 12), .move (.tmp 30), none, .seq, [], []⟩])
  (.seq (.seq (.region [⟨(some 31), .move (.tmp 8), none, .seq, [], []⟩,
     ⟨(some 32), .bin .geq (.tmp 31) (.const (.int .i64 8)), none, .seq, [], []⟩])
   (.cond (.tmp 32)
    (.seq (.seq (.region [⟨(some 33), .move (.tmp 8), none, .seq, [], []⟩,
       ⟨(some 34), .bin .geq (.tmp 33) (.const (.int .i64 50)), none, .seq, [], []⟩])
     (.cond (.tmp 34)
      (.seq (.region [⟨(some 35), .move (.tmp 0), none, .seq, [], []⟩,
        ⟨(some 36), .move (.tmp 10), none, .seq, [], []⟩,
        ⟨(some 37), .call 121 [(.tmp 35), (.tmp 36), (.tmp 9)], none, .seq, [], []⟩,
        ⟨(some 10), .move (.tmp 37), none, .seq, [], []⟩])
      (.seq (.region [⟨(some 38), .move (.tmp 0), none, .seq, [], []⟩,
        ⟨(some 39), .move (.tmp 11), none, .seq, [], []⟩,
        ⟨(some 40), .call 121 [(.tmp 38), (.tmp 39), (.tmp 9)], none, .seq, [], []⟩,
        ⟨(some 11), .move (.tmp 40), none, .seq, [], []⟩])
      (.region [⟨(some 41), .move (.tmp 0), none, .seq, [], []⟩,
       ⟨(some 42), .move (.tmp 12), none, .seq, [], []⟩,
       ⟨(some 43), .call 121 [(.tmp 41), (.tmp 42), (.tmp 9)], none, .seq, [], []⟩,
       ⟨(some 12), .move (.tmp 43), none, .seq, [], []⟩])))
      .skip))
    (.region [⟨(some 44), .move (.tmp 0), none, .seq, [], []⟩,
     ⟨(some 45), .move (.tmp 10), none, .seq, [], []⟩,
     ⟨(some 46), .move (.tmp 11), none, .seq, [], []⟩,
     ⟨(some 47), .move (.tmp 12), none, .seq, [], []⟩,
     ⟨(some 48), .call 122 [(.tmp 44), (.tmp 45), (.tmp 46), (.tmp 47), (.tmp 9)], none, .seq, [], []⟩,
     ⟨(some 11), .move (.tmp 48), none, .seq, [], []⟩]))
    .skip))
  (.seq (.region [⟨(some 49), .load none (.tmp 9), none, .seq, [], []⟩])
  (.block 0
   (.seq (.region [⟨(some 52), .bin .eql (.tmp 49) (.const (.int .i64 0)), none, .seq, [], []⟩,
     ⟨(some 51), .move (.tmp 52), none, .seq, [], []⟩])
   (.cond (.tmp 51)
    (.seq (.region [⟨(some 53), .move (.tmp 11), none, .seq, [], []⟩,
      ⟨(some 6), .move (.tmp 53), none, .seq, [], []⟩,
      ⟨(some 7), .move (.const (.int .i64 1)), none, .seq, [], []⟩])
    .ret)
    (.seq (.region [⟨(some 55), .bin .eql (.tmp 49) (.const (.int .i64 12)), none, .seq, [], []⟩,
      ⟨(some 54), .move (.tmp 55), none, .seq, [], []⟩])
    (.cond (.tmp 54)
     (.seq (.region [⟨(some 56), .move (.tmp 11), none, .seq, [], []⟩,
       ⟨(some 6), .move (.tmp 56), none, .seq, [], []⟩,
       ⟨(some 7), .move (.const (.int .i64 2)), none, .seq, [], []⟩])
     .ret)
     (.seq (.region [⟨(some 50), .move (.tmp 11), none, .seq, [], []⟩,
       ⟨(some 6), .move (.tmp 50), none, .seq, [], []⟩,
       ⟨(some 7), .move (.const (.int .i64 0)), none, .seq, [], []⟩])
     .ret))))))))))))))⟩

def f110l0 : ACode :=
  (.keep [0, 6, 7]
     (.seq (.seq (.region [⟨(some 11), .move (.tmp 6), none, .seq, [], []⟩,
        ⟨(some 12), .move (.tmp 7), none, .seq, [], []⟩,
        ⟨(some 13), .bin .lss (.tmp 11) (.tmp 12), none, .seq, [], []⟩])
      (.cond (.tmp 13)
       .skip
       (.exit 0)))
     (.block 1
      (.seq (.region [⟨(some 14), .move (.tmp 0), none, .still, [], []⟩,
        ⟨(some 15), .move (.tmp 6), none, .still, [], []⟩,
        ⟨(some 16), .move (.tmp 0), none, .still, [], []⟩,
        ⟨(some 17), .move (.tmp 7), none, .still, [], []⟩,
        ⟨(some 18), .move (.tmp 0), none, .still, [], []⟩,
        ⟨(some 19), .move (.tmp 7), none, .still, [], []⟩,
        ⟨(some 20), .indexAddr none 1 (.tmp 18) (.tmp 19), none, .still, [], []⟩,
        ⟨(some 21), .load none (.tmp 20), none, .rd, [], []⟩,
        ⟨(some 22), .move (.tmp 0), none, .still, [], []⟩,
        ⟨(some 23), .move (.tmp 6), none, .still, [], []⟩,
        ⟨(some 24), .indexAddr none 1 (.tmp 22) (.tmp 23), none, .still, [], []⟩,
        ⟨(some 25), .load none (.tmp 24), none, .rd, [], []⟩,
        ⟨(some 26), .indexAddr none 1 (.tmp 14) (.tmp 15), none, .still, [], []⟩,
        ⟨none, .store 1 (.tmp 26) (.tmp 21), none, .seq, [], []⟩,
        ⟨(some 27), .indexAddr none 1 (.tmp 16) (.tmp 17), none, .still, [], []⟩,
        ⟨none, .store 1 (.tmp 27) (.tmp 25), none, .seq, [], []⟩])
      (.seq (.region [⟨(some 28), .move (.tmp 6), none, .seq, [], []⟩,
        ⟨(some 29), .bin .add (.tmp 28) (.const (.int .i64 1)), none, .seq, [], []⟩,
        ⟨(some 6), .move (.tmp 29), none, .seq, [], []⟩])
      (.region [⟨(some 30), .move (.tmp 7), none, .seq, [], []⟩,
       ⟨(some 31), .bin .sub (.tmp 30) (.const (.int .i64 1)), none, .seq, [], []⟩,
       ⟨(some 7), .move (.tmp 31), none, .seq, [], []⟩]))))))

/-- slices.reverseRangeOrdered[int64] -/
def f110 : AFunc := ⟨3, [],
  (.seq (.region [⟨(some 8), .move (.tmp 1), none, .seq, [], []⟩,
    ⟨(some 6), .move (.tmp 8), none, .seq, [], []⟩])
  (.seq (.region [⟨(some 9), .move (.tmp 2), none, .seq, [], []⟩,
    ⟨(some 10), .bin .sub (.tmp 9) (.const (.int .i64 1)), none, .seq, [], []⟩,
    ⟨(some 7), .move (.tmp 10), none, .seq, [], []⟩])
  (.block 0
   (.loop f110l0))))⟩

def f111l0 : ACode :=
  (.keep [0, 1, 2, 7, 8, 10]
            (.seq (.seq (.region [⟨(some 101), .move (.tmp 10), none, .seq, [], []⟩,
               ⟨(some 102), .move (.tmp 2), none, .seq, [], []⟩,
               ⟨(some 103), .bin .lss (.tmp 101) (.tmp 102), none, .seq, [], []⟩])
             (.cond (.tmp 103)
              .skip
              (.exit 6)))
            (.seq (.block 7
              (.seq (.seq (.region [⟨(some 106), .move (.tmp 0), none, .still, [], []⟩,
                 ⟨(some 107), .move (.tmp 10), none, .still, [], []⟩,
                 ⟨(some 108), .indexAddr none 1 (.tmp 106) (.tmp 107), none, .still, [], []⟩,
                 ⟨(some 109), .load none (.tmp 108), none, .rd, [], []⟩,
                 ⟨(some 110), .move (.tmp 0), none, .still, [], []⟩,
                 ⟨(some 111), .move (.tmp 10), none, .still, [], []⟩,
                 ⟨(some 112), .bin .sub (.tmp 111) (.const (.int .i64 1)), none, .still, [], []⟩,
                 ⟨(some 113), .indexAddr none 1 (.tmp 110) (.tmp 112), none, .still, [], []⟩,
                 ⟨(some 114), .load none (.tmp 113), none, .rd, [], []⟩,
                 ⟨(some 115), .call 112 [(.tmp 109), (.tmp 114)], none, .seq, [], []⟩,
                 ⟨(some 116), .un .not (.tmp 115), none, .still, [], []⟩])
               (.cond (.tmp 116)
                (.exit 6)
                .skip))
              (.region [⟨(some 117), .move (.tmp 0), none, .still, [], []⟩,
               ⟨(some 118), .move (.tmp 10), none, .still, [], []⟩,
               ⟨(some 119), .move (.tmp 0), none, .still, [], []⟩,
               ⟨(some 120), .move (.tmp 10), none, .still, [], []⟩,
               ⟨(some 121), .bin .sub (.tmp 120) (.const (.int .i64 1)), none, .still, [], []⟩,
               ⟨(some 122), .move (.tmp 0), none, .still, [], []⟩,
               ⟨(some 123), .move (.tmp 10), none, .still, [], []⟩,
               ⟨(some 124), .bin .sub (.tmp 123) (.const (.int .i64 1)), none, .still, [], []⟩,
               ⟨(some 125), .indexAddr none 1 (.tmp 122) (.tmp 124), none, .still, [], []⟩,
               ⟨(some 126), .load none (.tmp 125), none, .rd, [], []⟩,
               ⟨(some 127), .move (.tmp 0), none, .still, [], []⟩,
               ⟨(some 128), .move (.tmp 10), none, .still, [], []⟩,
               ⟨(some 129), .indexAddr none 1 (.tmp 127) (.tmp 128), none, .still, [], []⟩,
               ⟨(some 130), .load none (.tmp 129), none, .rd, [], []⟩,
               ⟨(some 131), .indexAddr none 1 (.tmp 117) (.tmp 118), none, .still, [], []⟩,
               ⟨none, .store 1 (.tmp 131) (.tmp 126), none, .seq, [], []⟩,
               ⟨(some 132), .indexAddr none 1 (.tmp 119) (.tmp 121), none, .still, [], []⟩,
               ⟨none, .store 1 (.tmp 132) (.tmp 130), none, .seq, [], []⟩])))
            (.region [⟨(some 104), .move (.tmp 10), none, .seq, [], []⟩,
             ⟨(some 105), .bin .add (.tmp 104) (.const (.int .i64 1)), none, .seq, [], []⟩,
             ⟨(some 10), .move (.tmp 105), none, .seq, [], []⟩]))))

def f111l1 : ACode :=
  (.keep [0, 1, 2, 7, 8, 9]
             (.seq (.seq (.region [⟨(some 64), .move (.tmp 9), none, .seq, [], []⟩,
                ⟨(some 65), .bin .geq (.tmp 64) (.const (.int .i64 1)), none, .seq, [], []⟩])
              (.cond (.tmp 65)
               .skip
               (.exit 4)))
             (.seq (.block 5
               (.seq (.seq (.region [⟨(some 68), .move (.tmp 0), none, .still, [], []⟩,
                  ⟨(some 69), .move (.tmp 9), none, .still, [], []⟩,
                  ⟨(some 70), .indexAddr none 1 (.tmp 68) (.tmp 69), none, .still, [], []⟩,
                  ⟨(some 71), .load none (.tmp 70), none, .rd, [], []⟩,
                  ⟨(some 72), .move (.tmp 0), none, .still, [], []⟩,
                  ⟨(some 73), .move (.tmp 9), none, .still, [], []⟩,
                  ⟨(some 74), .bin .sub (.tmp 73) (.const (.int .i64 1)), none, .still, [], []⟩,
                  ⟨(some 75), .indexAddr none 1 (.tmp 72) (.tmp 74), none, .still, [], []⟩,
                  ⟨(some 76), .load none (.tmp 75), none, .rd, [], []⟩,
                  ⟨(some 77), .call 112 [(.tmp 71), (.tmp 76)], none, .seq, [], []⟩,
                  ⟨(some 78), .un .not (.tmp 77), none, .still, [], []⟩])
                (.cond (.tmp 78)
                 (.exit 4)
                 .skip))
               (.region [⟨(some 79), .move (.tmp 0), none, .still, [], []⟩,
                ⟨(some 80), .move (.tmp 9), none, .still, [], []⟩,
                ⟨(some 81), .move (.tmp 0), none, .still, [], []⟩,
                ⟨(some 82), .move (.tmp 9), none, .still, [], []⟩,
                ⟨(some 83), .bin .sub (.tmp 82) (.const (.int .i64 1)), none, .still, [], []⟩,
                ⟨(some 84), .move (.tmp 0), none, .still, [], []⟩,
                ⟨(some 85), .move (.tmp 9), none, .still, [], []⟩,
                ⟨(some 86), .bin .sub (.tmp 85) (.const (.int .i64 1)), none, .still, [], []⟩,
                ⟨(some 87), .indexAddr none 1 (.tmp 84) (.tmp 86), none, .still, [], []⟩,
                ⟨(some 88), .load none (.tmp 87), none, .rd, [], []⟩,
                ⟨(some 89), .move (.tmp 0), none, .still, [], []⟩,
                ⟨(some 90), .move (.tmp 9), none, .still, [], []⟩,
                ⟨(some 91), .indexAddr none 1 (.tmp 89) (.tmp 90), none, .still, [], []⟩,
                ⟨(some 92), .load none (.tmp 91), none, .rd, [], []⟩,
                ⟨(some 93), .indexAddr none 1 (.tmp 79) (.tmp 80), none, .still, [], []⟩,
                ⟨none, .store 1 (.tmp 93) (.tmp 88), none, .seq, [], []⟩,
                ⟨(some 94), .indexAddr none 1 (.tmp 81) (.tmp 83), none, .still, [], []⟩,
                ⟨none, .store 1 (.tmp 94) (.tmp 92), none, .seq, [], []⟩])))
             (.region [⟨(some 66), .move (.tmp 9), none, .seq, [], []⟩,
              ⟨(some 67), .bin .sub (.tmp 66) (.const (.int .i64 1)), none, .seq, [], []⟩,
              ⟨(some 9), .move (.tmp 67), none, .seq, [], []⟩]))))

def f111l2 : ACode :=
  (.keep [0, 1, 2, 7, 8]
            (.seq (.seq (.region [⟨(some 17), .move (.tmp 7), none, .still, [], []⟩,
               ⟨(some 18), .move (.tmp 2), none, .still, [], []⟩,
               ⟨(some 19), .bin .lss (.tmp 17) (.tmp 18), none, .still, [], []⟩,
               ⟨(some 20), .move (.tmp 19), none, .still, [], []⟩,
               ⟨(some 21), .move (.tmp 0), some (20, true), .still, [], []⟩,
               ⟨(some 22), .move (.tmp 7), some (20, true), .still, [], []⟩,
               ⟨(some 23), .indexAddr none 1 (.tmp 21) (.tmp 22), some (20, true), .still, [], []⟩,
               ⟨(some 24), .load none (.tmp 23), some (20, true), .rd, [], []⟩,
               ⟨(some 25), .move (.tmp 0), some (20, true), .still, [], []⟩,
               ⟨(some 26), .move (.tmp 7), some (20, true), .still, [], []⟩,
               ⟨(some 27), .bin .sub (.tmp 26) (.const (.int .i64 1)), some (20, true), .still, [], []⟩,
               ⟨(some 28), .indexAddr none 1 (.tmp 25) (.tmp 27), some (20, true), .still, [], []⟩,
               ⟨(some 29), .load none (.tmp 28), some (20, true), .rd, [], []⟩,
               ⟨(some 30), .call 112 [(.tmp 24), (.tmp 29)], some (20, true), .seq, [], []⟩,
               ⟨(some 31), .un .not (.tmp 30), some (20, true), .still, [], []⟩,
               ⟨(some 32), .pick (.tmp 20) (.tmp 31) (.const (.bool false)), none, .still, [], []⟩])
             (.cond (.tmp 32)
              .skip
              (.exit 2)))
            (.block 3
             (.region [⟨(some 33), .move (.tmp 7), none, .seq, [], []⟩,
              ⟨(some 34), .bin .add (.tmp 33) (.const (.int .i64 1)), none, .seq, [], []⟩,
              ⟨(some 7), .move (.tmp 34), none, .seq, [], []⟩]))))

def f111l3 : ACode :=
  (.keep [0, 1, 2, 7, 8]
      (.seq (.seq (.region [⟨(some 13), .move (.tmp 8), none, .seq, [], []⟩,
         ⟨(some 14), .bin .lss (.tmp 13) (.const (.int .i64 5)), none, .seq, [], []⟩])
       (.cond (.tmp 14)
        .skip
        (.exit 0)))
      (.seq (.block 1
        (.seq (.block 2
          (.loop f111l2))
        (.seq (.seq (.region [⟨(some 35), .move (.tmp 7), none, .seq, [], []⟩,
           ⟨(some 36), .move (.tmp 2), none, .seq, [], []⟩,
           ⟨(some 37), .bin .eql (.tmp 35) (.tmp 36), none, .seq, [], []⟩])
         (.cond (.tmp 37)
          (.seq (.region [⟨(some 6), .move (.const (.bool true)), none, .seq, [], []⟩])
          .ret)
          .skip))
        (.seq (.seq (.region [⟨(some 38), .move (.tmp 2), none, .seq, [], []⟩,
           ⟨(some 39), .move (.tmp 1), none, .seq, [], []⟩,
           ⟨(some 40), .bin .sub (.tmp 38) (.tmp 39), none, .seq, [], []⟩,
           ⟨(some 41), .bin .lss (.tmp 40) (.const (.int .i64 50)), none, .seq, [], []⟩])
         (.cond (.tmp 41)
          (.seq (.region [⟨(some 6), .move (.const (.bool false)), none, .seq, [], []⟩])
          .ret)
          .skip))
        (.seq (.region [⟨(some 42), .move (.tmp 0), none, .still, [], []⟩,
          ⟨(some 43), .move (.tmp 7), none, .still, [], []⟩,
          ⟨(some 44), .move (.tmp 0), none, .still, [], []⟩,
          ⟨(some 45), .move (.tmp 7), none, .still, [], []⟩,
          ⟨(some 46), .bin .sub (.tmp 45) (.const (.int .i64 1)), none, .still, [], []⟩,
          ⟨(some 47), .move (.tmp 0), none, .still, [], []⟩,
          ⟨(some 48), .move (.tmp 7), none, .still, [], []⟩,
          ⟨(some 49), .bin .sub (.tmp 48) (.const (.int .i64 1)), none, .still, [], []⟩,
          ⟨(some 50), .indexAddr none 1 (.tmp 47) (.tmp 49), none, .still, [], []⟩,
          ⟨(some 51), .load none (.tmp 50), none, .rd, [], []⟩,
          ⟨(some 52), .move (.tmp 0), none, .still, [], []⟩,
          ⟨(some 53), .move (.tmp 7), none, .still, [], []⟩,
          ⟨(some 54), .indexAddr none 1 (.tmp 52) (.tmp 53), none, .still, [], []⟩,
          ⟨(some 55), .load none (.tmp 54), none, .rd, [], []⟩,
          ⟨(some 56), .indexAddr none 1 (.tmp 42) (.tmp 43), none, .still, [], []⟩,
          ⟨none, .store 1 (.tmp 56) (.tmp 51), none, .seq, [], []⟩,
          ⟨(some 57), .indexAddr none 1 (.tmp 44) (.tmp 46), none, .still, [], []⟩,
          ⟨none, .store 1 (.tmp 57) (.tmp 55), none, .seq, [], []⟩])
        (.seq (.seq (.region [⟨(some 58), .move (.tmp 7), none, .seq, [], []⟩,
           ⟨(some 59), .move (.tmp 1), none, .seq, [], []⟩,
           ⟨(some 60), .bin .sub (.tmp 58) (.tmp 59), none, .seq, [], []⟩,
           ⟨(some 61), .bin .geq (.tmp 60) (.const (.int .i64 2)), none, .seq, [], []⟩])
         (.cond (.tmp 61)
          (.seq (.region [⟨(some 62), .move (.tmp 7), none, .seq, [], []⟩,
            ⟨(some 63), .bin .sub (.tmp 62) (.const (.int .i64 1)), none, .seq, [], []⟩,
            ⟨(some 9), .move (.tmp 63), none, .seq, [], []⟩])
          (.block 4
           (.loop f111l1)))
          .skip))
        (.seq (.region [⟨(some 95), .move (.tmp 2), none, .seq, [], []⟩,
          ⟨(some 96), .move (.tmp 7), none, .seq, [], []⟩,
          ⟨(some 97), .bin .sub (.tmp 95) (.tmp 96), none, .seq, [], []⟩,
          ⟨(some 98), .bin .geq (.tmp 97) (.const (.int .i64 2)), none, .seq, [], []⟩])
        (.cond (.tmp 98)
         (.seq (.region [⟨(some 99), .move (.tmp 7), none, .seq, [], []⟩,
           ⟨(some 100), .bin .add (.tmp 99) (.const (.int .i64 1)), none, .seq, [], []⟩,
           ⟨(some 10), .move (.tmp 100), none, .seq, [], []⟩])
         (.block 6
          (.loop f111l0)))
         .skip))))))))
      (.region [⟨(some 15), .move (.tmp 8), none, .seq, [], []⟩,
       ⟨(some 16), .bin .add (.tmp 15) (.const (.int .i64 1)), none, .seq, [], []⟩,
       ⟨(some 8), .move (.tmp 16), none, .seq, [], []⟩]))))

/-- slices.partialInsertionSortOrdered[int64] -/
def f111 : AFunc := ⟨3, [.tmp 6],
  (.seq (.region [⟨(some 6), .move (.const (.bool false)), none, .seq, [], []⟩])
  (.seq (.region [⟨(some 11), .move (.tmp 1), none, .seq, [], []⟩,
    ⟨(some 12), .bin .add (.tmp 11) (.const (.int .i64 1)), none, .seq, [], []⟩,
    ⟨(some 7), .move (.tmp 12), none, .seq, [], []⟩])
  (.seq (.seq (.region [⟨(some 8), .move (.const (.int .i64 0)), none, .seq, [], []⟩])
   (.block 0
    (.loop f111l3)))
  (.seq (.region [⟨(some 6), .move (.const (.bool false)), none, .seq, [], []⟩])
  .ret))))⟩

/-- cmp.Less[int64] -/
def f112 : AFunc := ⟨2, [.tmp 4],
  (.seq (.region [⟨(some 4), .move (.const (.bool false)), none, .seq, [], []⟩])
  (.seq (.region [⟨(some 5), .move (.tmp 0), none, .seq, [], []⟩,
    ⟨(some 6), .call 101 [(.tmp 5)], none, .seq, [], []⟩,
    ⟨(some 7), .move (.tmp 6), none, .seq, [], []⟩,
    ⟨(some 8), .move (.tmp 1), some (7, true), .seq, [], []⟩,
    ⟨(some 9), .call 101 [(.tmp 8)], some (7, true), .seq, [], []⟩,
    ⟨(some 10), .un .not (.tmp 9), some (7, true), .seq, [], []⟩,
    ⟨(some 11), .pick (.tmp 7) (.tmp 10) (.const (.bool false)), none, .seq, [], []⟩,
    ⟨(some 12), .move (.tmp 11), none, .seq, [], []⟩,
    ⟨(some 13), .move (.tmp 0), some (12, false), .seq, [], []⟩,
    ⟨(some 14), .move (.tmp 1), some (12, false), .seq, [], []⟩,
    ⟨(some 15), .bin .lss (.tmp 13) (.tmp 14), some (12, false), .seq, [], []⟩,
    ⟨(some 16), .pick (.tmp 12) (.const (.bool true)) (.tmp 15), none, .seq, [], []⟩,
    ⟨(some 4), .move (.tmp 16), none, .seq, [], []⟩])
  .ret))⟩

def f113l0 : ACode :=
  (.keep [0, 1, 9, 10]
           (.seq (.seq (.region [⟨(some 46), .move (.tmp 9), none, .still, [], []⟩,
              ⟨(some 47), .move (.tmp 10), none, .still, [], []⟩,
              ⟨(some 48), .bin .leq (.tmp 46) (.tmp 47), none, .still, [], []⟩,
              ⟨(some 49), .move (.tmp 48), none, .still, [], []⟩,
              ⟨(some 50), .move (.tmp 0), some (49, true), .still, [], []⟩,
              ⟨(some 51), .move (.tmp 1), some (49, true), .still, [], []⟩,
              ⟨(some 52), .indexAddr none 1 (.tmp 50) (.tmp 51), some (49, true), .still, [], []⟩,
              ⟨(some 53), .load none (.tmp 52), some (49, true), .rd, [], []⟩,
              ⟨(some 54), .move (.tmp 0), some (49, true), .still, [], []⟩,
              ⟨(some 55), .move (.tmp 10), some (49, true), .still, [], []⟩,
              ⟨(some 56), .indexAddr none 1 (.tmp 54) (.tmp 55), some (49, true), .still, [], []⟩,
              ⟨(some 57), .load none (.tmp 56), some (49, true), .rd, [], []⟩,
              ⟨(some 58), .call 112 [(.tmp 53), (.tmp 57)], some (49, true), .seq, [], []⟩,
              ⟨(some 59), .pick (.tmp 49) (.tmp 58) (.const (.bool false)), none, .still, [], []⟩])
            (.cond (.tmp 59)
             .skip
             (.exit 4)))
           (.block 5
            (.region [⟨(some 60), .move (.tmp 10), none, .seq, [], []⟩,
             ⟨(some 61), .bin .sub (.tmp 60) (.const (.int .i64 1)), none, .seq, [], []⟩,
             ⟨(some 10), .move (.tmp 61), none, .seq, [], []⟩]))))

def f113l1 : ACode :=
  (.keep [0, 1, 9, 10]
           (.seq (.seq (.region [⟨(some 29), .move (.tmp 9), none, .still, [], []⟩,
              ⟨(some 30), .move (.tmp 10), none, .still, [], []⟩,
              ⟨(some 31), .bin .leq (.tmp 29) (.tmp 30), none, .still, [], []⟩,
              ⟨(some 32), .move (.tmp 31), none, .still, [], []⟩,
              ⟨(some 33), .move (.tmp 0), some (32, true), .still, [], []⟩,
              ⟨(some 34), .move (.tmp 1), some (32, true), .still, [], []⟩,
              ⟨(some 35), .indexAddr none 1 (.tmp 33) (.tmp 34), some (32, true), .still, [], []⟩,
              ⟨(some 36), .load none (.tmp 35), some (32, true), .rd, [], []⟩,
              ⟨(some 37), .move (.tmp 0), some (32, true), .still, [], []⟩,
              ⟨(some 38), .move (.tmp 9), some (32, true), .still, [], []⟩,
              ⟨(some 39), .indexAddr none 1 (.tmp 37) (.tmp 38), some (32, true), .still, [], []⟩,
              ⟨(some 40), .load none (.tmp 39), some (32, true), .rd, [], []⟩,
              ⟨(some 41), .call 112 [(.tmp 36), (.tmp 40)], some (32, true), .seq, [], []⟩,
              ⟨(some 42), .un .not (.tmp 41), some (32, true), .still, [], []⟩,
              ⟨(some 43), .pick (.tmp 32) (.tmp 42) (.const (.bool false)), none, .still, [], []⟩])
            (.cond (.tmp 43)
             .skip
             (.exit 2)))
           (.block 3
            (.region [⟨(some 44), .move (.tmp 9), none, .seq, [], []⟩,
             ⟨(some 45), .bin .add (.tmp 44) (.const (.int .i64 1)), none, .seq, [], []⟩,
             ⟨(some 9), .move (.tmp 45), none, .seq, [], []⟩]))))

def f113l2 : ACode :=
  (.keep [0, 1, 9, 10]
      (.block 1
       (.seq (.block 2
         (.loop f113l1))
       (.seq (.block 4
         (.loop f113l0))
       (.seq (.seq (.region [⟨(some 62), .move (.tmp 9), none, .seq, [], []⟩,
          ⟨(some 63), .move (.tmp 10), none, .seq, [], []⟩,
          ⟨(some 64), .bin .gtr (.tmp 62) (.tmp 63), none, .seq, [], []⟩])
        (.cond (.tmp 64)
         (.exit 0)
         .skip))
       (.seq (.region [⟨(some 65), .move (.tmp 0), none, .still, [], []⟩,
         ⟨(some 66), .move (.tmp 9), none, .still, [], []⟩,
         ⟨(some 67), .move (.tmp 0), none, .still, [], []⟩,
         ⟨(some 68), .move (.tmp 10), none, .still, [], []⟩,
         ⟨(some 69), .move (.tmp 0), none, .still, [], []⟩,
         ⟨(some 70), .move (.tmp 10), none, .still, [], []⟩,
         ⟨(some 71), .indexAddr none 1 (.tmp 69) (.tmp 70), none, .still, [], []⟩,
         ⟨(some 72), .load none (.tmp 71), none, .rd, [], []⟩,
         ⟨(some 73), .move (.tmp 0), none, .still, [], []⟩,
         ⟨(some 74), .move (.tmp 9), none, .still, [], []⟩,
         ⟨(some 75), .indexAddr none 1 (.tmp 73) (.tmp 74), none, .still, [], []⟩,
         ⟨(some 76), .load none (.tmp 75), none, .rd, [], []⟩,
         ⟨(some 77), .indexAddr none 1 (.tmp 65) (.tmp 66), none, .still, [], []⟩,
         ⟨none, .store 1 (.tmp 77) (.tmp 72), none, .seq, [], []⟩,
         ⟨(some 78), .indexAddr none 1 (.tmp 67) (.tmp 68), none, .still, [], []⟩,
         ⟨none, .store 1 (.tmp 78) (.tmp 76), none, .seq, [], []⟩])
       (.seq (.region [⟨(some 79), .move (.tmp 9), none, .seq, [], []⟩,
         ⟨(some 80), .bin .add (.tmp 79) (.const (.int .i64 1)), none, .seq, [], []⟩,
         ⟨(some 9), .move (.tmp 80), none, .seq, [], []⟩])
       (.region [⟨(some 81), .move (.tmp 10), none, .seq, [], []⟩,
        ⟨(some 82), .bin .sub (.tmp 81) (.const (.int .i64 1)), none, .seq, [], []⟩,
        ⟨(some 10), .move (.tmp 82), none, .seq, [], []⟩]))))))))

/-- slices.partitionEqualOrdered[int64] -/
def f113 : AFunc := ⟨4, [.tmp 8],
  (.seq (.region [⟨(some 8), .move (.const (.int .i64 0)), none, .seq, [], []⟩])
  (.seq (.region [⟨(some 11), .move (.tmp 0), none, .still, [], []⟩,
    ⟨(some 12), .move (.tmp 1), none, .still, [], []⟩,
    ⟨(some 13), .move (.tmp 0), none, .still, [], []⟩,
    ⟨(some 14), .move (.tmp 3), none, .still, [], []⟩,
    ⟨(some 15), .move (.tmp 0), none, .still, [], []⟩,
    ⟨(some 16), .move (.tmp 3), none, .still, [], []⟩,
    ⟨(some 17), .indexAddr none 1 (.tmp 15) (.tmp 16), none, .still, [], []⟩,
    ⟨(some 18), .load none (.tmp 17), none, .rd, [], []⟩,
    ⟨(some 19), .move (.tmp 0), none, .still, [], []⟩,
    ⟨(some 20), .move (.tmp 1), none, .still, [], []⟩,
    ⟨(some 21), .indexAddr none 1 (.tmp 19) (.tmp 20), none, .still, [], []⟩,
    ⟨(some 22), .load none (.tmp 21), none, .rd, [], []⟩,
    ⟨(some 23), .indexAddr none 1 (.tmp 11) (.tmp 12), none, .still, [], []⟩,
    ⟨none, .store 1 (.tmp 23) (.tmp 18), none, .seq, [], []⟩,
    ⟨(some 24), .indexAddr none 1 (.tmp 13) (.tmp 14), none, .still, [], []⟩,
    ⟨none, .store 1 (.tmp 24) (.tmp 22), none, .seq, [], []⟩])
  (.seq (.region [⟨(some 25), .move (.tmp 1), none, .seq, [], []⟩,
    ⟨(some 26), .bin .add (.tmp 25) (.const (.int .i64 1)), none, .seq, [], []⟩,
    ⟨(some 27), .move (.tmp 2), none, .seq, [], []⟩,
    ⟨(some 28), .bin .sub (.tmp 27) (.const (.int .i64 1)), none, .seq, [], []⟩,
    ⟨(some 9), .move (.tmp 26), none, .seq, [], []⟩,
    ⟨(some 10), .move (.tmp 28), none, .seq, [], []⟩])
  (.seq (.block 0
    (.loop f113l2))
  (.seq (.region [⟨(some 83), .move (.tmp 9), none, .seq, [], []⟩,
    ⟨(some 8), .move (.tmp 83), none, .seq, [], []⟩])
  .ret)))))⟩

def f114l0 : ACode :=
  (.keep [0, 1, 10, 11]
           (.seq (.seq (.region [⟨(some 115), .move (.tmp 10), none, .still, [], []⟩,
              ⟨(some 116), .move (.tmp 11), none, .still, [], []⟩,
              ⟨(some 117), .bin .leq (.tmp 115) (.tmp 116), none, .still, [], []⟩,
              ⟨(some 118), .move (.tmp 117), none, .still, [], []⟩,
              ⟨(some 119), .move (.tmp 0), some (118, true), .still, [], []⟩,
              ⟨(some 120), .move (.tmp 11), some (118, true), .still, [], []⟩,
              ⟨(some 121), .indexAddr none 1 (.tmp 119) (.tmp 120), some (118, true), .still, [], []⟩,
              ⟨(some 122), .load none (.tmp 121), some (118, true), .rd, [], []⟩,
              ⟨(some 123), .move (.tmp 0), some (118, true), .still, [], []⟩,
              ⟨(some 124), .move (.tmp 1), some (118, true), .still, [], []⟩,
              ⟨(some 125), .indexAddr none 1 (.tmp 123) (.tmp 124), some (118, true), .still, [], []⟩,
              ⟨(some 126), .load none (.tmp 125), some (118, true), .rd, [], []⟩,
              ⟨(some 127), .call 112 [(.tmp 122), (.tmp 126)], some (118, true), .seq, [], []⟩,
              ⟨(some 128), .un .not (.tmp 127), some (118, true), .still, [], []⟩,
              ⟨(some 129), .pick (.tmp 118) (.tmp 128) (.const (.bool false)), none, .still, [], []⟩])
            (.cond (.tmp 129)
             .skip
             (.exit 8)))
           (.block 9
            (.region [⟨(some 130), .move (.tmp 11), none, .seq, [], []⟩,
             ⟨(some 131), .bin .sub (.tmp 130) (.const (.int .i64 1)), none, .seq, [], []⟩,
             ⟨(some 11), .move (.tmp 131), none, .seq, [], []⟩]))))

def f114l1 : ACode :=
  (.keep [0, 1, 10, 11]
           (.seq (.seq (.region [⟨(some 99), .move (.tmp 10), none, .still, [], []⟩,
              ⟨(some 100), .move (.tmp 11), none, .still, [], []⟩,
              ⟨(some 101), .bin .leq (.tmp 99) (.tmp 100), none, .still, [], []⟩,
              ⟨(some 102), .move (.tmp 101), none, .still, [], []⟩,
              ⟨(some 103), .move (.tmp 0), some (102, true), .still, [], []⟩,
              ⟨(some 104), .move (.tmp 10), some (102, true), .still, [], []⟩,
              ⟨(some 105), .indexAddr none 1 (.tmp 103) (.tmp 104), some (102, true), .still, [], []⟩,
              ⟨(some 106), .load none (.tmp 105), some (102, true), .rd, [], []⟩,
              ⟨(some 107), .move (.tmp 0), some (102, true), .still, [], []⟩,
              ⟨(some 108), .move (.tmp 1), some (102, true), .still, [], []⟩,
              ⟨(some 109), .indexAddr none 1 (.tmp 107) (.tmp 108), some (102, true), .still, [], []⟩,
              ⟨(some 110), .load none (.tmp 109), some (102, true), .rd, [], []⟩,
              ⟨(some 111), .call 112 [(.tmp 106), (.tmp 110)], some (102, true), .seq, [], []⟩,
              ⟨(some 112), .pick (.tmp 102) (.tmp 111) (.const (.bool false)), none, .still, [], []⟩])
            (.cond (.tmp 112)
             .skip
             (.exit 6)))
           (.block 7
            (.region [⟨(some 113), .move (.tmp 10), none, .seq, [], []⟩,
             ⟨(some 114), .bin .add (.tmp 113) (.const (.int .i64 1)), none, .seq, [], []⟩,
             ⟨(some 10), .move (.tmp 114), none, .seq, [], []⟩]))))

def f114l2 : ACode :=
  (.keep [0, 1, 10, 11]
      (.block 5
       (.seq (.block 6
         (.loop f114l1))
       (.seq (.block 8
         (.loop f114l0))
       (.seq (.seq (.region [⟨(some 132), .move (.tmp 10), none, .seq, [], []⟩,
          ⟨(some 133), .move (.tmp 11), none, .seq, [], []⟩,
          ⟨(some 134), .bin .gtr (.tmp 132) (.tmp 133), none, .seq, [], []⟩])
        (.cond (.tmp 134)
         (.exit 4)
         .skip))
       (.seq (.region [⟨(some 135), .move (.tmp 0), none, .still, [], []⟩,
         ⟨(some 136), .move (.tmp 10), none, .still, [], []⟩,
         ⟨(some 137), .move (.tmp 0), none, .still, [], []⟩,
         ⟨(some 138), .move (.tmp 11), none, .still, [], []⟩,
         ⟨(some 139), .move (.tmp 0), none, .still, [], []⟩,
         ⟨(some 140), .move (.tmp 11), none, .still, [], []⟩,
         ⟨(some 141), .indexAddr none 1 (.tmp 139) (.tmp 140), none, .still, [], []⟩,
         ⟨(some 142), .load none (.tmp 141), none, .rd, [], []⟩,
         ⟨(some 143), .move (.tmp 0), none, .still, [], []⟩,
         ⟨(some 144), .move (.tmp 10), none, .still, [], []⟩,
         ⟨(some 145), .indexAddr none 1 (.tmp 143) (.tmp 144), none, .still, [], []⟩,
         ⟨(some 146), .load none (.tmp 145), none, .rd, [], []⟩,
         ⟨(some 147), .indexAddr none 1 (.tmp 135) (.tmp 136), none, .still, [], []⟩,
         ⟨none, .store 1 (.tmp 147) (.tmp 142), none, .seq, [], []⟩,
         ⟨(some 148), .indexAddr none 1 (.tmp 137) (.tmp 138), none, .still, [], []⟩,
         ⟨none, .store 1 (.tmp 148) (.tmp 146), none, .seq, [], []⟩])
       (.seq (.region [⟨(some 149), .move (.tmp 10), none, .seq, [], []⟩,
         ⟨(some 150), .bin .add (.tmp 149) (.const (.int .i64 1)), none, .seq, [], []⟩,
         ⟨(some 10), .move (.tmp 150), none, .seq, [], []⟩])
       (.region [⟨(some 151), .move (.tmp 11), none, .seq, [], []⟩,
        ⟨(some 152), .bin .sub (.tmp 151) (.const (.int .i64 1)), none, .seq, [], []⟩,
        ⟨(some 11), .move (.tmp 152), none, .seq, [], []⟩]))))))))

def f114l3 : ACode :=
  (.keep [0, 1, 10, 11]
      (.seq (.seq (.region [⟨(some 46), .move (.tmp 10), none, .still, [], []⟩,
         ⟨(some 47), .move (.tmp 11), none, .still, [], []⟩,
         ⟨(some 48), .bin .leq (.tmp 46) (.tmp 47), none, .still, [], []⟩,
         ⟨(some 49), .move (.tmp 48), none, .still, [], []⟩,
         ⟨(some 50), .move (.tmp 0), some (49, true), .still, [], []⟩,
         ⟨(some 51), .move (.tmp 11), some (49, true), .still, [], []⟩,
         ⟨(some 52), .indexAddr none 1 (.tmp 50) (.tmp 51), some (49, true), .still, [], []⟩,
         ⟨(some 53), .load none (.tmp 52), some (49, true), .rd, [], []⟩,
         ⟨(some 54), .move (.tmp 0), some (49, true), .still, [], []⟩,
         ⟨(some 55), .move (.tmp 1), some (49, true), .still, [], []⟩,
         ⟨(some 56), .indexAddr none 1 (.tmp 54) (.tmp 55), some (49, true), .still, [], []⟩,
         ⟨(some 57), .load none (.tmp 56), some (49, true), .rd, [], []⟩,
         ⟨(some 58), .call 112 [(.tmp 53), (.tmp 57)], some (49, true), .seq, [], []⟩,
         ⟨(some 59), .un .not (.tmp 58), some (49, true), .still, [], []⟩,
         ⟨(some 60), .pick (.tmp 49) (.tmp 59) (.const (.bool false)), none, .still, [], []⟩])
       (.cond (.tmp 60)
        .skip
        (.exit 2)))
      (.block 3
       (.region [⟨(some 61), .move (.tmp 11), none, .seq, [], []⟩,
        ⟨(some 62), .bin .sub (.tmp 61) (.const (.int .i64 1)), none, .seq, [], []⟩,
        ⟨(some 11), .move (.tmp 62), none, .seq, [], []⟩]))))

def f114l4 : ACode :=
  (.keep [0, 1, 10, 11]
      (.seq (.seq (.region [⟨(some 30), .move (.tmp 10), none, .still, [], []⟩,
         ⟨(some 31), .move (.tmp 11), none, .still, [], []⟩,
         ⟨(some 32), .bin .leq (.tmp 30) (.tmp 31), none, .still, [], []⟩,
         ⟨(some 33), .move (.tmp 32), none, .still, [], []⟩,
         ⟨(some 34), .move (.tmp 0), some (33, true), .still, [], []⟩,
         ⟨(some 35), .move (.tmp 10), some (33, true), .still, [], []⟩,
         ⟨(some 36), .indexAddr none 1 (.tmp 34) (.tmp 35), some (33, true), .still, [], []⟩,
         ⟨(some 37), .load none (.tmp 36), some (33, true), .rd, [], []⟩,
         ⟨(some 38), .move (.tmp 0), some (33, true), .still, [], []⟩,
         ⟨(some 39), .move (.tmp 1), some (33, true), .still, [], []⟩,
         ⟨(some 40), .indexAddr none 1 (.tmp 38) (.tmp 39), some (33, true), .still, [], []⟩,
         ⟨(some 41), .load none (.tmp 40), some (33, true), .rd, [], []⟩,
         ⟨(some 42), .call 112 [(.tmp 37), (.tmp 41)], some (33, true), .seq, [], []⟩,
         ⟨(some 43), .pick (.tmp 33) (.tmp 42) (.const (.bool false)), none, .still, [], []⟩])
       (.cond (.tmp 43)
        .skip
        (.exit 0)))
      (.block 1
       (.region [⟨(some 44), .move (.tmp 10), none, .seq, [], []⟩,
        ⟨(some 45), .bin .add (.tmp 44) (.const (.int .i64 1)), none, .seq, [], []⟩,
        ⟨(some 10), .move (.tmp 45), none, .seq, [], []⟩]))))

/-- slices.partitionOrdered[int64] -/
def f114 : AFunc := ⟨4, [.tmp 8, .tmp 9],
  (.seq (.region [⟨(some 8), .move (.const (.int .i64 0)), none, .seq, [], []⟩,
    ⟨(some 9), .move (.const (.bool false)), none, .seq, [], []⟩])
  (.seq (.region [⟨(some 12), .move (.tmp 0), none, .still, [], []⟩,
    ⟨(some 13), .move (.tmp 1), none, .still, [], []⟩,
    ⟨(some 14), .move (.tmp 0), none, .still, [], []⟩,
    ⟨(some 15), .move (.tmp 3), none, .still, [], []⟩,
    ⟨(some 16), .move (.tmp 0), none, .still, [], []⟩,
    ⟨(some 17), .move (.tmp 3), none, .still, [], []⟩,
    ⟨(some 18), .indexAddr none 1 (.tmp 16) (.tmp 17), none, .still, [], []⟩,
    ⟨(some 19), .load none (.tmp 18), none, .rd, [], []⟩,
    ⟨(some 20), .move (.tmp 0), none, .still, [], []⟩,
    ⟨(some 21), .move (.tmp 1), none, .still, [], []⟩,
    ⟨(some 22), .indexAddr none 1 (.tmp 20) (.tmp 21), none, .still, [], []⟩,
    ⟨(some 23), .load none (.tmp 22), none, .rd, [], []⟩,
    ⟨(some 24), .indexAddr none 1 (.tmp 12) (.tmp 13), none, .still, [], []⟩,
    ⟨none, .store 1 (.tmp 24) (.tmp 19), none, .seq, [], []⟩,
    ⟨(some 25), .indexAddr none 1 (.tmp 14) (.tmp 15), none, .still, [], []⟩,
    ⟨none, .store 1 (.tmp 25) (.tmp 23), none, .seq, [], []⟩])
  (.seq (.region [⟨(some 26), .move (.tmp 1), none, .seq, [], []⟩,
    ⟨(some 27), .bin .add (.tmp 26) (.const (.int .i64 1)), none, .seq, [], []⟩,
    ⟨(some 28), .move (.tmp 2), none, .seq, [], []⟩,
    ⟨(some 29), .bin .sub (.tmp 28) (.const (.int .i64 1)), none, .seq, [], []⟩,
    ⟨(some 10), .move (.tmp 27), none, .seq, [], []⟩,
    ⟨(some 11), .move (.tmp 29), none, .seq, [], []⟩])
  (.seq (.block 0
    (.loop f114l4))
  (.seq (.block 2
    (.loop f114l3))
  (.seq (.seq (.region [⟨(some 63), .move (.tmp 10), none, .seq, [], []⟩,
     ⟨(some 64), .move (.tmp 11), none, .seq, [], []⟩,
     ⟨(some 65), .bin .gtr (.tmp 63) (.tmp 64), none, .seq, [], []⟩])
   (.cond (.tmp 65)
    (.seq (.region [⟨(some 66), .move (.tmp 0), none, .still, [], []⟩,
      ⟨(some 67), .move (.tmp 11), none, .still, [], []⟩,
      ⟨(some 68), .move (.tmp 0), none, .still, [], []⟩,
      ⟨(some 69), .move (.tmp 1), none, .still, [], []⟩,
      ⟨(some 70), .move (.tmp 0), none, .still, [], []⟩,
      ⟨(some 71), .move (.tmp 1), none, .still, [], []⟩,
      ⟨(some 72), .indexAddr none 1 (.tmp 70) (.tmp 71), none, .still, [], []⟩,
      ⟨(some 73), .load none (.tmp 72), none, .rd, [], []⟩,
      ⟨(some 74), .move (.tmp 0), none, .still, [], []⟩,
      ⟨(some 75), .move (.tmp 11), none, .still, [], []⟩,
      ⟨(some 76), .indexAddr none 1 (.tmp 74) (.tmp 75), none, .still, [], []⟩,
      ⟨(some 77), .load none (.tmp 76), none, .rd, [], []⟩,
      ⟨(some 78), .indexAddr none 1 (.tmp 66) (.tmp 67), none, .still, [], []⟩,
      ⟨none, .store 1 (.tmp 78) (.tmp 73), none, .seq, [], []⟩,
      ⟨(some 79), .indexAddr none 1 (.tmp 68) (.tmp 69), none, .still, [], []⟩,
      ⟨none, .store 1 (.tmp 79) (.tmp 77), none, .seq, [], []⟩])
    (.seq (.region [⟨(some 80), .move (.tmp 11), none, .seq, [], []⟩,
      ⟨(some 8), .move (.tmp 80), none, .seq, [], []⟩,
      ⟨(some 9), .move (.const (.bool true)), none, .seq, [], []⟩])
    .ret))
    .skip))
  (.seq (.region [⟨(some 81), .move (.tmp 0), none, .still, [], []⟩,
    ⟨(some 82), .move (.tmp 10), none, .still, [], []⟩,
    ⟨(some 83), .move (.tmp 0), none, .still, [], []⟩,
    ⟨(some 84), .move (.tmp 11), none, .still, [], []⟩,
    ⟨(some 85), .move (.tmp 0), none, .still, [], []⟩,
    ⟨(some 86), .move (.tmp 11), none, .still, [], []⟩,
    ⟨(some 87), .indexAddr none 1 (.tmp 85) (.tmp 86), none, .still, [], []⟩,
    ⟨(some 88), .load none (.tmp 87), none, .rd, [], []⟩,
    ⟨(some 89), .move (.tmp 0), none, .still, [], []⟩,
    ⟨(some 90), .move (.tmp 10), none, .still, [], []⟩,
    ⟨(some 91), .indexAddr none 1 (.tmp 89) (.tmp 90), none, .still, [], []⟩,
    ⟨(some 92), .load none (.tmp 91), none, .rd, [], []⟩,
    ⟨(some 93), .indexAddr none 1 (.tmp 81) (.tmp 82), none, .still, [], []⟩,
    ⟨none, .store 1 (.tmp 93) (.tmp 88), none, .seq, [], []⟩,
    ⟨(some 94), .indexAddr none 1 (.tmp 83) (.tmp 84), none, .still, [], []⟩,
    ⟨none, .store 1 (.tmp 94) (.tmp 92), none, .seq, [], []⟩])
  (.seq (.region [⟨(some 95), .move (.tmp 10), none, .seq, [], []⟩,
    ⟨(some 96), .bin .add (.tmp 95) (.const (.int .i64 1)), none, .seq, [], []⟩,
    ⟨(some 10), .move (.tmp 96), none, .seq, [], []⟩])
  (.seq (.region [⟨(some 97), .move (.tmp 11), none, .seq, [], []⟩,
    ⟨(some 98), .bin .sub (.tmp 97) (.const (.int .i64 1)), none, .seq, [], []⟩,
    ⟨(some 11), .move (.tmp 98), none, .seq, [], []⟩])
  (.seq (.block 4
    (.loop f114l2))
  (.seq (.region [⟨(some 153), .move (.tmp 0), none, .still, [], []⟩,
    ⟨(some 154), .move (.tmp 11), none, .still, [], []⟩,
    ⟨(some 155), .move (.tmp 0), none, .still, [], []⟩,
    ⟨(some 156), .move (.tmp 1), none, .still, [], []⟩,
    ⟨(some 157), .move (.tmp 0), none, .still, [], []⟩,
    ⟨(some 158), .move (.tmp 1), none, .still, [], []⟩,
    ⟨(some 159), .indexAddr none 1 (.tmp 157) (.tmp 158), none, .still, [], []⟩,
    ⟨(some 160), .load none (.tmp 159), none, .rd, [], []⟩,
    ⟨(some 161), .move (.tmp 0), none, .still, [], []⟩,
    ⟨(some 162), .move (.tmp 11), none, .still, [], []⟩,
    ⟨(some 163), .indexAddr none 1 (.tmp 161) (.tmp 162), none, .still, [], []⟩,
    ⟨(some 164), .load none (.tmp 163), none, .rd, [], []⟩,
    ⟨(some 165), .indexAddr none 1 (.tmp 153) (.tmp 154), none, .still, [], []⟩,
    ⟨none, .store 1 (.tmp 165) (.tmp 160), none, .seq, [], []⟩,
    ⟨(some 166), .indexAddr none 1 (.tmp 155) (.tmp 156), none, .still, [], []⟩,
    ⟨none, .store 1 (.tmp 166) (.tmp 164), none, .seq, [], []⟩])
  (.seq (.region [⟨(some 167), .move (.tmp 11), none, .seq, [], []⟩,
    ⟨(some 8), .move (.tmp 167), none, .seq, [], []⟩,
    ⟨(some 9), .move (.const (.bool false)), none, .seq, [], []⟩])
  .ret))))))))))))⟩

/-- math/bits.Len32 -/
def f115 : AFunc := ⟨1, [.tmp 2],
  (.seq (.region [⟨(some 2), .move (.const (.int .i64 0)), none, .seq, [], []⟩])
  (.seq (.seq (.region [⟨(some 3), .move (.tmp 0), none, .seq, [], []⟩,
     ⟨(some 4), .bin .geq (.tmp 3) (.const (.int .u32 65536)), none, .seq, [], []⟩])
   (.cond (.tmp 4)
    (.seq (.region [⟨(some 5), .move (.tmp 0), none, .seq, [], []⟩,
      ⟨(some 6), .bin .shr (.tmp 5) (.const (.int .u64 16)), none, .seq, [], []⟩,
      ⟨(some 0), .move (.tmp 6), none, .seq, [], []⟩])
    (.region [⟨(some 2), .move (.const (.int .i64 16)), none, .seq, [], []⟩]))
    .skip))
  (.seq (.seq (.region [⟨(some 7), .move (.tmp 0), none, .seq, [], []⟩,
     ⟨(some 8), .bin .geq (.tmp 7) (.const (.int .u32 256)), none, .seq, [], []⟩])
   (.cond (.tmp 8)
    (.seq (.region [⟨(some 9), .move (.tmp 0), none, .seq, [], []⟩,
      ⟨(some 10), .bin .shr (.tmp 9) (.const (.int .u64 8)), none, .seq, [], []⟩,
      ⟨(some 0), .move (.tmp 10), none, .seq, [], []⟩])
    (.region [⟨(some 11), .move (.tmp 2), none, .seq, [], []⟩,
     ⟨(some 12), .bin .add (.tmp 11) (.const (.int .i64 8)), none, .seq, [], []⟩,
     ⟨(some 2), .move (.tmp 12), none, .seq, [], []⟩]))
    .skip))
  (.seq (.region [⟨(some 13), .move (.tmp 2), none, .seq, [], []⟩,
    ⟨(some 14), .move (.tmp 0), none, .seq, [], []⟩,
    ⟨(some 15), .convInt .u8 (.tmp 14), none, .seq, [], []⟩,
    ⟨(some 16), .indexStr (.const (.string ⟨#[0, 1, 2, 2, 3, 3, 3, 3, 4, 4, 4, 4, 4, 4, 4, 4, 5, 5, 5, 5, 5, 5, 5, 5, 5, 5, 5, 5, 5, 5, 5, 5, 6, 6, 6, 6, 6, 6, 6, 6, 6, 6, 6, 6, 6, 6, 6, 6, 6, 6, 6, 6, 6, 6, 6, 6, 6, 6, 6, 6, 6, 6, 6, 6, 7, 7, 7, 7, 7, 7, 7, 7, 7, 7, 7, 7, 7, 7, 7, 7, 7, 7, 7, 7, 7, 7, 7, 7, 7, 7, 7, 7, 7, 7, 7, 7, 7, 7, 7, 7, 7, 7, 7, 7, 7, 7, 7, 7, 7, 7, 7, 7, 7, 7, 7, 7, 7, 7, 7, 7, 7, 7, 7, 7, 7, 7, 7, 7, 8, 8, 8, 8, 8, 8, 8, 8, 8, 8, 8, 8, 8, 8, 8, 8, 8, 8, 8, 8, 8, 8, 8, 8, 8, 8, 8, 8, 8, 8, 8, 8, 8, 8, 8, 8, 8, 8, 8, 8, 8, 8, 8, 8, 8, 8, 8, 8, 8, 8, 8, 8, 8, 8, 8, 8, 8, 8, 8, 8, 8, 8, 8, 8, 8, 8, 8, 8, 8, 8, 8, 8, 8, 8, 8, 8, 8, 8, 8, 8, 8, 8, 8, 8, 8, 8, 8, 8, 8, 8, 8, 8, 8, 8, 8, 8, 8, 8, 8, 8, 8, 8, 8, 8, 8, 8, 8, 8, 8, 8, 8, 8, 8, 8, 8, 8, 8, 8, 8, 8, 8, 8, 8, 8, 8, 8, 8, 8]⟩)) (.tmp 15), none, .seq, [], []⟩,
    ⟨(some 17), .convInt .i64 (.tmp 16), none, .seq, [], []⟩,
    ⟨(some 18), .bin .add (.tmp 13) (.tmp 17), none, .seq, [], []⟩,
    ⟨(some 2), .move (.tmp 18), none, .seq, [], []⟩])
  .ret))))⟩

end Go.Proofs.Ytbhgncfbljkdgaa.Fn
