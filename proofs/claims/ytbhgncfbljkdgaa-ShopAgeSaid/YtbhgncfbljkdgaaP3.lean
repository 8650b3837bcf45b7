/-
  The abstract code of the functions that the laws reach, part 3. Printed by a program (Emit.lean).
-/
import Derived.Test.YtbhgncfbljkdgaaA1
namespace Go.Proofs.Ytbhgncfbljkdgaa.Fn
open Go Go.Proofs.Ytbhgncfbljkdgaa.AI

/-- forecourt/forecourtref11.Days -/
def f47 : AFunc := ⟨2, [.tmp 4],
  (.seq (.region [⟨(some 4), .move (.const (.int .i64 0)), none, .seq, [], []⟩])
  (.seq (.seq (.region [⟨(some 5), .move (.tmp 1), none, .seq, [], []⟩,
     ⟨(some 6), .bin .eql (.tmp 5) (.const (.int .i64 2)), none, .seq, [], []⟩,
     ⟨(some 7), .move (.tmp 6), none, .seq, [], []⟩,
     ⟨(some 8), .move (.tmp 0), some (7, true), .seq, [], []⟩,
     ⟨(some 9), .bin .rem (.tmp 8) (.const (.int .i64 4)), some (7, true), .seq, [], []⟩,
     ⟨(some 10), .bin .eql (.tmp 9) (.const (.int .i64 0)), some (7, true), .seq, [], []⟩,
     ⟨(some 11), .move (.tmp 10), some (7, true), .seq, [], []⟩,
     ⟨(some 12), .move (.tmp 0), some (11, true), .seq, [], []⟩,
     ⟨(some 13), .bin .rem (.tmp 12) (.const (.int .i64 100)), some (11, true), .seq, [], []⟩,
     ⟨(some 14), .bin .neq (.tmp 13) (.const (.int .i64 0)), some (11, true), .seq, [], []⟩,
     ⟨(some 15), .pick (.tmp 11) (.tmp 14) (.const (.bool false)), some (7, true), .seq, [], []⟩,
     ⟨(some 16), .move (.tmp 15), some (7, true), .seq, [], []⟩,
     ⟨(some 17), .move (.tmp 0), some (16, false), .seq, [], []⟩,
     ⟨(some 18), .bin .rem (.tmp 17) (.const (.int .i64 400)), some (16, false), .seq, [], []⟩,
     ⟨(some 19), .bin .eql (.tmp 18) (.const (.int .i64 0)), some (16, false), .seq, [], []⟩,
     ⟨(some 20), .pick (.tmp 16) (.const (.bool true)) (.tmp 19), some (7, true), .seq, [], []⟩,
     ⟨(some 21), .pick (.tmp 7) (.tmp 20) (.const (.bool false)), none, .seq, [], []⟩])
   (.cond (.tmp 21)
    (.seq (.region [⟨(some 4), .move (.const (.int .i64 29)), none, .seq, [], []⟩])
    .ret)
    .skip))
  (.seq (.seq (.region [⟨(some 22), .move (.tmp 1), none, .seq, [], []⟩,
     ⟨(some 23), .bin .eql (.tmp 22) (.const (.int .i64 2)), none, .seq, [], []⟩])
   (.cond (.tmp 23)
    (.seq (.region [⟨(some 4), .move (.const (.int .i64 28)), none, .seq, [], []⟩])
    .ret)
    .skip))
  (.seq (.seq (.region [⟨(some 24), .move (.tmp 1), none, .seq, [], []⟩,
     ⟨(some 25), .bin .eql (.tmp 24) (.const (.int .i64 4)), none, .seq, [], []⟩,
     ⟨(some 26), .move (.tmp 25), none, .seq, [], []⟩,
     ⟨(some 27), .move (.tmp 1), some (26, false), .seq, [], []⟩,
     ⟨(some 28), .bin .eql (.tmp 27) (.const (.int .i64 6)), some (26, false), .seq, [], []⟩,
     ⟨(some 29), .pick (.tmp 26) (.const (.bool true)) (.tmp 28), none, .seq, [], []⟩,
     ⟨(some 30), .move (.tmp 29), none, .seq, [], []⟩,
     ⟨(some 31), .move (.tmp 1), some (30, false), .seq, [], []⟩,
     ⟨(some 32), .bin .eql (.tmp 31) (.const (.int .i64 9)), some (30, false), .seq, [], []⟩,
     ⟨(some 33), .pick (.tmp 30) (.const (.bool true)) (.tmp 32), none, .seq, [], []⟩,
     ⟨(some 34), .move (.tmp 33), none, .seq, [], []⟩,
     ⟨(some 35), .move (.tmp 1), some (34, false), .seq, [], []⟩,
     ⟨(some 36), .bin .eql (.tmp 35) (.const (.int .i64 11)), some (34, false), .seq, [], []⟩,
     ⟨(some 37), .pick (.tmp 34) (.const (.bool true)) (.tmp 36), none, .seq, [], []⟩])
   (.cond (.tmp 37)
    (.seq (.region [⟨(some 4), .move (.const (.int .i64 30)), none, .seq, [], []⟩])
    .ret)
    .skip))
  (.seq (.region [⟨(some 4), .move (.const (.int .i64 31)), none, .seq, [], []⟩])
  .ret)))))⟩

/-- forecourt/forecourtlaw11.Day -/
def f48 : AFunc := ⟨0, [.cell 0 (some 3)],
  (.seq (.region [⟨(some 0), .alloc [(.int .i64 0), (.int .i64 0), (.slice none 0 0)], none, .seq, [], []⟩])
  (.seq (.region [⟨(some 1), .call 43 [(.const (.int .i64 0)), (.const (.int .i64 1)), (.const (.int .i64 5))], none, .seq, [], []⟩,
    ⟨(some 2), .call 43 [(.const (.int .i64 0)), (.const (.int .i64 0)), (.const (.int .i64 4))], none, .seq, [], []⟩,
    ⟨(some 3), .call 43 [(.const (.int .i64 1)), (.const (.int .i64 1)), (.const (.int .i64 6))], none, .seq, [], []⟩,
    ⟨(some 4), .call 43 [(.const (.int .i64 1)), (.const (.int .i64 3)), (.const (.int .i64 2))], none, .seq, [], []⟩,
    ⟨(some 5), .call 43 [(.const (.int .i64 3)), (.const (.int .i64 3)), (.const (.int .i64 2))], none, .seq, [], []⟩,
    ⟨(some 6), .buildSlice 3 [(.int .i64 0), (.int .i64 0), (.int .i64 0)] 5 [(0, (.tmp 1)), (1, (.tmp 2)), (2, (.tmp 3)), (3, (.tmp 4)), (4, (.tmp 5))], none, .seq, [], []⟩,
    ⟨(some 7), .build [(.int .i64 0), (.int .i64 0), (.slice none 0 0)] (.list [(0, 1), (1, 1), (2, 1)]) [(0, (.const (.int .i64 4))), (1, (.const (.int .i64 1))), (2, (.tmp 6))], none, .seq, [], []⟩,
    ⟨none, .store 3 (.tmp 0) (.tmp 7), none, .seq, [], []⟩])
  .ret))⟩

/-- forecourt/forecourtlaw11.price -/
def f49 : AFunc := ⟨3, [.cell 6 (some 3)],
  (.seq (.region [⟨(some 6), .alloc [(.int .i64 0), (.int .i64 0), (.int .i64 0)], none, .seq, [], []⟩])
  (.seq (.region [⟨(some 7), .move (.tmp 0), none, .seq, [], []⟩,
    ⟨(some 8), .move (.tmp 1), none, .seq, [], []⟩,
    ⟨(some 9), .move (.tmp 2), none, .seq, [], []⟩,
    ⟨(some 10), .build [(.int .i64 0), (.int .i64 0), (.int .i64 0)] (.list [(0, 1), (1, 1), (2, 1)]) [(0, (.tmp 7)), (1, (.tmp 8)), (2, (.tmp 9))], none, .seq, [], []⟩,
    ⟨none, .store 3 (.tmp 6) (.tmp 10), none, .seq, [], []⟩])
  .ret))⟩

/-- forecourt/forecourtlaw11.date -/
def f50 : AFunc := ⟨3, [.cell 6 (some 3)],
  (.seq (.region [⟨(some 6), .alloc [(.int .i64 0), (.int .i64 0), (.int .i64 0)], none, .seq, [], []⟩])
  (.seq (.region [⟨(some 7), .move (.tmp 0), none, .seq, [], []⟩,
    ⟨(some 8), .move (.tmp 1), none, .seq, [], []⟩,
    ⟨(some 9), .move (.tmp 2), none, .seq, [], []⟩,
    ⟨(some 10), .build [(.int .i64 0), (.int .i64 0), (.int .i64 0)] (.list [(0, 1), (1, 1), (2, 1)]) [(0, (.tmp 7)), (1, (.tmp 8)), (2, (.tmp 9))], none, .seq, [], []⟩,
    ⟨none, .store 3 (.tmp 6) (.tmp 10), none, .seq, [], []⟩])
  .ret))⟩

def f51l0 : ACode :=
  (.keep [0, 3, 4]
      (.seq (.seq (.region [⟨(some 12), .move (.tmp 4), none, .seq, [], []⟩,
         ⟨(some 13), .move (.tmp 0), none, .seq, [], []⟩,
         ⟨(some 14), .len .sl (.tmp 13), none, .seq, [], []⟩,
         ⟨(some 15), .bin .lss (.tmp 12) (.tmp 14), none, .seq, [], []⟩])
       (.cond (.tmp 15)
        .skip
        (.exit 0)))
      (.seq (.block 1
        (.region [⟨(some 18), .move (.tmp 3), none, .seq, [], []⟩,
         ⟨(some 19), .move (.tmp 0), none, .seq, [], []⟩,
         ⟨(some 20), .move (.tmp 4), none, .seq, [], []⟩,
         ⟨(some 21), .indexAddr none 1 (.tmp 19) (.tmp 20), none, .seq, [], []⟩,
         ⟨(some 22), .load none (.tmp 21), none, .seq, [], []⟩,
         ⟨(some 23), .minmax true [(.tmp 18), (.tmp 22)], none, .seq, [], []⟩,
         ⟨(some 3), .move (.tmp 23), none, .seq, [], []⟩]))
      (.region [⟨(some 16), .move (.tmp 4), none, .seq, [], []⟩,
       ⟨(some 17), .bin .add (.tmp 16) (.const (.int .i64 1)), none, .seq, [], []⟩,
       ⟨(some 4), .move (.tmp 17), none, .seq, [], []⟩]))))

/-- slices.Max[[]int,int] -/
def f51 : AFunc := ⟨1, [.tmp 2],
  (.seq (.region [⟨(some 2), .move (.const (.int .i64 0)), none, .seq, [], []⟩])
  (.seq (.seq (.region [⟨(some 5), .move (.tmp 0), none, .seq, [], []⟩,
     ⟨(some 6), .len .sl (.tmp 5), none, .seq, [], []⟩,
     ⟨(some 7), .bin .lss (.tmp 6) (.const (.int .i64 1)), none, .seq, [], []⟩])
   (.cond (.tmp 7)
    (.region [⟨(some 8), .bad, none, .seq, [], []⟩,
     ⟨none, .bad, none, .seq, [], []⟩])
    .skip))
  (.seq (.region [⟨(some 9), .move (.tmp 0), none, .seq, [], []⟩,
    ⟨(some 10), .indexAddr none 1 (.tmp 9) (.const (.int .i64 0)), none, .seq, [], []⟩,
    ⟨(some 11), .load none (.tmp 10), none, .seq, [], []⟩,
    ⟨(some 3), .move (.tmp 11), none, .seq, [], []⟩])
  (.seq (.seq (.region [⟨(some 4), .move (.const (.int .i64 1)), none, .seq, [], []⟩])
   (.block 0
    (.loop f51l0)))
  (.seq (.region [⟨(some 24), .move (.tmp 3), none, .seq, [], []⟩,
    ⟨(some 2), .move (.tmp 24), none, .seq, [], []⟩])
  .ret)))))⟩

/-- slices.ContainsFunc[[]forecourt/api.ShopCar,forecourt/api.ShopCar] -/
def f52 : AFunc := ⟨2, [.tmp 4],
  (.seq (.region [⟨(some 4), .move (.const (.bool false)), none, .seq, [], []⟩])
  (.seq (.region [⟨(some 5), .move (.tmp 0), none, .seq, [], []⟩,
    ⟨(some 6), .move (.tmp 1), none, .seq, [], []⟩,
    ⟨(some 7), .call 77 [(.tmp 5), (.tmp 6)], none, .seq, [], []⟩,
    ⟨(some 8), .bin .geq (.tmp 7) (.const (.int .i64 0)), none, .seq, [], []⟩,
    ⟨(some 4), .move (.tmp 8), none, .seq, [], []⟩])
  .ret))⟩

/-- forecourt/shop.CheckDay$1 -/
def f53 : AFunc := ⟨2, [.tmp 3],
  (.seq (.region [⟨(some 2), .box (.tmp 0), none, .seq, [], []⟩,
    ⟨(some 3), .move (.const (.bool false)), none, .seq, [], []⟩])
  (.seq (.region [⟨(some 4), .load (some 3) (.tmp 1), none, .seq, [], []⟩,
    ⟨(some 5), .fieldAddr 0 (.tmp 2), none, .seq, [], []⟩,
    ⟨(some 6), .load none (.tmp 5), none, .seq, [], []⟩,
    ⟨(some 7), .fieldAddr 1 (.tmp 2), none, .seq, [], []⟩,
    ⟨(some 8), .load none (.tmp 7), none, .seq, [], []⟩,
    ⟨(some 9), .call 54 [(.tmp 4), (.tmp 6), (.tmp 8)], none, .seq, [], []⟩,
    ⟨(some 10), .un .not (.tmp 9), none, .seq, [], []⟩,
    ⟨(some 11), .move (.tmp 10), none, .seq, [], []⟩,
    ⟨(some 12), .fieldAddr 2 (.tmp 2), some (11, false), .seq, [], []⟩,
    ⟨(some 13), .load none (.tmp 12), some (11, false), .seq, [], []⟩,
    ⟨(some 14), .buildSlice 1 [(.int .i64 0)] 1 [(0, (.tmp 13))], some (11, false), .seq, [], []⟩,
    ⟨(some 15), .call 55 [(.const (.int .i64 0)), (.const (.int .i64 1000)), (.tmp 14)], some (11, false), .seq, [], []⟩,
    ⟨(some 16), .un .not (.tmp 15), some (11, false), .seq, [], []⟩,
    ⟨(some 17), .pick (.tmp 11) (.const (.bool true)) (.tmp 16), none, .seq, [], []⟩,
    ⟨(some 3), .move (.tmp 17), none, .seq, [], []⟩])
  .ret))⟩

/-- forecourt/shop.isWindow -/
def f54 : AFunc := ⟨3, [.tmp 6],
  (.seq (.region [⟨(some 3), .box (.tmp 0), none, .seq, [], []⟩,
    ⟨(some 6), .move (.const (.bool false)), none, .seq, [], []⟩])
  (.seq (.region [⟨(some 7), .move (.tmp 1), none, .seq, [], []⟩,
    ⟨(some 8), .move (.tmp 2), none, .seq, [], []⟩,
    ⟨(some 9), .bin .leq (.tmp 7) (.tmp 8), none, .seq, [], []⟩,
    ⟨(some 10), .move (.tmp 9), none, .seq, [], []⟩,
    ⟨(some 11), .fieldAddr 0 (.tmp 3), some (10, true), .seq, [], []⟩,
    ⟨(some 12), .load none (.tmp 11), some (10, true), .seq, [], []⟩,
    ⟨(some 13), .bin .sub (.tmp 12) (.const (.int .i64 1)), some (10, true), .seq, [], []⟩,
    ⟨(some 14), .move (.tmp 1), some (10, true), .seq, [], []⟩,
    ⟨(some 15), .move (.tmp 2), some (10, true), .seq, [], []⟩,
    ⟨(some 16), .buildSlice 1 [(.int .i64 0)] 2 [(0, (.tmp 14)), (1, (.tmp 15))], some (10, true), .seq, [], []⟩,
    ⟨(some 17), .call 55 [(.const (.int .i64 0)), (.tmp 13), (.tmp 16)], some (10, true), .seq, [], []⟩,
    ⟨(some 18), .pick (.tmp 10) (.tmp 17) (.const (.bool false)), none, .seq, [], []⟩,
    ⟨(some 6), .move (.tmp 18), none, .seq, [], []⟩])
  .ret))⟩

/-- forecourt/shop.within -/
def f55 : AFunc := ⟨3, [.tmp 6],
  (.seq (.region [⟨(some 3), .box (.tmp 0), none, .seq, [], []⟩,
    ⟨(some 4), .box (.tmp 1), none, .seq, [], []⟩,
    ⟨(some 6), .move (.const (.bool false)), none, .seq, [], []⟩])
  (.seq (.region [⟨(some 7), .move (.tmp 2), none, .seq, [], []⟩,
    ⟨(some 8), .makeFunc 79 [] [(.tmp 3), (.tmp 4)], none, .seq, [], []⟩,
    ⟨(some 9), .call 78 [(.tmp 7), (.tmp 8)], none, .seq, [], []⟩,
    ⟨(some 10), .un .not (.tmp 9), none, .seq, [], []⟩,
    ⟨(some 6), .move (.tmp 10), none, .seq, [], []⟩])
  .ret))⟩

/-- forecourt/forecourtref11.slots -/
def f56 : AFunc := ⟨3, [.tmp 6],
  (.seq (.region [⟨(some 3), .box (.tmp 0), none, .seq, [], []⟩,
    ⟨(some 6), .move (.const (.bool false)), none, .seq, [], []⟩])
  (.seq (.region [⟨(some 7), .move (.tmp 1), none, .seq, [], []⟩,
    ⟨(some 8), .bin .geq (.tmp 7) (.const (.int .i64 0)), none, .seq, [], []⟩,
    ⟨(some 9), .move (.tmp 8), none, .seq, [], []⟩,
    ⟨(some 10), .move (.tmp 1), some (9, true), .seq, [], []⟩,
    ⟨(some 11), .move (.tmp 2), some (9, true), .seq, [], []⟩,
    ⟨(some 12), .bin .leq (.tmp 10) (.tmp 11), some (9, true), .seq, [], []⟩,
    ⟨(some 13), .pick (.tmp 9) (.tmp 12) (.const (.bool false)), none, .seq, [], []⟩,
    ⟨(some 14), .move (.tmp 13), none, .seq, [], []⟩,
    ⟨(some 15), .move (.tmp 2), some (14, true), .seq, [], []⟩,
    ⟨(some 16), .fieldAddr 0 (.tmp 3), some (14, true), .seq, [], []⟩,
    ⟨(some 17), .load none (.tmp 16), some (14, true), .seq, [], []⟩,
    ⟨(some 18), .bin .lss (.tmp 15) (.tmp 17), some (14, true), .seq, [], []⟩,
    ⟨(some 19), .pick (.tmp 14) (.tmp 18) (.const (.bool false)), none, .seq, [], []⟩,
    ⟨(some 6), .move (.tmp 19), none, .seq, [], []⟩])
  .ret))⟩

def f57l0 : ACode :=
  (.keep [2, 6, 14, 15, 16]
      (.seq (.region [⟨(some 17), .bin .lss (.tmp 16) (.tmp 15), none, .seq, [], []⟩])
      (.seq (.cond (.tmp 17)
        .skip
        (.exit 0))
      (.seq (.block 1
        (.seq (.region [⟨(some 18), .indexAddr none 1 (.tmp 14) (.tmp 16), none, .seq, [], []⟩,
          ⟨(some 19), .load none (.tmp 18), none, .seq, [], []⟩,
          ⟨(some 8), .move (.tmp 19), none, .seq, [], []⟩])
        (.seq (.seq (.region [⟨(some 20), .move (.tmp 8), none, .seq, [], []⟩,
           ⟨(some 21), .move (.tmp 6), none, .seq, [], []⟩,
           ⟨(some 22), .bin .leq (.tmp 20) (.tmp 21), none, .seq, [], []⟩,
           ⟨(some 23), .move (.tmp 22), none, .seq, [], []⟩,
           ⟨(some 24), .move (.tmp 8), some (23, false), .seq, [], []⟩,
           ⟨(some 25), .fieldAddr 2 (.tmp 2), some (23, false), .seq, [], []⟩,
           ⟨(some 26), .load none (.tmp 25), some (23, false), .seq, [], []⟩,
           ⟨(some 27), .len .sl (.tmp 26), some (23, false), .seq, [], []⟩,
           ⟨(some 28), .bin .geq (.tmp 24) (.tmp 27), some (23, false), .seq, [], []⟩,
           ⟨(some 29), .pick (.tmp 23) (.const (.bool true)) (.tmp 28), none, .seq, [], []⟩])
         (.cond (.tmp 29)
          (.seq (.region [⟨(some 4), .move (.const (.int .i64 3)), none, .seq, [], []⟩])
          .ret)
          .skip))
        (.region [⟨(some 30), .move (.tmp 8), none, .seq, [], []⟩,
         ⟨(some 6), .move (.tmp 30), none, .seq, [], []⟩]))))
      (.region [⟨(some 31), .bin .add (.tmp 16) (.const (.int .i64 1)), none, .seq, [], []⟩,
       ⟨(some 16), .move (.tmp 31), none, .seq, [], []⟩])))))

/-- forecourt/shop.checkList -/
def f57 : AFunc := ⟨2, [.tmp 4],
  (.seq (.region [⟨(some 2), .box (.tmp 0), none, .seq, [], []⟩,
    ⟨(some 4), .move (.const (.int .i64 0)), none, .seq, [], []⟩])
  (.seq (.seq (.region [⟨(some 9), .load (some 3) (.tmp 2), none, .seq, [], []⟩,
     ⟨(some 10), .call 20 [(.tmp 9)], none, .seq, [], []⟩,
     ⟨(some 5), .move (.tmp 10), none, .seq, [], []⟩])
   (.seq (.region [⟨(some 11), .move (.tmp 5), none, .seq, [], []⟩,
     ⟨(some 12), .bin .neq (.tmp 11) (.const (.int .i64 0)), none, .seq, [], []⟩])
   (.cond (.tmp 12)
    (.seq (.region [⟨(some 13), .move (.tmp 5), none, .seq, [], []⟩,
      ⟨(some 4), .move (.tmp 13), none, .seq, [], []⟩])
    .ret)
    .skip)))
  (.seq (.region [⟨(some 6), .move (.const (.int .i64 (-1))), none, .seq, [], []⟩])
  (.seq (.seq (.region [⟨(some 14), .move (.tmp 1), none, .seq, [], []⟩,
     ⟨(some 15), .len .sl (.tmp 14), none, .seq, [], []⟩,
     ⟨(some 16), .move (.const (.int .i64 0)), none, .seq, [], []⟩])
   (.block 0
    (.loop f57l0)))
  (.seq (.region [⟨(some 4), .move (.const (.int .i64 0)), none, .seq, [], []⟩])
  .ret)))))⟩

/-- forecourt/shop.windows -/
def f58 : AFunc := ⟨1, [.tmp 2],
  (.seq (.region [⟨(some 1), .box (.tmp 0), none, .seq, [], []⟩,
    ⟨(some 2), .move (.const .nilFunc), none, .seq, [], []⟩])
  (.seq (.region [⟨(some 3), .makeFunc 80 [] [(.tmp 1)], none, .seq, [], []⟩,
    ⟨(some 2), .move (.tmp 3), none, .seq, [], []⟩])
  .ret))⟩

/-- (forecourt/shop.window).has -/
def f59 : AFunc := ⟨2, [.tmp 4],
  (.seq (.region [⟨(some 2), .box (.tmp 0), none, .seq, [], []⟩,
    ⟨(some 3), .box (.tmp 1), none, .seq, [], []⟩,
    ⟨(some 4), .move (.const (.bool false)), none, .seq, [], []⟩])
  (.seq (.region [⟨(some 5), .fieldAddr 0 (.tmp 3), none, .seq, [], []⟩,
    ⟨(some 6), .load none (.tmp 5), none, .seq, [], []⟩,
    ⟨(some 7), .fieldAddr 0 (.tmp 2), none, .seq, [], []⟩,
    ⟨(some 8), .load none (.tmp 7), none, .seq, [], []⟩,
    ⟨(some 9), .bin .geq (.tmp 6) (.tmp 8), none, .seq, [], []⟩,
    ⟨(some 10), .move (.tmp 9), none, .seq, [], []⟩,
    ⟨(some 11), .fieldAddr 1 (.tmp 3), some (10, true), .seq, [], []⟩,
    ⟨(some 12), .load none (.tmp 11), some (10, true), .seq, [], []⟩,
    ⟨(some 13), .fieldAddr 1 (.tmp 2), some (10, true), .seq, [], []⟩,
    ⟨(some 14), .load none (.tmp 13), some (10, true), .seq, [], []⟩,
    ⟨(some 15), .bin .leq (.tmp 12) (.tmp 14), some (10, true), .seq, [], []⟩,
    ⟨(some 16), .pick (.tmp 10) (.tmp 15) (.const (.bool false)), none, .seq, [], []⟩,
    ⟨(some 4), .move (.tmp 16), none, .seq, [], []⟩])
  .ret))⟩

/-- (forecourt/shop.window).places -/
def f60 : AFunc := ⟨2, [.tmp 4],
  (.seq (.region [⟨(some 2), .box (.tmp 0), none, .seq, [], []⟩,
    ⟨(some 3), .box (.tmp 1), none, .seq, [], []⟩,
    ⟨(some 4), .move (.const (.int .i64 0)), none, .seq, [], []⟩])
  (.seq (.region [⟨(some 5), .fieldAddr 1 (.tmp 3), none, .seq, [], []⟩,
    ⟨(some 6), .load none (.tmp 5), none, .seq, [], []⟩,
    ⟨(some 7), .fieldAddr 1 (.tmp 2), none, .seq, [], []⟩,
    ⟨(some 8), .load none (.tmp 7), none, .seq, [], []⟩,
    ⟨(some 9), .fieldAddr 0 (.tmp 2), none, .seq, [], []⟩,
    ⟨(some 10), .load none (.tmp 9), none, .seq, [], []⟩,
    ⟨(some 11), .bin .sub (.tmp 8) (.tmp 10), none, .seq, [], []⟩,
    ⟨(some 12), .bin .add (.tmp 11) (.const (.int .i64 1)), none, .seq, [], []⟩,
    ⟨(some 13), .bin .mul (.tmp 6) (.tmp 12), none, .seq, [], []⟩,
    ⟨(some 4), .move (.tmp 13), none, .seq, [], []⟩])
  .ret))⟩

def f61l0 : ACode :=
  (.keep [1, 2, 5]
      (.seq (.seq (.region [⟨(some 11), .move (.tmp 5), none, .seq, [], []⟩,
         ⟨(some 12), .move (.tmp 1), none, .seq, [], []⟩,
         ⟨(some 13), .len .sl (.tmp 12), none, .seq, [], []⟩,
         ⟨(some 14), .bin .lss (.tmp 11) (.tmp 13), none, .seq, [], []⟩])
       (.cond (.tmp 14)
        .skip
        (.exit 0)))
      (.seq (.block 1
        (.seq (.region [⟨(some 17), .move (.tmp 1), none, .still, [], []⟩,
          ⟨(some 18), .move (.tmp 5), none, .still, [], []⟩,
          ⟨(some 19), .indexAddr none 1 (.tmp 17) (.tmp 18), none, .still, [], []⟩,
          ⟨(some 20), .load none (.tmp 19), none, .seq, [], []⟩,
          ⟨(some 21), .bin .lss (.tmp 20) (.const (.int .i64 0)), none, .still, [], []⟩,
          ⟨(some 22), .move (.tmp 21), none, .still, [], []⟩,
          ⟨(some 23), .move (.tmp 1), some (22, false), .still, [], []⟩,
          ⟨(some 24), .move (.tmp 5), some (22, false), .still, [], []⟩,
          ⟨(some 25), .indexAddr none 1 (.tmp 23) (.tmp 24), some (22, false), .still, [], []⟩,
          ⟨(some 26), .load none (.tmp 25), some (22, false), .rd, [], []⟩,
          ⟨(some 27), .fieldAddr 2 (.tmp 2), some (22, false), .still, [], []⟩,
          ⟨(some 28), .load none (.tmp 27), some (22, false), .rd, [], []⟩,
          ⟨(some 29), .len .sl (.tmp 28), some (22, false), .still, [], []⟩,
          ⟨(some 30), .bin .geq (.tmp 26) (.tmp 29), some (22, false), .still, [], []⟩,
          ⟨(some 31), .pick (.tmp 22) (.const (.bool true)) (.tmp 30), none, .still, [], []⟩,
          ⟨(some 32), .move (.tmp 31), none, .still, [], []⟩,
          ⟨(some 33), .move (.tmp 5), some (32, false), .still, [], []⟩,
          ⟨(some 34), .bin .gtr (.tmp 33) (.const (.int .i64 0)), some (32, false), .still, [], []⟩,
          ⟨(some 35), .move (.tmp 34), some (32, false), .still, [], []⟩,
          ⟨(some 36), .move (.tmp 1), some (35, true), .still, [], []⟩,
          ⟨(some 37), .move (.tmp 5), some (35, true), .still, [], []⟩,
          ⟨(some 38), .indexAddr none 1 (.tmp 36) (.tmp 37), some (35, true), .still, [], []⟩,
          ⟨(some 39), .load none (.tmp 38), some (35, true), .rd, [], []⟩,
          ⟨(some 40), .move (.tmp 1), some (35, true), .still, [], []⟩,
          ⟨(some 41), .move (.tmp 5), some (35, true), .still, [], []⟩,
          ⟨(some 42), .bin .sub (.tmp 41) (.const (.int .i64 1)), some (35, true), .still, [], []⟩,
          ⟨(some 43), .indexAddr none 1 (.tmp 40) (.tmp 42), some (35, true), .still, [], []⟩,
          ⟨(some 44), .load none (.tmp 43), some (35, true), .rd, [], []⟩,
          ⟨(some 45), .bin .leq (.tmp 39) (.tmp 44), some (35, true), .still, [], []⟩,
          ⟨(some 46), .pick (.tmp 35) (.tmp 45) (.const (.bool false)), some (32, false), .still, [], []⟩,
          ⟨(some 47), .pick (.tmp 32) (.const (.bool true)) (.tmp 46), none, .still, [], []⟩])
        (.cond (.tmp 47)
         (.seq (.region [⟨(some 4), .move (.const (.int .i64 3)), none, .seq, [], []⟩])
         .ret)
         .skip)))
      (.region [⟨(some 15), .move (.tmp 5), none, .seq, [], []⟩,
       ⟨(some 16), .bin .add (.tmp 15) (.const (.int .i64 1)), none, .seq, [], []⟩,
       ⟨(some 5), .move (.tmp 16), none, .seq, [], []⟩]))))

/-- forecourt/forecourtref11.IsList -/
def f61 : AFunc := ⟨2, [.tmp 4],
  (.seq (.region [⟨(some 2), .box (.tmp 0), none, .seq, [], []⟩,
    ⟨(some 4), .move (.const (.int .i64 0)), none, .seq, [], []⟩])
  (.seq (.seq (.region [⟨(some 6), .load (some 3) (.tmp 2), none, .seq, [], []⟩,
     ⟨(some 7), .call 21 [(.tmp 6)], none, .seq, [], []⟩,
     ⟨(some 8), .bin .neq (.tmp 7) (.const (.int .i64 0)), none, .seq, [], []⟩])
   (.cond (.tmp 8)
    (.seq (.region [⟨(some 9), .load (some 3) (.tmp 2), none, .seq, [], []⟩,
      ⟨(some 10), .call 21 [(.tmp 9)], none, .seq, [], []⟩,
      ⟨(some 4), .move (.tmp 10), none, .seq, [], []⟩])
    .ret)
    .skip))
  (.seq (.seq (.region [⟨(some 5), .move (.const (.int .i64 0)), none, .seq, [], []⟩])
   (.block 0
    (.loop f61l0)))
  (.seq (.region [⟨(some 4), .move (.const (.int .i64 0)), none, .seq, [], []⟩])
  .ret))))⟩

/-- forecourt/shop.newYard -/
def f62 : AFunc := ⟨1, [.tmp 2],
  (.seq (.region [⟨(some 1), .box (.tmp 0), none, .seq, [], []⟩,
    ⟨(some 2), .move (.const (.pointer none)), none, .seq, [], []⟩])
  (.seq (.region [⟨(some 3), .load (some 3) (.tmp 1), none, .seq, [], []⟩,
    ⟨(some 4), .build [(.int .i64 0), (.int .i64 0), (.slice none 0 0), (.int .i64 0), (.int .i64 0), (.int .i64 0), (.int .i64 0), (.int .i64 0), (.int .i64 0), (.int .i64 0), (.int .i64 0), (.int .i64 0), (.int .i64 0), (.int .i64 0), (.int .i64 0), (.int .i64 0), (.int .i64 0), (.int .i64 0), (.int .i64 0), (.int .i64 0), (.int .i64 0), (.int .i64 0), (.int .i64 0), (.int .i64 0), (.int .i64 0), (.int .i64 0), (.int .i64 0)] (.list [(0, 3), (3, 24)]) [(0, (.tmp 3))], none, .seq, [], []⟩,
    ⟨(some 5), .box (.tmp 4), none, .seq, [], []⟩,
    ⟨(some 2), .move (.tmp 5), none, .seq, [], []⟩])
  .ret))⟩

def f63l0 : ACode :=
  (.keep [2, 6, 9, 10, 11, 43, 44, 48, 49, 50]
            (.seq (.region [⟨(some 51), .bin .lss (.tmp 50) (.tmp 49), none, .seq, [], []⟩])
            (.seq (.cond (.tmp 51)
              .skip
              (.exit 4))
            (.seq (.block 5
              (.seq (.region [⟨(some 52), .indexAddr none 1 (.tmp 48) (.tmp 50), none, .seq, [], []⟩,
                ⟨(some 53), .load none (.tmp 52), none, .seq, [], []⟩,
                ⟨(some 13), .move (.tmp 53), none, .seq, [], []⟩])
              (.seq (.region [⟨(some 54), .move (.tmp 10), none, .seq, [], []⟩,
                ⟨(some 55), .move (.tmp 13), none, .seq, [], []⟩,
                ⟨(some 56), .callv (.tmp 54) [(.tmp 55)], none, .seq, [], []⟩])
              (.cond (.tmp 56)
               (.seq (.region [⟨(some 57), .move (.tmp 6), none, .seq, [], []⟩,
                 ⟨(some 58), .move (.tmp 13), none, .seq, [], []⟩,
                 ⟨(some 59), .load none (.tmp 9), none, .seq, [], []⟩,
                 ⟨(some 60), .indexAddr none 1 (.tmp 57) (.tmp 58), none, .seq, [], []⟩,
                 ⟨none, .store 1 (.tmp 60) (.tmp 59), none, .seq, [], []⟩])
               (.region [⟨(some 61), .load none (.tmp 2), none, .rd, [], []⟩,
                ⟨(some 62), .load none (.tmp 9), none, .rd, [], []⟩,
                ⟨(some 63), .nilCheck (.tmp 61), none, .still, [], []⟩,
                ⟨(some 64), .fieldAddr 3 (.tmp 63), none, .still, [], []⟩,
                ⟨(some 65), .indexAddr (some 24) 1 (.tmp 64) (.tmp 62), none, .still, [], []⟩,
                ⟨(some 66), .load none (.tmp 65), none, .seq, [], []⟩,
                ⟨(some 67), .bin .add (.tmp 66) (.const (.int .i64 1)), none, .still, [], []⟩,
                ⟨(some 68), .nilCheck (.tmp 61), none, .still, [], []⟩,
                ⟨(some 69), .fieldAddr 3 (.tmp 68), none, .still, [], []⟩,
                ⟨(some 70), .indexAddr (some 24) 1 (.tmp 69) (.tmp 62), none, .still, [], []⟩,
                ⟨none, .store 1 (.tmp 70) (.tmp 67), none, .seq, [], []⟩]))
               (.region [⟨(some 71), .move (.tmp 11), none, .seq, [], []⟩,
                ⟨(some 72), .move (.tmp 13), none, .seq, [], []⟩,
                ⟨(some 73), .buildSlice 1 [(.int .i64 0)] 1 [(0, (.tmp 72))], none, .seq, [], []⟩,
                ⟨(some 74), .append 1 8 (.tmp 71) (.tmp 73), none, .seq, [], []⟩,
                ⟨(some 11), .move (.tmp 74), none, .seq, [], []⟩])))))
            (.region [⟨(some 75), .bin .add (.tmp 50) (.const (.int .i64 1)), none, .seq, [], []⟩,
             ⟨(some 50), .move (.tmp 75), none, .seq, [], []⟩])))))

def f63l1 : ACode :=
  (.keep [2, 6, 8, 43, 44]
      (.seq (.region [⟨(some 45), .bin .lss (.tmp 44) (.tmp 43), none, .seq, [], []⟩])
      (.seq (.cond (.tmp 45)
        .skip
        (.exit 2))
      (.seq (.block 3
        (.seq (.region [⟨(some 46), .move (.tmp 44), none, .seq, [], []⟩,
          ⟨(some 9), .alloc [(.int .i64 0)], none, .seq, [], []⟩,
          ⟨none, .store 1 (.tmp 9) (.tmp 46), none, .seq, [], []⟩])
        (.seq (.region [⟨(some 47), .makeFunc 85 [] [(.tmp 2), (.tmp 9)], none, .seq, [], []⟩,
          ⟨(some 10), .move (.tmp 47), none, .seq, [], []⟩])
        (.seq (.region [⟨(some 11), .move (.const (.slice none 0 0)), none, .seq, [], []⟩])
        (.seq (.seq (.region [⟨(some 48), .move (.tmp 8), none, .seq, [], []⟩,
           ⟨(some 49), .len .sl (.tmp 48), none, .seq, [], []⟩,
           ⟨(some 50), .move (.const (.int .i64 0)), none, .seq, [], []⟩])
         (.block 4
          (.loop f63l0)))
        (.region [⟨(some 76), .move (.tmp 11), none, .seq, [], []⟩,
         ⟨(some 8), .move (.tmp 76), none, .seq, [], []⟩]))))))
      (.region [⟨(some 77), .bin .add (.tmp 44) (.const (.int .i64 1)), none, .seq, [], []⟩,
       ⟨(some 44), .move (.tmp 77), none, .seq, [], []⟩])))))

def f63l2 : ACode :=
  (.keep [1, 2, 6, 26, 27]
      (.seq (.region [⟨(some 28), .bin .lss (.tmp 27) (.tmp 26), none, .seq, [], []⟩])
      (.seq (.cond (.tmp 28)
        .skip
        (.exit 0))
      (.seq (.block 1
        (.seq (.region [⟨(some 29), .move (.tmp 27), none, .seq, [], []⟩,
          ⟨(some 7), .move (.tmp 29), none, .seq, [], []⟩])
        (.region [⟨(some 30), .move (.tmp 6), none, .seq, [], []⟩,
         ⟨(some 31), .move (.tmp 7), none, .seq, [], []⟩,
         ⟨(some 32), .indexAddr none 1 (.tmp 30) (.tmp 31), none, .seq, [], []⟩,
         ⟨none, .store 1 (.tmp 32) (.const (.int .i64 (-1))), none, .seq, [], []⟩])))
      (.region [⟨(some 33), .bin .add (.tmp 27) (.const (.int .i64 1)), none, .seq, [], []⟩,
       ⟨(some 27), .move (.tmp 33), none, .seq, [], []⟩])))))

/-- (*forecourt/shop.yard).fit -/
def f63 : AFunc := ⟨2, [.tmp 4, .tmp 5],
  (.seq (.region [⟨(some 2), .box (.tmp 0), none, .seq, [], []⟩,
    ⟨(some 4), .move (.const (.slice none 0 0)), none, .seq, [], []⟩,
    ⟨(some 5), .move (.const (.bool false)), none, .seq, [], []⟩])
  (.seq (.region [⟨(some 14), .load none (.tmp 2), none, .seq, [], []⟩,
    ⟨(some 15), .nilCheck (.tmp 14), none, .seq, [], []⟩,
    ⟨(some 16), .fieldAddr 3 (.tmp 15), none, .seq, [], []⟩,
    ⟨(some 17), .slice (.arr 24 1) (.tmp 16) none none none, none, .seq, [], []⟩,
    ⟨none, .clearSlice [(.int .i64 0)] (.tmp 17), none, .seq, [], []⟩])
  (.seq (.region [⟨(some 18), .load none (.tmp 2), none, .seq, [], []⟩,
    ⟨(some 19), .nilCheck (.tmp 18), none, .seq, [], []⟩,
    ⟨(some 20), .fieldAddr 0 (.tmp 19), none, .seq, [], []⟩,
    ⟨(some 21), .fieldAddr 2 (.tmp 20), none, .seq, [], []⟩,
    ⟨(some 22), .load none (.tmp 21), none, .seq, [], []⟩,
    ⟨(some 23), .len .sl (.tmp 22), none, .seq, [], []⟩,
    ⟨(some 24), .makeSlice 1 8 [(.int .i64 0)] (.tmp 23) (.tmp 23), none, .seq, [], []⟩,
    ⟨(some 6), .move (.tmp 24), none, .seq, [], []⟩])
  (.seq (.seq (.region [⟨(some 25), .move (.tmp 6), none, .seq, [], []⟩,
     ⟨(some 26), .len .sl (.tmp 25), none, .seq, [], []⟩,
     ⟨(some 27), .move (.const (.int .i64 0)), none, .seq, [], []⟩])
   (.block 0
    (.loop f63l2)))
  (.seq (.region [⟨(some 34), .move (.tmp 1), none, .seq, [], []⟩,
    ⟨(some 35), .call 81 [(.tmp 34)], none, .seq, [], []⟩,
    ⟨(some 8), .move (.tmp 35), none, .seq, [], []⟩])
  (.seq (.region [⟨(some 36), .move (.tmp 8), none, .seq, [], []⟩,
    ⟨(some 37), .makeFunc 83 [] [(.tmp 2)], none, .seq, [], []⟩,
    ⟨(some 38), .call 82 [(.tmp 36), (.tmp 37)], none, .seq, [], []⟩])
  (.seq (.seq (.region [⟨(some 39), .load none (.tmp 2), none, .seq, [], []⟩,
     ⟨(some 40), .nilCheck (.tmp 39), none, .seq, [], []⟩,
     ⟨(some 41), .fieldAddr 0 (.tmp 40), none, .seq, [], []⟩,
     ⟨(some 42), .fieldAddr 0 (.tmp 41), none, .seq, [], []⟩,
     ⟨(some 43), .load none (.tmp 42), none, .seq, [], []⟩,
     ⟨(some 44), .move (.const (.int .i64 0)), none, .seq, [], []⟩])
   (.block 2
    (.loop f63l1)))
  (.seq (.region [⟨(some 78), .move (.tmp 6), none, .seq, [], []⟩,
    ⟨(some 79), .move (.tmp 8), none, .seq, [], []⟩,
    ⟨(some 80), .len .sl (.tmp 79), none, .seq, [], []⟩,
    ⟨(some 81), .bin .eql (.tmp 80) (.const (.int .i64 0)), none, .seq, [], []⟩,
    ⟨(some 4), .move (.tmp 78), none, .seq, [], []⟩,
    ⟨(some 5), .move (.tmp 81), none, .seq, [], []⟩])
  .ret))))))))⟩

/-- forecourt/forecourtref11.Together -/
def f64 : AFunc := ⟨2, [.tmp 4],
  (.seq (.region [⟨(some 2), .box (.tmp 0), none, .seq, [], []⟩,
    ⟨(some 4), .move (.const (.bool false)), none, .seq, [], []⟩])
  (.seq (.region [⟨(some 9), .load (some 3) (.tmp 2), none, .seq, [], []⟩,
    ⟨(some 10), .move (.tmp 1), none, .seq, [], []⟩,
    ⟨(some 11), .call 23 [(.tmp 9), (.tmp 10)], none, .seq, [], []⟩,
    ⟨(some 8), .move (.tmp 11), none, .seq, [], []⟩,
    ⟨(some 12), .extract (.tmp 8) 0, none, .seq, [], []⟩,
    ⟨(some 13), .extract (.tmp 8) 1, none, .seq, [], []⟩,
    ⟨(some 14), .extract (.tmp 8) 2, none, .seq, [], []⟩,
    ⟨(some 5), .move (.tmp 12), none, .seq, [], []⟩,
    ⟨(some 6), .move (.tmp 13), none, .seq, [], []⟩,
    ⟨(some 7), .move (.tmp 14), none, .seq, [], []⟩])
  (.seq (.region [⟨(some 15), .move (.tmp 7), none, .seq, [], []⟩,
    ⟨(some 16), .bin .eql (.tmp 15) (.const (.int .i64 5)), none, .seq, [], []⟩,
    ⟨(some 4), .move (.tmp 16), none, .seq, [], []⟩])
  .ret)))⟩

def f65l0 : ACode :=
  (.keep [2, 9, 11, 12, 13, 44, 45, 46]
      (.seq (.region [⟨(some 47), .bin .lss (.tmp 46) (.tmp 45), none, .seq, [], []⟩])
      (.seq (.cond (.tmp 47)
        .skip
        (.exit 2))
      (.seq (.block 3
        (.seq (.region [⟨(some 48), .indexAddr none 1 (.tmp 44) (.tmp 46), none, .seq, [], []⟩,
          ⟨(some 49), .load none (.tmp 48), none, .seq, [], []⟩,
          ⟨(some 15), .move (.tmp 49), none, .seq, [], []⟩])
        (.seq (.region [⟨(some 50), .move (.tmp 12), none, .seq, [], []⟩,
          ⟨(some 51), .move (.tmp 12), none, .seq, [], []⟩,
          ⟨(some 52), .len .sl (.tmp 51), none, .seq, [], []⟩,
          ⟨(some 53), .move (.tmp 12), none, .seq, [], []⟩,
          ⟨(some 54), .len .sl (.tmp 53), none, .seq, [], []⟩,
          ⟨(some 55), .slice (.sl 1) (.tmp 50) none (some (.tmp 52)) (some (.tmp 54)), none, .seq, [], []⟩,
          ⟨(some 56), .move (.tmp 15), none, .seq, [], []⟩,
          ⟨(some 57), .buildSlice 1 [(.int .i64 0)] 1 [(0, (.tmp 56))], none, .seq, [], []⟩,
          ⟨(some 58), .append 1 8 (.tmp 55) (.tmp 57), none, .seq, [], []⟩,
          ⟨(some 16), .move (.tmp 58), none, .seq, [], []⟩])
        (.seq (.region [⟨(some 60), .move (.tmp 11), none, .seq, [], []⟩,
          ⟨(some 61), .move (.tmp 16), none, .seq, [], []⟩,
          ⟨(some 62), .callv (.tmp 60) [(.tmp 61)], none, .seq, [], []⟩,
          ⟨(some 59), .move (.tmp 62), none, .seq, [], []⟩,
          ⟨(some 63), .extract (.tmp 59) 0, none, .seq, [], []⟩,
          ⟨(some 64), .extract (.tmp 59) 1, none, .seq, [], []⟩,
          ⟨(some 17), .move (.tmp 63), none, .seq, [], []⟩,
          ⟨(some 18), .move (.tmp 64), none, .seq, [], []⟩])
        (.seq (.region [⟨(some 65), .move (.tmp 18), none, .seq, [], []⟩])
        (.cond (.tmp 65)
         (.seq (.region [⟨(some 66), .move (.tmp 16), none, .seq, [], []⟩,
           ⟨(some 67), .move (.tmp 17), none, .seq, [], []⟩,
           ⟨(some 12), .move (.tmp 66), none, .seq, [], []⟩,
           ⟨(some 9), .move (.tmp 67), none, .seq, [], []⟩])
         (.region [⟨(some 68), .move (.tmp 13), none, .seq, [], []⟩,
          ⟨(some 69), .load none (.tmp 2), none, .seq, [], []⟩,
          ⟨(some 70), .nilCheck (.tmp 69), none, .seq, [], []⟩,
          ⟨(some 71), .fieldAddr 0 (.tmp 70), none, .seq, [], []⟩,
          ⟨(some 72), .fieldAddr 2 (.tmp 71), none, .seq, [], []⟩,
          ⟨(some 73), .load none (.tmp 72), none, .seq, [], []⟩,
          ⟨(some 74), .move (.tmp 15), none, .seq, [], []⟩,
          ⟨(some 75), .indexAddr none 3 (.tmp 73) (.tmp 74), none, .seq, [], []⟩,
          ⟨(some 76), .fieldAddr 2 (.tmp 75), none, .seq, [], []⟩,
          ⟨(some 77), .load none (.tmp 76), none, .seq, [], []⟩,
          ⟨(some 78), .bin .add (.tmp 68) (.tmp 77), none, .seq, [], []⟩,
          ⟨(some 13), .move (.tmp 78), none, .seq, [], []⟩]))
         .skip))))))
      (.region [⟨(some 79), .bin .add (.tmp 46) (.const (.int .i64 1)), none, .seq, [], []⟩,
       ⟨(some 46), .move (.tmp 79), none, .seq, [], []⟩])))))

def f65l1 : ACode :=
  (.keep [2, 3, 6, 24, 25]
      (.seq (.region [⟨(some 26), .bin .lss (.tmp 25) (.tmp 24), none, .seq, [], []⟩])
      (.seq (.cond (.tmp 26)
        .skip
        (.exit 0))
      (.seq (.block 1
        (.seq (.region [⟨(some 27), .move (.tmp 25), none, .seq, [], []⟩,
          ⟨(some 7), .move (.tmp 27), none, .seq, [], []⟩])
        (.region [⟨(some 28), .move (.tmp 6), none, .seq, [], []⟩,
         ⟨(some 29), .move (.tmp 7), none, .seq, [], []⟩,
         ⟨(some 30), .buildSlice 1 [(.int .i64 0)] 1 [(0, (.tmp 29))], none, .seq, [], []⟩,
         ⟨(some 31), .append 1 8 (.tmp 28) (.tmp 30), none, .seq, [], []⟩,
         ⟨(some 6), .move (.tmp 31), none, .seq, [], []⟩])))
      (.region [⟨(some 32), .bin .add (.tmp 25) (.const (.int .i64 1)), none, .seq, [], []⟩,
       ⟨(some 25), .move (.tmp 32), none, .seq, [], []⟩])))))

/-- (*forecourt/shop.yard).best -/
def f65 : AFunc := ⟨2, [.tmp 4, .tmp 5],
  (.seq (.region [⟨(some 2), .box (.tmp 0), none, .seq, [], []⟩,
    ⟨(some 3), .box (.tmp 1), none, .seq, [], []⟩,
    ⟨(some 4), .move (.const (.slice none 0 0)), none, .seq, [], []⟩,
    ⟨(some 5), .move (.const (.int .i64 0)), none, .seq, [], []⟩])
  (.seq (.region [⟨(some 6), .move (.const (.slice none 0 0)), none, .seq, [], []⟩])
  (.seq (.seq (.region [⟨(some 19), .load none (.tmp 2), none, .seq, [], []⟩,
     ⟨(some 20), .nilCheck (.tmp 19), none, .seq, [], []⟩,
     ⟨(some 21), .fieldAddr 0 (.tmp 20), none, .seq, [], []⟩,
     ⟨(some 22), .fieldAddr 2 (.tmp 21), none, .seq, [], []⟩,
     ⟨(some 23), .load none (.tmp 22), none, .seq, [], []⟩,
     ⟨(some 24), .len .sl (.tmp 23), none, .seq, [], []⟩,
     ⟨(some 25), .move (.const (.int .i64 0)), none, .seq, [], []⟩])
   (.block 0
    (.loop f65l1)))
  (.seq (.region [⟨(some 33), .makeFunc 86 [] [(.tmp 3), (.tmp 2)], none, .seq, [], []⟩,
    ⟨(some 8), .alloc [.nilFunc], none, .seq, [], []⟩,
    ⟨none, .store 1 (.tmp 8) (.tmp 33), none, .seq, [], []⟩])
  (.seq (.region [⟨(some 34), .move (.tmp 6), none, .seq, [], []⟩,
    ⟨(some 35), .makeFunc 87 [] [(.tmp 8)], none, .seq, [], []⟩,
    ⟨(some 36), .call 82 [(.tmp 34), (.tmp 35)], none, .seq, [], []⟩])
  (.seq (.region [⟨(some 38), .load none (.tmp 2), none, .seq, [], []⟩,
    ⟨(some 39), .call 63 [(.tmp 38), (.const (.slice none 0 0))], none, .seq, [], []⟩,
    ⟨(some 37), .move (.tmp 39), none, .seq, [], []⟩,
    ⟨(some 40), .extract (.tmp 37) 0, none, .seq, [], []⟩,
    ⟨(some 41), .extract (.tmp 37) 1, none, .seq, [], []⟩,
    ⟨(some 9), .move (.tmp 40), none, .seq, [], []⟩,
    ⟨(some 10), .move (.tmp 41), none, .seq, [], []⟩])
  (.seq (.region [⟨(some 42), .load none (.tmp 2), none, .seq, [], []⟩,
    ⟨(some 43), .makeFunc 63 [(.tmp 42)] [], none, .seq, [], []⟩,
    ⟨(some 11), .move (.tmp 43), none, .seq, [], []⟩])
  (.seq (.region [⟨(some 12), .move (.const (.slice none 0 0)), none, .seq, [], []⟩])
  (.seq (.region [⟨(some 13), .move (.const (.int .i64 0)), none, .seq, [], []⟩])
  (.seq (.seq (.region [⟨(some 44), .move (.tmp 6), none, .seq, [], []⟩,
     ⟨(some 45), .len .sl (.tmp 44), none, .seq, [], []⟩,
     ⟨(some 46), .move (.const (.int .i64 0)), none, .seq, [], []⟩])
   (.block 2
    (.loop f65l0)))
  (.seq (.region [⟨(some 80), .move (.tmp 9), none, .seq, [], []⟩,
    ⟨(some 81), .move (.tmp 13), none, .seq, [], []⟩,
    ⟨(some 4), .move (.tmp 80), none, .seq, [], []⟩,
    ⟨(some 5), .move (.tmp 81), none, .seq, [], []⟩])
  .ret)))))))))))⟩

/-- slices.Delete[[]forecourt/api.ShopCar,forecourt/api.ShopCar] -/
def f66 : AFunc := ⟨3, [.tmp 6],
  (.seq (.region [⟨(some 6), .move (.const (.slice none 0 0)), none, .seq, [], []⟩])
  (.seq (.region [⟨(some 8), .move (.tmp 0), none, .seq, [], []⟩,
    ⟨(some 9), .move (.tmp 1), none, .seq, [], []⟩,
    ⟨(some 10), .move (.tmp 2), none, .seq, [], []⟩,
    ⟨(some 11), .move (.tmp 0), none, .seq, [], []⟩,
    ⟨(some 12), .len .sl (.tmp 11), none, .seq, [], []⟩,
    ⟨(some 13), .slice (.sl 3) (.tmp 8) (some (.tmp 9)) (some (.tmp 10)) (some (.tmp 12)), none, .seq, [], []⟩])
  (.seq (.seq (.region [⟨(some 14), .move (.tmp 1), none, .seq, [], []⟩,
     ⟨(some 15), .move (.tmp 2), none, .seq, [], []⟩,
     ⟨(some 16), .bin .eql (.tmp 14) (.tmp 15), none, .seq, [], []⟩])
   (.cond (.tmp 16)
    (.seq (.region [⟨(some 17), .move (.tmp 0), none, .seq, [], []⟩,
      ⟨(some 6), .move (.tmp 17), none, .seq, [], []⟩])
    .ret)
    .skip))
  (.seq (.region [⟨(some 18), .move (.tmp 0), none, .seq, [], []⟩,
    ⟨(some 19), .len .sl (.tmp 18), none, .seq, [], []⟩,
    ⟨(some 7), .move (.tmp 19), none, .seq, [], []⟩])
  (.seq (.region [⟨(some 20), .move (.tmp 0), none, .still, [], []⟩,
    ⟨(some 21), .move (.tmp 1), none, .still, [], []⟩,
    ⟨(some 22), .slice (.sl 3) (.tmp 20) none (some (.tmp 21)) none, none, .mk, [], []⟩,
    ⟨(some 23), .move (.tmp 0), none, .still, [], []⟩,
    ⟨(some 24), .move (.tmp 2), none, .still, [], []⟩,
    ⟨(some 25), .slice (.sl 3) (.tmp 23) (some (.tmp 24)) none none, none, .mk, [], []⟩,
    ⟨(some 26), .append 3 24 (.tmp 22) (.tmp 25), none, .seq, [], []⟩,
    ⟨(some 0), .move (.tmp 26), none, .still, [], []⟩])
  (.seq (.region [⟨(some 27), .move (.tmp 0), none, .seq, [], []⟩,
    ⟨(some 28), .move (.tmp 0), none, .seq, [], []⟩,
    ⟨(some 29), .len .sl (.tmp 28), none, .seq, [], []⟩,
    ⟨(some 30), .move (.tmp 7), none, .seq, [], []⟩,
    ⟨(some 31), .slice (.sl 3) (.tmp 27) (some (.tmp 29)) (some (.tmp 30)) none, none, .seq, [], []⟩,
    ⟨none, .clearSlice [(.int .i64 0), (.int .i64 0), (.int .i64 0)] (.tmp 31), none, .seq, [], []⟩])
  (.seq (.region [⟨(some 32), .move (.tmp 0), none, .seq, [], []⟩,
    ⟨(some 6), .move (.tmp 32), none, .seq, [], []⟩])
  .ret)))))))⟩

/-- slices.Clone[[]forecourt/api.ShopCar,forecourt/api.ShopCar] -/
def f67 : AFunc := ⟨1, [.tmp 2],
  (.seq (.region [⟨(some 2), .move (.const (.slice none 0 0)), none, .seq, [], []⟩])
  (.seq (.seq (.region [⟨(some 3), .move (.tmp 0), none, .seq, [], []⟩,
     ⟨(some 4), .nilEq false .sl (.tmp 3) (.const (.slice none 0 0)), none, .seq, [], []⟩])
   (.cond (.tmp 4)
    (.seq (.region [⟨(some 2), .move (.const (.slice none 0 0)), none, .seq, [], []⟩])
    .ret)
    .skip))
  (.seq (.region [⟨(some 5), .buildSlice 3 [(.int .i64 0), (.int .i64 0), (.int .i64 0)] 0 [], none, .seq, [], []⟩,
    ⟨(some 6), .move (.tmp 0), none, .seq, [], []⟩,
    ⟨(some 7), .append 3 24 (.tmp 5) (.tmp 6), none, .seq, [], []⟩,
    ⟨(some 2), .move (.tmp 7), none, .seq, [], []⟩])
  .ret)))⟩

def f68l0 : ACode :=
  (.keep [1, 4, 5, 6]
      (.seq (.seq (.region [⟨(some 9), .move (.tmp 6), none, .seq, [], []⟩,
         ⟨(some 10), .fieldAddr 2 (.tmp 1), none, .seq, [], []⟩,
         ⟨(some 11), .load none (.tmp 10), none, .seq, [], []⟩,
         ⟨(some 12), .len .sl (.tmp 11), none, .seq, [], []⟩,
         ⟨(some 13), .bin .shl (.const (.int .i64 1)) (.tmp 12), none, .seq, [], []⟩,
         ⟨(some 14), .bin .lss (.tmp 9) (.tmp 13), none, .seq, [], []⟩])
       (.cond (.tmp 14)
        .skip
        (.exit 0)))
      (.seq (.block 1
        (.seq (.region [⟨(some 17), .move (.tmp 6), none, .seq, [], []⟩,
          ⟨(some 18), .call 89 [(.tmp 17)], none, .seq, [], []⟩,
          ⟨(some 7), .move (.tmp 18), none, .seq, [], []⟩])
        (.seq (.region [⟨(some 19), .load (some 3) (.tmp 1), none, .seq, [], []⟩,
          ⟨(some 20), .move (.tmp 7), none, .seq, [], []⟩,
          ⟨(some 21), .call 90 [(.tmp 19), (.tmp 20)], none, .seq, [], []⟩,
          ⟨(some 8), .move (.tmp 21), none, .seq, [], []⟩])
        (.seq (.seq (.region [⟨(some 22), .move (.tmp 8), none, .seq, [], []⟩,
           ⟨(some 23), .move (.tmp 5), none, .seq, [], []⟩,
           ⟨(some 24), .bin .lss (.tmp 22) (.tmp 23), none, .seq, [], []⟩,
           ⟨(some 25), .move (.tmp 24), none, .seq, [], []⟩,
           ⟨(some 26), .load (some 3) (.tmp 1), some (25, false), .seq, [], []⟩,
           ⟨(some 27), .move (.tmp 7), some (25, false), .seq, [], []⟩,
           ⟨(some 28), .call 64 [(.tmp 26), (.tmp 27)], some (25, false), .seq, [], []⟩,
           ⟨(some 29), .un .not (.tmp 28), some (25, false), .seq, [], []⟩,
           ⟨(some 30), .pick (.tmp 25) (.const (.bool true)) (.tmp 29), none, .seq, [], []⟩])
         (.cond (.tmp 30)
          (.exit 1)
          .skip))
        (.seq (.seq (.region [⟨(some 31), .move (.tmp 8), none, .seq, [], []⟩,
           ⟨(some 32), .move (.tmp 5), none, .seq, [], []⟩,
           ⟨(some 33), .bin .gtr (.tmp 31) (.tmp 32), none, .seq, [], []⟩])
         (.cond (.tmp 33)
          (.region [⟨(some 34), .move (.tmp 8), none, .seq, [], []⟩,
           ⟨(some 5), .move (.tmp 34), none, .seq, [], []⟩,
           ⟨(some 4), .move (.const (.slice none 0 0)), none, .seq, [], []⟩])
          .skip))
        (.region [⟨(some 35), .move (.tmp 4), none, .seq, [], []⟩,
         ⟨(some 36), .move (.tmp 7), none, .seq, [], []⟩,
         ⟨(some 37), .buildSlice 1 [(.slice none 0 0)] 1 [(0, (.tmp 36))], none, .seq, [], []⟩,
         ⟨(some 38), .append 1 24 (.tmp 35) (.tmp 37), none, .seq, [], []⟩,
         ⟨(some 4), .move (.tmp 38), none, .seq, [], []⟩]))))))
      (.region [⟨(some 15), .move (.tmp 6), none, .seq, [], []⟩,
       ⟨(some 16), .bin .add (.tmp 15) (.const (.int .i64 1)), none, .seq, [], []⟩,
       ⟨(some 6), .move (.tmp 16), none, .seq, [], []⟩]))))

/-- forecourt/forecourtref11.best -/
def f68 : AFunc := ⟨1, [.tmp 2, .tmp 3],
  (.seq (.region [⟨(some 1), .box (.tmp 0), none, .seq, [], []⟩,
    ⟨(some 2), .move (.const (.slice none 0 0)), none, .seq, [], []⟩,
    ⟨(some 3), .move (.const (.int .i64 0)), none, .seq, [], []⟩])
  (.seq (.region [⟨(some 4), .move (.const (.slice none 0 0)), none, .seq, [], []⟩])
  (.seq (.region [⟨(some 5), .move (.const (.int .i64 0)), none, .seq, [], []⟩])
  (.seq (.seq (.region [⟨(some 6), .move (.const (.int .i64 0)), none, .seq, [], []⟩])
   (.block 0
    (.loop f68l0)))
  (.seq (.region [⟨(some 39), .move (.tmp 4), none, .seq, [], []⟩,
    ⟨(some 40), .move (.tmp 5), none, .seq, [], []⟩,
    ⟨(some 2), .move (.tmp 39), none, .seq, [], []⟩,
    ⟨(some 3), .move (.tmp 40), none, .seq, [], []⟩])
  .ret)))))⟩

/-- slices.ContainsFunc[[]forecourt/api.ShopPrice,forecourt/api.ShopPrice] -/
def f69 : AFunc := ⟨2, [.tmp 4],
  (.seq (.region [⟨(some 4), .move (.const (.bool false)), none, .seq, [], []⟩])
  (.seq (.region [⟨(some 5), .move (.tmp 0), none, .seq, [], []⟩,
    ⟨(some 6), .move (.tmp 1), none, .seq, [], []⟩,
    ⟨(some 7), .call 91 [(.tmp 5), (.tmp 6)], none, .seq, [], []⟩,
    ⟨(some 8), .bin .geq (.tmp 7) (.const (.int .i64 0)), none, .seq, [], []⟩,
    ⟨(some 4), .move (.tmp 8), none, .seq, [], []⟩])
  .ret))⟩

/-- forecourt/shop.CheckPrices$1 -/
def f70 : AFunc := ⟨2, [.tmp 3],
  (.seq (.region [⟨(some 2), .box (.tmp 0), none, .seq, [], []⟩,
    ⟨(some 3), .move (.const (.bool false)), none, .seq, [], []⟩])
  (.seq (.region [⟨(some 4), .load (some 3) (.tmp 1), none, .seq, [], []⟩,
    ⟨(some 5), .fieldAddr 0 (.tmp 2), none, .seq, [], []⟩,
    ⟨(some 6), .load none (.tmp 5), none, .seq, [], []⟩,
    ⟨(some 7), .fieldAddr 1 (.tmp 2), none, .seq, [], []⟩,
    ⟨(some 8), .load none (.tmp 7), none, .seq, [], []⟩,
    ⟨(some 9), .call 54 [(.tmp 4), (.tmp 6), (.tmp 8)], none, .seq, [], []⟩,
    ⟨(some 10), .un .not (.tmp 9), none, .seq, [], []⟩,
    ⟨(some 11), .move (.tmp 10), none, .seq, [], []⟩,
    ⟨(some 12), .fieldAddr 2 (.tmp 2), some (11, false), .seq, [], []⟩,
    ⟨(some 13), .load none (.tmp 12), some (11, false), .seq, [], []⟩,
    ⟨(some 14), .buildSlice 1 [(.int .i64 0)] 1 [(0, (.tmp 13))], some (11, false), .seq, [], []⟩,
    ⟨(some 15), .call 55 [(.const (.int .i64 0)), (.const (.int .i64 1099511627776)), (.tmp 14)], some (11, false), .seq, [], []⟩,
    ⟨(some 16), .un .not (.tmp 15), some (11, false), .seq, [], []⟩,
    ⟨(some 17), .pick (.tmp 11) (.const (.bool true)) (.tmp 16), none, .seq, [], []⟩,
    ⟨(some 3), .move (.tmp 17), none, .seq, [], []⟩])
  .ret))⟩

def f71l0 : ACode :=
  (.keep [0, 2, 3, 6, 7, 8, 51, 52, 53, 68, 69, 70]
           (.seq (.region [⟨(some 71), .bin .lss (.tmp 70) (.tmp 69), none, .seq, [], []⟩])
           (.seq (.cond (.tmp 71)
             .skip
             (.exit 4))
           (.seq (.block 5
             (.seq (.region [⟨(some 72), .indexAddr none 2 (.tmp 68) (.tmp 70), none, .seq, [], []⟩,
               ⟨(some 73), .load (some 2) (.tmp 72), none, .seq, [], []⟩,
               ⟨(some 11), .alloc [(.int .i64 0), (.int .i64 0)], none, .seq, [], []⟩,
               ⟨none, .store 2 (.tmp 11) (.tmp 73), none, .seq, [], []⟩])
             (.seq (.region [⟨(some 74), .load none (.tmp 6), none, .rd, [], []⟩,
               ⟨(some 75), .load (some 2) (.tmp 11), none, .rd, [], []⟩,
               ⟨(some 76), .lookup (.flat [.int, .int]) (.int .i64 0) false (.tmp 74) (.tmp 75), none, .rd, [], []⟩,
               ⟨(some 77), .load none (.tmp 8), none, .rd, [], []⟩,
               ⟨(some 78), .move (.tmp 3), none, .still, [], []⟩,
               ⟨(some 79), .move (.tmp 7), none, .still, [], []⟩,
               ⟨(some 80), .indexAddr none 1 (.tmp 78) (.tmp 79), none, .still, [], []⟩,
               ⟨(some 81), .load none (.tmp 80), none, .rd, [], []⟩,
               ⟨(some 82), .bin .sub (.tmp 77) (.tmp 81), none, .still, [], []⟩,
               ⟨(some 83), .bin .add (.tmp 76) (.tmp 82), none, .still, [], []⟩,
               ⟨(some 84), .mapEntry (.flat [.int, .int]) (.int .i64 0) (.tmp 74) (.tmp 75), none, .on, [], [7]⟩,
               ⟨(some 85), .extract (.tmp 84) 1, none, .still, [], []⟩,
               ⟨none, .entryStore (.tmp 74) (.tmp 85) (.tmp 83), none, .seq, [], []⟩])
             (.seq (.region [⟨(some 86), .load none (.tmp 6), none, .seq, [], []⟩,
               ⟨(some 87), .load (some 2) (.tmp 11), none, .seq, [], []⟩,
               ⟨(some 88), .lookup (.flat [.int, .int]) (.int .i64 0) false (.tmp 86) (.tmp 87), none, .seq, [], []⟩,
               ⟨(some 89), .bin .eql (.tmp 88) (.const (.int .i64 0)), none, .seq, [], []⟩])
             (.cond (.tmp 89)
              (.region [⟨(some 90), .load none (.tmp 6), none, .seq, [], []⟩,
               ⟨(some 91), .load (some 2) (.tmp 11), none, .seq, [], []⟩,
               ⟨none, .delete (.flat [.int, .int]) (.tmp 90) (.tmp 91), none, .seq, [], []⟩])
              .skip)))))
           (.region [⟨(some 92), .bin .add (.tmp 70) (.const (.int .i64 1)), none, .seq, [], []⟩,
            ⟨(some 70), .move (.tmp 92), none, .seq, [], []⟩])))))

def f71l1 : ACode :=
  (.keep [0, 2, 3, 6, 51, 52, 53]
      (.seq (.region [⟨(some 54), .bin .lss (.tmp 53) (.tmp 52), none, .seq, [], []⟩])
      (.seq (.cond (.tmp 54)
        .skip
        (.exit 2))
      (.seq (.block 3
        (.seq (.region [⟨(some 55), .move (.tmp 53), none, .seq, [], []⟩,
          ⟨(some 56), .indexAddr none 1 (.tmp 51) (.tmp 53), none, .seq, [], []⟩,
          ⟨(some 57), .load none (.tmp 56), none, .seq, [], []⟩,
          ⟨(some 8), .alloc [(.int .i64 0)], none, .seq, [], []⟩,
          ⟨(some 7), .move (.tmp 55), none, .seq, [], []⟩,
          ⟨none, .store 1 (.tmp 8) (.tmp 57), none, .seq, [], []⟩])
        (.seq (.region [⟨(some 58), .move (.tmp 0), none, .seq, [], []⟩,
          ⟨(some 59), .nilCheck (.tmp 58), none, .seq, [], []⟩,
          ⟨(some 60), .fieldAddr 0 (.tmp 59), none, .seq, [], []⟩,
          ⟨(some 61), .fieldAddr 2 (.tmp 60), none, .seq, [], []⟩,
          ⟨(some 62), .load none (.tmp 61), none, .seq, [], []⟩,
          ⟨(some 63), .call 67 [(.tmp 62)], none, .seq, [], []⟩,
          ⟨(some 64), .makeFunc 94 [] [(.tmp 8)], none, .seq, [], []⟩,
          ⟨(some 65), .call 93 [(.tmp 63), (.tmp 64)], none, .seq, [], []⟩,
          ⟨(some 9), .move (.tmp 65), none, .seq, [], []⟩])
        (.seq (.region [⟨(some 66), .move (.tmp 0), none, .seq, [], []⟩,
          ⟨(some 67), .move (.tmp 9), none, .seq, [], []⟩,
          ⟨(some 68), .call 95 [(.tmp 66), (.tmp 67)], none, .seq, [], []⟩,
          ⟨(some 69), .len .sl (.tmp 68), none, .seq, [], []⟩,
          ⟨(some 70), .move (.const (.int .i64 0)), none, .seq, [], []⟩])
        (.block 4
         (.loop f71l0))))))
      (.region [⟨(some 93), .bin .add (.tmp 53) (.const (.int .i64 1)), none, .seq, [], []⟩,
       ⟨(some 53), .move (.tmp 93), none, .seq, [], []⟩])))))

def f71l2 : ACode :=
  (.keep [0, 2, 3, 35, 36, 37]
      (.seq (.region [⟨(some 38), .bin .lss (.tmp 37) (.tmp 36), none, .seq, [], []⟩])
      (.seq (.cond (.tmp 38)
        .skip
        (.exit 0))
      (.seq (.block 1
        (.seq (.region [⟨(some 39), .indexAddr none 3 (.tmp 35) (.tmp 37), none, .seq, [], []⟩,
          ⟨(some 40), .load (some 3) (.tmp 39), none, .seq, [], []⟩,
          ⟨(some 5), .alloc [(.int .i64 0), (.int .i64 0), (.int .i64 0)], none, .seq, [], []⟩,
          ⟨none, .store 3 (.tmp 5) (.tmp 40), none, .seq, [], []⟩])
        (.region [⟨(some 41), .move (.tmp 3), none, .seq, [], []⟩,
         ⟨(some 42), .fieldAddr 2 (.tmp 5), none, .seq, [], []⟩,
         ⟨(some 43), .load none (.tmp 42), none, .seq, [], []⟩,
         ⟨(some 44), .buildSlice 1 [(.int .i64 0)] 1 [(0, (.tmp 43))], none, .seq, [], []⟩,
         ⟨(some 45), .append 1 8 (.tmp 41) (.tmp 44), none, .seq, [], []⟩,
         ⟨(some 3), .move (.tmp 45), none, .seq, [], []⟩])))
      (.region [⟨(some 46), .bin .add (.tmp 37) (.const (.int .i64 1)), none, .seq, [], []⟩,
       ⟨(some 37), .move (.tmp 46), none, .seq, [], []⟩])))))

/-- (*forecourt/shop.yard).prices -/
def f71 : AFunc := ⟨1, [.tmp 2],
  (.seq (.region [⟨(some 2), .move (.const (.slice none 0 0)), none, .seq, [], []⟩])
  (.seq (.seq (.region [⟨(some 16), .move (.tmp 0), none, .seq, [], []⟩,
     ⟨(some 17), .nilCheck (.tmp 16), none, .seq, [], []⟩,
     ⟨(some 18), .fieldAddr 0 (.tmp 17), none, .seq, [], []⟩,
     ⟨(some 19), .fieldAddr 1 (.tmp 18), none, .seq, [], []⟩,
     ⟨(some 20), .load none (.tmp 19), none, .seq, [], []⟩,
     ⟨(some 21), .bin .eql (.tmp 20) (.const (.int .i64 0)), none, .seq, [], []⟩])
   (.cond (.tmp 21)
    (.seq (.region [⟨(some 22), .move (.tmp 0), none, .seq, [], []⟩,
      ⟨(some 23), .nilCheck (.tmp 22), none, .seq, [], []⟩,
      ⟨(some 24), .fieldAddr 0 (.tmp 23), none, .seq, [], []⟩,
      ⟨(some 25), .fieldAddr 0 (.tmp 24), none, .seq, [], []⟩,
      ⟨(some 26), .load none (.tmp 25), none, .seq, [], []⟩,
      ⟨(some 27), .bin .sub (.tmp 26) (.const (.int .i64 1)), none, .seq, [], []⟩,
      ⟨(some 28), .build [(.int .i64 0), (.int .i64 0), (.int .i64 0)] (.list [(0, 1), (1, 1), (2, 1)]) [(0, (.const (.int .i64 0))), (1, (.tmp 27)), (2, (.const (.int .i64 1000)))], none, .seq, [], []⟩,
      ⟨(some 29), .buildSlice 3 [(.int .i64 0), (.int .i64 0), (.int .i64 0)] 1 [(0, (.tmp 28))], none, .seq, [], []⟩,
      ⟨(some 2), .move (.tmp 29), none, .seq, [], []⟩])
    .ret)
    .skip))
  (.seq (.region [⟨(some 30), .buildSlice 1 [(.int .i64 0)] 1 [(0, (.const (.int .i64 0)))], none, .seq, [], []⟩,
    ⟨(some 3), .move (.tmp 30), none, .seq, [], []⟩])
  (.seq (.seq (.region [⟨(some 31), .move (.tmp 0), none, .seq, [], []⟩,
     ⟨(some 32), .nilCheck (.tmp 31), none, .seq, [], []⟩,
     ⟨(some 33), .fieldAddr 0 (.tmp 32), none, .seq, [], []⟩,
     ⟨(some 34), .fieldAddr 2 (.tmp 33), none, .seq, [], []⟩,
     ⟨(some 35), .load none (.tmp 34), none, .seq, [], []⟩,
     ⟨(some 36), .len .sl (.tmp 35), none, .seq, [], []⟩,
     ⟨(some 37), .move (.const (.int .i64 0)), none, .seq, [], []⟩])
   (.block 0
    (.loop f71l2)))
  (.seq (.region [⟨(some 47), .move (.tmp 3), none, .seq, [], []⟩,
    ⟨(some 48), .call 92 [(.tmp 47)], none, .seq, [], []⟩])
  (.seq (.region [⟨(some 49), .makeMap, none, .seq, [], []⟩,
    ⟨(some 6), .alloc [(.map none)], none, .seq, [], []⟩,
    ⟨none, .store 1 (.tmp 6) (.tmp 49), none, .seq, [], []⟩])
  (.seq (.seq (.region [⟨(some 50), .move (.tmp 3), none, .seq, [], []⟩,
     ⟨(some 51), .slice (.sl 1) (.tmp 50) (some (.const (.int .i64 1))) none none, none, .seq, [], []⟩,
     ⟨(some 52), .len .sl (.tmp 51), none, .seq, [], []⟩,
     ⟨(some 53), .move (.const (.int .i64 0)), none, .seq, [], []⟩])
   (.block 2
    (.loop f71l1)))
  (.seq (.region [⟨(some 12), .alloc [(.slice none 0 0)], none, .seq, [], []⟩])
  (.seq (.seq (.region [⟨(some 94), .move (.tmp 0), none, .seq, [], []⟩,
     ⟨(some 95), .nilCheck (.tmp 94), none, .seq, [], []⟩,
     ⟨(some 96), .fieldAddr 0 (.tmp 95), none, .seq, [], []⟩,
     ⟨(some 97), .fieldAddr 0 (.tmp 96), none, .seq, [], []⟩,
     ⟨(some 98), .load none (.tmp 97), none, .seq, [], []⟩,
     ⟨(some 99), .call 58 [(.tmp 98)], none, .seq, [], []⟩])
   (.block 6
    (.rangeFunc (.tmp 99) [100]
     (.region [⟨(some 13), .alloc [(.int .i64 0), (.int .i64 0)], none, .seq, [], []⟩,
      ⟨none, .store 2 (.tmp 13) (.tmp 100), none, .seq, [], []⟩])
     (.block 7
      (.seq (.region [⟨(some 102), .load none (.tmp 6), none, .seq, [], []⟩,
        ⟨(some 103), .load (some 2) (.tmp 13), none, .seq, [], []⟩,
        ⟨(some 104), .lookup (.flat [.int, .int]) (.int .i64 0) true (.tmp 102) (.tmp 103), none, .seq, [], []⟩,
        ⟨(some 101), .move (.tmp 104), none, .seq, [], []⟩,
        ⟨(some 105), .extract (.tmp 101) 0, none, .seq, [], []⟩,
        ⟨(some 106), .extract (.tmp 101) 1, none, .seq, [], []⟩,
        ⟨(some 14), .move (.tmp 105), none, .seq, [], []⟩,
        ⟨(some 15), .move (.tmp 106), none, .seq, [], []⟩])
      (.seq (.region [⟨(some 107), .move (.tmp 15), none, .seq, [], []⟩])
      (.cond (.tmp 107)
       (.region [⟨(some 108), .load none (.tmp 12), none, .seq, [], []⟩,
        ⟨(some 109), .fieldAddr 0 (.tmp 13), none, .seq, [], []⟩,
        ⟨(some 110), .load none (.tmp 109), none, .seq, [], []⟩,
        ⟨(some 111), .fieldAddr 1 (.tmp 13), none, .seq, [], []⟩,
        ⟨(some 112), .load none (.tmp 111), none, .seq, [], []⟩,
        ⟨(some 113), .move (.tmp 14), none, .seq, [], []⟩,
        ⟨(some 114), .build [(.int .i64 0), (.int .i64 0), (.int .i64 0)] (.list [(0, 1), (1, 1), (2, 1)]) [(0, (.tmp 110)), (1, (.tmp 112)), (2, (.tmp 113))], none, .seq, [], []⟩,
        ⟨(some 115), .buildSlice 3 [(.int .i64 0), (.int .i64 0), (.int .i64 0)] 1 [(0, (.tmp 114))], none, .seq, [], []⟩,
        ⟨(some 116), .append 3 24 (.tmp 108) (.tmp 115), none, .seq, [], []⟩,
        ⟨none, .store 1 (.tmp 12) (.tmp 116), none, .seq, [], []⟩])
       .skip)))))))
  (.seq (.region [⟨(some 117), .load none (.tmp 12), none, .seq, [], []⟩,
    ⟨(some 2), .move (.tmp 117), none, .seq, [], []⟩])
  .ret))))))))))⟩

/-- forecourt/shop.isDate -/
def f72 : AFunc := ⟨1, [.tmp 2],
  (.seq (.region [⟨(some 1), .box (.tmp 0), none, .seq, [], []⟩,
    ⟨(some 2), .move (.const (.bool false)), none, .seq, [], []⟩])
  (.seq (.region [⟨(some 3), .fieldAddr 0 (.tmp 1), none, .still, [], []⟩,
    ⟨(some 4), .load none (.tmp 3), none, .seq, [], []⟩,
    ⟨(some 5), .buildSlice 1 [(.int .i64 0)] 1 [(0, (.tmp 4))], none, .seq, [], []⟩,
    ⟨(some 6), .call 55 [(.const (.int .i64 1)), (.const (.int .i64 9999)), (.tmp 5)], none, .seq, [], []⟩,
    ⟨(some 7), .move (.tmp 6), none, .still, [], []⟩,
    ⟨(some 8), .fieldAddr 1 (.tmp 1), some (7, true), .still, [], []⟩,
    ⟨(some 9), .load none (.tmp 8), some (7, true), .seq, [], []⟩,
    ⟨(some 10), .buildSlice 1 [(.int .i64 0)] 1 [(0, (.tmp 9))], some (7, true), .seq, [], []⟩,
    ⟨(some 11), .call 55 [(.const (.int .i64 1)), (.const (.int .i64 12)), (.tmp 10)], some (7, true), .seq, [], []⟩,
    ⟨(some 12), .pick (.tmp 7) (.tmp 11) (.const (.bool false)), none, .still, [], []⟩,
    ⟨(some 13), .move (.tmp 12), none, .still, [], []⟩,
    ⟨(some 14), .fieldAddr 2 (.tmp 1), some (13, true), .still, [], []⟩,
    ⟨(some 15), .load none (.tmp 14), some (13, true), .seq, [], []⟩,
    ⟨(some 16), .bin .geq (.tmp 15) (.const (.int .i64 1)), some (13, true), .still, [], []⟩,
    ⟨(some 17), .pick (.tmp 13) (.tmp 16) (.const (.bool false)), none, .still, [], []⟩,
    ⟨(some 18), .move (.tmp 17), none, .still, [], []⟩,
    ⟨(some 19), .fieldAddr 2 (.tmp 1), some (18, true), .still, [], []⟩,
    ⟨(some 20), .load none (.tmp 19), some (18, true), .rd, [], []⟩,
    ⟨(some 21), .fieldAddr 0 (.tmp 1), some (18, true), .still, [], []⟩,
    ⟨(some 22), .load none (.tmp 21), some (18, true), .rd, [], []⟩,
    ⟨(some 23), .fieldAddr 1 (.tmp 1), some (18, true), .still, [], []⟩,
    ⟨(some 24), .load none (.tmp 23), some (18, true), .rd, [], []⟩,
    ⟨(some 25), .call 96 [(.tmp 22), (.tmp 24)], some (18, true), .ro, [], []⟩,
    ⟨(some 26), .bin .leq (.tmp 20) (.tmp 25), some (18, true), .still, [], []⟩,
    ⟨(some 27), .pick (.tmp 18) (.tmp 26) (.const (.bool false)), none, .still, [], []⟩,
    ⟨(some 2), .move (.tmp 27), none, .still, [], []⟩])
  .ret))⟩

/-- forecourt/shop.Throw$1 -/
def f73 : AFunc := ⟨1, [.tmp 2],
  (.seq (.region [⟨(some 1), .box (.tmp 0), none, .seq, [], []⟩,
    ⟨(some 2), .move (.const (.bool false)), none, .seq, [], []⟩])
  (.seq (.region [⟨(some 3), .fieldAddr 0 (.tmp 1), none, .seq, [], []⟩,
    ⟨(some 4), .load none (.tmp 3), none, .seq, [], []⟩,
    ⟨(some 5), .bin .lss (.tmp 4) (.const (.int .i64 0)), none, .seq, [], []⟩,
    ⟨(some 6), .move (.tmp 5), none, .seq, [], []⟩,
    ⟨(some 7), .fieldAddr 0 (.tmp 1), some (6, false), .seq, [], []⟩,
    ⟨(some 8), .load none (.tmp 7), some (6, false), .seq, [], []⟩,
    ⟨(some 9), .bin .geq (.tmp 8) (.const (.int .i64 31)), some (6, false), .seq, [], []⟩,
    ⟨(some 10), .pick (.tmp 6) (.const (.bool true)) (.tmp 9), none, .seq, [], []⟩,
    ⟨(some 11), .move (.tmp 10), none, .seq, [], []⟩,
    ⟨(some 12), .fieldAddr 1 (.tmp 1), some (11, false), .seq, [], []⟩,
    ⟨(some 13), .load none (.tmp 12), some (11, false), .seq, [], []⟩,
    ⟨(some 14), .buildSlice 1 [(.int .i64 0)] 1 [(0, (.tmp 13))], some (11, false), .seq, [], []⟩,
    ⟨(some 15), .call 55 [(.const (.int .i64 0)), (.const (.int .i64 100000)), (.tmp 14)], some (11, false), .seq, [], []⟩,
    ⟨(some 16), .un .not (.tmp 15), some (11, false), .seq, [], []⟩,
    ⟨(some 17), .pick (.tmp 11) (.const (.bool true)) (.tmp 16), none, .seq, [], []⟩,
    ⟨(some 2), .move (.tmp 17), none, .seq, [], []⟩])
  .ret))⟩

/-- slices.ContainsFunc[[]forecourt/api.ShopBatch,forecourt/api.ShopBatch] -/
def f74 : AFunc := ⟨2, [.tmp 4],
  (.seq (.region [⟨(some 4), .move (.const (.bool false)), none, .seq, [], []⟩])
  (.seq (.region [⟨(some 5), .move (.tmp 0), none, .seq, [], []⟩,
    ⟨(some 6), .move (.tmp 1), none, .seq, [], []⟩,
    ⟨(some 7), .call 97 [(.tmp 5), (.tmp 6)], none, .seq, [], []⟩,
    ⟨(some 8), .bin .geq (.tmp 7) (.const (.int .i64 0)), none, .seq, [], []⟩,
    ⟨(some 4), .move (.tmp 8), none, .seq, [], []⟩])
  .ret))⟩

def f75l0 : ACode :=
  (.keep [0, 1, 5, 8, 9, 10]
      (.seq (.region [⟨(some 11), .bin .lss (.tmp 10) (.tmp 9), none, .seq, [], []⟩])
      (.seq (.cond (.tmp 11)
        .skip
        (.exit 0))
      (.seq (.block 1
        (.seq (.region [⟨(some 12), .move (.tmp 10), none, .seq, [], []⟩,
          ⟨(some 13), .indexAddr none 1 (.tmp 8) (.tmp 10), none, .seq, [], []⟩,
          ⟨(some 14), .load none (.tmp 13), none, .seq, [], []⟩,
          ⟨(some 6), .move (.tmp 12), none, .seq, [], []⟩,
          ⟨(some 7), .move (.tmp 14), none, .seq, [], []⟩])
        (.seq (.region [⟨(some 15), .move (.tmp 1), none, .still, [], []⟩,
          ⟨(some 16), .move (.tmp 7), none, .still, [], []⟩,
          ⟨(some 17), .callv (.tmp 15) [(.tmp 16)], none, .ro, [], []⟩,
          ⟨(some 18), .move (.tmp 1), none, .still, [], []⟩,
          ⟨(some 19), .move (.tmp 0), none, .still, [], []⟩,
          ⟨(some 20), .move (.tmp 5), none, .still, [], []⟩,
          ⟨(some 21), .indexAddr none 1 (.tmp 19) (.tmp 20), none, .still, [], []⟩,
          ⟨(some 22), .load none (.tmp 21), none, .rd, [4], []⟩,
          ⟨(some 23), .callv (.tmp 18) [(.tmp 22)], none, .seq, [], []⟩,
          ⟨(some 24), .bin .gtr (.tmp 17) (.tmp 23), none, .still, [], []⟩])
        (.cond (.tmp 24)
         (.region [⟨(some 25), .move (.tmp 6), none, .seq, [], []⟩,
          ⟨(some 5), .move (.tmp 25), none, .seq, [], []⟩])
         .skip))))
      (.region [⟨(some 26), .bin .add (.tmp 10) (.const (.int .i64 1)), none, .seq, [], []⟩,
       ⟨(some 10), .move (.tmp 26), none, .seq, [], []⟩])))))

/-- forecourt/shop.greatest[int64] -/
def f75 : AFunc := ⟨2, [.tmp 4],
  (.seq (.region [⟨(some 4), .move (.const (.int .i64 0)), none, .seq, [], []⟩])
  (.seq (.region [⟨(some 5), .move (.const (.int .i64 0)), none, .seq, [], []⟩])
  (.seq (.seq (.region [⟨(some 8), .move (.tmp 0), none, .seq, [], []⟩,
     ⟨(some 9), .len .sl (.tmp 8), none, .seq, [], []⟩,
     ⟨(some 10), .move (.const (.int .i64 0)), none, .seq, [], []⟩])
   (.block 0
    (.loop f75l0)))
  (.seq (.region [⟨(some 27), .move (.tmp 5), none, .seq, [], []⟩,
    ⟨(some 4), .move (.tmp 27), none, .seq, [], []⟩])
  .ret))))⟩

/-- forecourt/shop.Throw$2 -/
def f76 : AFunc := ⟨1, [.tmp 2],
  (.seq (.region [⟨(some 2), .move (.const (.int .i64 0)), none, .seq, [], []⟩])
  (.seq (.region [⟨(some 3), .move (.tmp 0), none, .seq, [], []⟩,
    ⟨(some 2), .move (.tmp 3), none, .seq, [], []⟩])
  .ret))⟩

def f77l0 : ACode :=
  (.keep [0, 1, 7, 8]
      (.seq (.region [⟨(some 9), .bin .lss (.tmp 8) (.tmp 7), none, .seq, [], []⟩])
      (.seq (.cond (.tmp 9)
        .skip
        (.exit 0))
      (.seq (.block 1
        (.seq (.region [⟨(some 10), .move (.tmp 8), none, .seq, [], []⟩,
          ⟨(some 5), .move (.tmp 10), none, .seq, [], []⟩])
        (.seq (.region [⟨(some 11), .move (.tmp 1), none, .seq, [], []⟩,
          ⟨(some 12), .move (.tmp 0), none, .seq, [], []⟩,
          ⟨(some 13), .move (.tmp 5), none, .seq, [], []⟩,
          ⟨(some 14), .indexAddr none 3 (.tmp 12) (.tmp 13), none, .seq, [], []⟩,
          ⟨(some 15), .load (some 3) (.tmp 14), none, .seq, [], []⟩,
          ⟨(some 16), .callv (.tmp 11) [(.tmp 15)], none, .seq, [], []⟩])
        (.cond (.tmp 16)
         (.seq (.region [⟨(some 17), .move (.tmp 5), none, .seq, [], []⟩,
           ⟨(some 4), .move (.tmp 17), none, .seq, [], []⟩])
         .ret)
         .skip))))
      (.region [⟨(some 18), .bin .add (.tmp 8) (.const (.int .i64 1)), none, .seq, [], []⟩,
       ⟨(some 8), .move (.tmp 18), none, .seq, [], []⟩])))))

/-- slices.IndexFunc[[]forecourt/api.ShopCar,forecourt/api.ShopCar] -/
def f77 : AFunc := ⟨2, [.tmp 4],
  (.seq (.region [⟨(some 4), .move (.const (.int .i64 0)), none, .seq, [], []⟩])
  (.seq (.seq (.region [⟨(some 6), .move (.tmp 0), none, .seq, [], []⟩,
     ⟨(some 7), .len .sl (.tmp 6), none, .seq, [], []⟩,
     ⟨(some 8), .move (.const (.int .i64 0)), none, .seq, [], []⟩])
   (.block 0
    (.loop f77l0)))
  (.seq (.region [⟨(some 4), .move (.const (.int .i64 (-1))), none, .seq, [], []⟩])
  .ret)))⟩

/-- slices.ContainsFunc[[]int64,int64] -/
def f78 : AFunc := ⟨2, [.tmp 4],
  (.seq (.region [⟨(some 4), .move (.const (.bool false)), none, .seq, [], []⟩])
  (.seq (.region [⟨(some 5), .move (.tmp 0), none, .seq, [], []⟩,
    ⟨(some 6), .move (.tmp 1), none, .seq, [], []⟩,
    ⟨(some 7), .call 98 [(.tmp 5), (.tmp 6)], none, .seq, [], []⟩,
    ⟨(some 8), .bin .geq (.tmp 7) (.const (.int .i64 0)), none, .seq, [], []⟩,
    ⟨(some 4), .move (.tmp 8), none, .seq, [], []⟩])
  .ret))⟩

/-- forecourt/shop.within$1 -/
def f79 : AFunc := ⟨3, [.tmp 4],
  (.seq (.region [⟨(some 4), .move (.const (.bool false)), none, .seq, [], []⟩])
  (.seq (.region [⟨(some 5), .move (.tmp 0), none, .seq, [], []⟩,
    ⟨(some 6), .load none (.tmp 1), none, .seq, [], []⟩,
    ⟨(some 7), .bin .lss (.tmp 5) (.tmp 6), none, .seq, [], []⟩,
    ⟨(some 8), .move (.tmp 7), none, .seq, [], []⟩,
    ⟨(some 9), .move (.tmp 0), some (8, false), .seq, [], []⟩,
    ⟨(some 10), .load none (.tmp 2), some (8, false), .seq, [], []⟩,
    ⟨(some 11), .bin .gtr (.tmp 9) (.tmp 10), some (8, false), .seq, [], []⟩,
    ⟨(some 12), .pick (.tmp 8) (.const (.bool true)) (.tmp 11), none, .seq, [], []⟩,
    ⟨(some 4), .move (.tmp 12), none, .seq, [], []⟩])
  .ret))⟩

def f80l0 : ACode :=
  (.keep [0, 1, 3, 4, 5, 6]
          (.seq (.seq (.region [⟨(some 10), .move (.tmp 4), none, .seq, [], []⟩,
             ⟨(some 11), .load none (.tmp 1), none, .seq, [], []⟩,
             ⟨(some 12), .bin .lss (.tmp 10) (.tmp 11), none, .seq, [], []⟩])
           (.cond (.tmp 12)
            .skip
            (.exit 2)))
          (.seq (.block 3
            (.seq (.region [⟨(some 15), .move (.tmp 0), none, .seq, [], []⟩,
              ⟨(some 16), .move (.tmp 3), none, .seq, [], []⟩,
              ⟨(some 17), .move (.tmp 4), none, .seq, [], []⟩,
              ⟨(some 18), .build [(.int .i64 0), (.int .i64 0)] (.list [(0, 1), (1, 1)]) [(0, (.tmp 16)), (1, (.tmp 17))], none, .seq, [], []⟩,
              ⟨(some 19), .callv (.tmp 15) [(.tmp 18)], none, .seq, [], []⟩,
              ⟨(some 20), .un .not (.tmp 19), none, .seq, [], []⟩])
            (.cond (.tmp 20)
             .ret
             .skip)))
          (.region [⟨(some 13), .move (.tmp 4), none, .seq, [], []⟩,
           ⟨(some 14), .bin .add (.tmp 13) (.const (.int .i64 1)), none, .seq, [], []⟩,
           ⟨(some 4), .move (.tmp 14), none, .seq, [], []⟩]))))

def f80l1 : ACode :=
  (.keep [0, 1, 5, 6]
     (.seq (.region [⟨(some 7), .bin .lss (.tmp 6) (.tmp 5), none, .seq, [], []⟩])
     (.seq (.cond (.tmp 7)
       .skip
       (.exit 0))
     (.seq (.block 1
       (.seq (.region [⟨(some 8), .move (.tmp 6), none, .seq, [], []⟩,
         ⟨(some 3), .move (.tmp 8), none, .seq, [], []⟩])
       (.seq (.region [⟨(some 9), .move (.tmp 3), none, .seq, [], []⟩,
         ⟨(some 4), .move (.tmp 9), none, .seq, [], []⟩])
       (.block 2
        (.loop f80l0)))))
     (.region [⟨(some 21), .bin .add (.tmp 6) (.const (.int .i64 1)), none, .seq, [], []⟩,
      ⟨(some 6), .move (.tmp 21), none, .seq, [], []⟩])))))

/-- forecourt/shop.windows$1 -/
def f80 : AFunc := ⟨2, [],
  (.seq (.region [⟨(some 5), .load none (.tmp 1), none, .seq, [], []⟩,
    ⟨(some 6), .move (.const (.int .i64 0)), none, .seq, [], []⟩])
  (.block 0
   (.loop f80l1)))⟩

/-- slices.Clone[[]int,int] -/
def f81 : AFunc := ⟨1, [.tmp 2],
  (.seq (.region [⟨(some 2), .move (.const (.slice none 0 0)), none, .seq, [], []⟩])
  (.seq (.seq (.region [⟨(some 3), .move (.tmp 0), none, .seq, [], []⟩,
     ⟨(some 4), .nilEq false .sl (.tmp 3) (.const (.slice none 0 0)), none, .seq, [], []⟩])
   (.cond (.tmp 4)
    (.seq (.region [⟨(some 2), .move (.const (.slice none 0 0)), none, .seq, [], []⟩])
    .ret)
    .skip))
  (.seq (.region [⟨(some 5), .buildSlice 1 [(.int .i64 0)] 0 [], none, .seq, [], []⟩,
    ⟨(some 6), .move (.tmp 0), none, .seq, [], []⟩,
    ⟨(some 7), .append 1 8 (.tmp 5) (.tmp 6), none, .seq, [], []⟩,
    ⟨(some 2), .move (.tmp 7), none, .seq, [], []⟩])
  .ret)))⟩

/-- slices.SortStableFunc[[]int,int] -/
def f82 : AFunc := ⟨2, [],
  (.region [⟨(some 4), .move (.tmp 0), none, .seq, [], []⟩,
   ⟨(some 5), .move (.tmp 0), none, .seq, [], []⟩,
   ⟨(some 6), .len .sl (.tmp 5), none, .seq, [], []⟩,
   ⟨(some 7), .move (.tmp 1), none, .seq, [], []⟩,
   ⟨(some 8), .call 99 [(.tmp 4), (.tmp 6), (.tmp 7)], none, .seq, [], []⟩])⟩

/-- (*forecourt/shop.yard).fit$1 -/
def f83 : AFunc := ⟨3, [.tmp 5],
  (.seq (.region [⟨(some 5), .move (.const (.int .i64 0)), none, .seq, [], []⟩])
  (.seq (.region [⟨(some 6), .load none (.tmp 2), none, .rd, [], []⟩,
    ⟨(some 7), .nilCheck (.tmp 6), none, .still, [], []⟩,
    ⟨(some 8), .fieldAddr 0 (.tmp 7), none, .still, [], []⟩,
    ⟨(some 9), .fieldAddr 2 (.tmp 8), none, .still, [], []⟩,
    ⟨(some 10), .load none (.tmp 9), none, .rd, [], []⟩,
    ⟨(some 11), .move (.tmp 0), none, .still, [], []⟩,
    ⟨(some 12), .indexAddr none 3 (.tmp 10) (.tmp 11), none, .still, [], []⟩,
    ⟨(some 13), .fieldAddr 1 (.tmp 12), none, .still, [], []⟩,
    ⟨(some 14), .load none (.tmp 13), none, .rd, [], []⟩,
    ⟨(some 15), .load none (.tmp 2), none, .rd, [], []⟩,
    ⟨(some 16), .nilCheck (.tmp 15), none, .still, [], []⟩,
    ⟨(some 17), .fieldAddr 0 (.tmp 16), none, .still, [], []⟩,
    ⟨(some 18), .fieldAddr 2 (.tmp 17), none, .still, [], []⟩,
    ⟨(some 19), .load none (.tmp 18), none, .rd, [], []⟩,
    ⟨(some 20), .move (.tmp 1), none, .still, [], []⟩,
    ⟨(some 21), .indexAddr none 3 (.tmp 19) (.tmp 20), none, .still, [], []⟩,
    ⟨(some 22), .fieldAddr 1 (.tmp 21), none, .still, [], []⟩,
    ⟨(some 23), .load none (.tmp 22), none, .rd, [], []⟩,
    ⟨(some 24), .call 84 [(.tmp 14), (.tmp 23)], none, .seq, [], []⟩,
    ⟨(some 5), .move (.tmp 24), none, .still, [], []⟩])
  .ret))⟩

/-- cmp.Compare[int] -/
def f84 : AFunc := ⟨2, [.tmp 4],
  (.seq (.region [⟨(some 4), .move (.const (.int .i64 0)), none, .seq, [], []⟩])
  (.seq (.region [⟨(some 7), .move (.tmp 0), none, .seq, [], []⟩,
    ⟨(some 8), .call 100 [(.tmp 7)], none, .seq, [], []⟩,
    ⟨(some 5), .move (.tmp 8), none, .seq, [], []⟩])
  (.seq (.region [⟨(some 9), .move (.tmp 1), none, .seq, [], []⟩,
    ⟨(some 10), .call 100 [(.tmp 9)], none, .seq, [], []⟩,
    ⟨(some 6), .move (.tmp 10), none, .seq, [], []⟩])
  (.seq (.seq (.region [⟨(some 11), .move (.tmp 5), none, .seq, [], []⟩])
   (.cond (.tmp 11)
    (.seq (.seq (.region [⟨(some 12), .move (.tmp 6), none, .seq, [], []⟩])
     (.cond (.tmp 12)
      (.seq (.region [⟨(some 4), .move (.const (.int .i64 0)), none, .seq, [], []⟩])
      .ret)
      .skip))
    (.seq (.region [⟨(some 4), .move (.const (.int .i64 (-1))), none, .seq, [], []⟩])
    .ret))
    .skip))
  (.seq (.seq (.region [⟨(some 13), .move (.tmp 6), none, .seq, [], []⟩])
   (.cond (.tmp 13)
    (.seq (.region [⟨(some 4), .move (.const (.int .i64 1)), none, .seq, [], []⟩])
    .ret)
    .skip))
  (.seq (.seq (.region [⟨(some 14), .move (.tmp 0), none, .seq, [], []⟩,
     ⟨(some 15), .move (.tmp 1), none, .seq, [], []⟩,
     ⟨(some 16), .bin .lss (.tmp 14) (.tmp 15), none, .seq, [], []⟩])
   (.cond (.tmp 16)
    (.seq (.region [⟨(some 4), .move (.const (.int .i64 (-1))), none, .seq, [], []⟩])
    .ret)
    .skip))
  (.seq (.seq (.region [⟨(some 17), .move (.tmp 0), none, .seq, [], []⟩,
     ⟨(some 18), .move (.tmp 1), none, .seq, [], []⟩,
     ⟨(some 19), .bin .gtr (.tmp 17) (.tmp 18), none, .seq, [], []⟩])
   (.cond (.tmp 19)
    (.seq (.region [⟨(some 4), .move (.const (.int .i64 1)), none, .seq, [], []⟩])
    .ret)
    .skip))
  (.seq (.region [⟨(some 4), .move (.const (.int .i64 0)), none, .seq, [], []⟩])
  .ret))))))))⟩

/-- (*forecourt/shop.yard).fit$2 -/
def f85 : AFunc := ⟨3, [.tmp 4],
  (.seq (.region [⟨(some 4), .move (.const (.bool false)), none, .seq, [], []⟩])
  (.seq (.region [⟨(some 5), .load none (.tmp 1), none, .rd, [], []⟩,
    ⟨(some 6), .nilCheck (.tmp 5), none, .still, [], []⟩,
    ⟨(some 7), .fieldAddr 0 (.tmp 6), none, .still, [], []⟩,
    ⟨(some 8), .fieldAddr 2 (.tmp 7), none, .still, [], []⟩,
    ⟨(some 9), .load none (.tmp 8), none, .rd, [], []⟩,
    ⟨(some 10), .move (.tmp 0), none, .still, [], []⟩,
    ⟨(some 11), .indexAddr none 3 (.tmp 9) (.tmp 10), none, .still, [], []⟩,
    ⟨(some 12), .fieldAddr 0 (.tmp 11), none, .still, [], []⟩,
    ⟨(some 13), .load none (.tmp 12), none, .rd, [], []⟩,
    ⟨(some 14), .load none (.tmp 2), none, .rd, [], []⟩,
    ⟨(some 15), .bin .leq (.tmp 13) (.tmp 14), none, .still, [], []⟩,
    ⟨(some 16), .move (.tmp 15), none, .still, [], []⟩,
    ⟨(some 17), .load none (.tmp 2), some (16, true), .rd, [], []⟩,
    ⟨(some 18), .load none (.tmp 1), some (16, true), .rd, [], []⟩,
    ⟨(some 19), .nilCheck (.tmp 18), some (16, true), .still, [], []⟩,
    ⟨(some 20), .fieldAddr 0 (.tmp 19), some (16, true), .still, [], []⟩,
    ⟨(some 21), .fieldAddr 2 (.tmp 20), some (16, true), .still, [], []⟩,
    ⟨(some 22), .load none (.tmp 21), some (16, true), .rd, [], []⟩,
    ⟨(some 23), .move (.tmp 0), some (16, true), .still, [], []⟩,
    ⟨(some 24), .indexAddr none 3 (.tmp 22) (.tmp 23), some (16, true), .still, [], []⟩,
    ⟨(some 25), .fieldAddr 1 (.tmp 24), some (16, true), .still, [], []⟩,
    ⟨(some 26), .load none (.tmp 25), some (16, true), .rd, [], []⟩,
    ⟨(some 27), .bin .leq (.tmp 17) (.tmp 26), some (16, true), .still, [], []⟩,
    ⟨(some 28), .pick (.tmp 16) (.tmp 27) (.const (.bool false)), none, .still, [], []⟩,
    ⟨(some 29), .move (.tmp 28), none, .still, [], []⟩,
    ⟨(some 30), .load none (.tmp 1), some (29, true), .rd, [], []⟩,
    ⟨(some 31), .load none (.tmp 2), some (29, true), .rd, [], []⟩,
    ⟨(some 32), .nilCheck (.tmp 30), some (29, true), .still, [], []⟩,
    ⟨(some 33), .fieldAddr 3 (.tmp 32), some (29, true), .still, [], []⟩,
    ⟨(some 34), .indexAddr (some 24) 1 (.tmp 33) (.tmp 31), some (29, true), .still, [], []⟩,
    ⟨(some 35), .load none (.tmp 34), some (29, true), .rd, [], []⟩,
    ⟨(some 36), .load none (.tmp 1), some (29, true), .rd, [], []⟩,
    ⟨(some 37), .nilCheck (.tmp 36), some (29, true), .still, [], []⟩,
    ⟨(some 38), .fieldAddr 0 (.tmp 37), some (29, true), .still, [], []⟩,
    ⟨(some 39), .fieldAddr 1 (.tmp 38), some (29, true), .still, [], []⟩,
    ⟨(some 40), .load none (.tmp 39), some (29, true), .rd, [], []⟩,
    ⟨(some 41), .bin .lss (.tmp 35) (.tmp 40), some (29, true), .still, [], []⟩,
    ⟨(some 42), .pick (.tmp 29) (.tmp 41) (.const (.bool false)), none, .still, [], []⟩,
    ⟨(some 4), .move (.tmp 42), none, .still, [], []⟩])
  .ret))⟩

/-- (*forecourt/shop.yard).best$1 -/
def f86 : AFunc := ⟨3, [.tmp 4],
  (.seq (.region [⟨(some 4), .move (.const (.int .i64 0)), none, .seq, [], []⟩])
  (.seq (.seq (.region [⟨(some 5), .move (.tmp 0), none, .seq, [], []⟩,
     ⟨(some 6), .load none (.tmp 1), none, .seq, [], []⟩,
     ⟨(some 7), .bin .eql (.tmp 5) (.tmp 6), none, .seq, [], []⟩])
   (.cond (.tmp 7)
    (.seq (.region [⟨(some 4), .move (.const (.int .i64 1001)), none, .seq, [], []⟩])
    .ret)
    .skip))
  (.seq (.region [⟨(some 8), .load none (.tmp 2), none, .seq, [], []⟩,
    ⟨(some 9), .nilCheck (.tmp 8), none, .seq, [], []⟩,
    ⟨(some 10), .fieldAddr 0 (.tmp 9), none, .seq, [], []⟩,
    ⟨(some 11), .fieldAddr 2 (.tmp 10), none, .seq, [], []⟩,
    ⟨(some 12), .load none (.tmp 11), none, .seq, [], []⟩,
    ⟨(some 13), .move (.tmp 0), none, .seq, [], []⟩,
    ⟨(some 14), .indexAddr none 3 (.tmp 12) (.tmp 13), none, .seq, [], []⟩,
    ⟨(some 15), .fieldAddr 2 (.tmp 14), none, .seq, [], []⟩,
    ⟨(some 16), .load none (.tmp 15), none, .seq, [], []⟩,
    ⟨(some 4), .move (.tmp 16), none, .seq, [], []⟩])
  .ret)))⟩

/-- (*forecourt/shop.yard).best$2 -/
def f87 : AFunc := ⟨3, [.tmp 5],
  (.seq (.region [⟨(some 5), .move (.const (.int .i64 0)), none, .seq, [], []⟩])
  (.seq (.region [⟨(some 6), .load none (.tmp 2), none, .rd, [], []⟩,
    ⟨(some 7), .move (.tmp 1), none, .still, [], []⟩,
    ⟨(some 8), .callv (.tmp 6) [(.tmp 7)], none, .ro, [], []⟩,
    ⟨(some 9), .load none (.tmp 2), none, .rd, [0], []⟩,
    ⟨(some 10), .move (.tmp 0), none, .still, [], []⟩,
    ⟨(some 11), .callv (.tmp 9) [(.tmp 10)], none, .seq, [], []⟩,
    ⟨(some 12), .call 88 [(.tmp 8), (.tmp 11)], none, .seq, [], []⟩,
    ⟨(some 5), .move (.tmp 12), none, .still, [], []⟩])
  .ret))⟩

/-- cmp.Compare[int64] -/
def f88 : AFunc := ⟨2, [.tmp 4],
  (.seq (.region [⟨(some 4), .move (.const (.int .i64 0)), none, .seq, [], []⟩])
  (.seq (.region [⟨(some 7), .move (.tmp 0), none, .seq, [], []⟩,
    ⟨(some 8), .call 101 [(.tmp 7)], none, .seq, [], []⟩,
    ⟨(some 5), .move (.tmp 8), none, .seq, [], []⟩])
  (.seq (.region [⟨(some 9), .move (.tmp 1), none, .seq, [], []⟩,
    ⟨(some 10), .call 101 [(.tmp 9)], none, .seq, [], []⟩,
    ⟨(some 6), .move (.tmp 10), none, .seq, [], []⟩])
  (.seq (.seq (.region [⟨(some 11), .move (.tmp 5), none, .seq, [], []⟩])
   (.cond (.tmp 11)
    (.seq (.seq (.region [⟨(some 12), .move (.tmp 6), none, .seq, [], []⟩])
     (.cond (.tmp 12)
      (.seq (.region [⟨(some 4), .move (.const (.int .i64 0)), none, .seq, [], []⟩])
      .ret)
      .skip))
    (.seq (.region [⟨(some 4), .move (.const (.int .i64 (-1))), none, .seq, [], []⟩])
    .ret))
    .skip))
  (.seq (.seq (.region [⟨(some 13), .move (.tmp 6), none, .seq, [], []⟩])
   (.cond (.tmp 13)
    (.seq (.region [⟨(some 4), .move (.const (.int .i64 1)), none, .seq, [], []⟩])
    .ret)
    .skip))
  (.seq (.seq (.region [⟨(some 14), .move (.tmp 0), none, .seq, [], []⟩,
     ⟨(some 15), .move (.tmp 1), none, .seq, [], []⟩,
     ⟨(some 16), .bin .lss (.tmp 14) (.tmp 15), none, .seq, [], []⟩])
   (.cond (.tmp 16)
    (.seq (.region [⟨(some 4), .move (.const (.int .i64 (-1))), none, .seq, [], []⟩])
    .ret)
    .skip))
  (.seq (.seq (.region [⟨(some 17), .move (.tmp 0), none, .seq, [], []⟩,
     ⟨(some 18), .move (.tmp 1), none, .seq, [], []⟩,
     ⟨(some 19), .bin .gtr (.tmp 17) (.tmp 18), none, .seq, [], []⟩])
   (.cond (.tmp 19)
    (.seq (.region [⟨(some 4), .move (.const (.int .i64 1)), none, .seq, [], []⟩])
    .ret)
    .skip))
  (.seq (.region [⟨(some 4), .move (.const (.int .i64 0)), none, .seq, [], []⟩])
  .ret))))))))⟩

def f89l0 : ACode :=
  (.keep [0, 3, 4]
      (.seq (.seq (.region [⟨(some 5), .move (.tmp 0), none, .seq, [], []⟩,
         ⟨(some 6), .move (.tmp 4), none, .seq, [], []⟩,
         ⟨(some 7), .bin .shr (.tmp 5) (.tmp 6), none, .seq, [], []⟩,
         ⟨(some 8), .bin .gtr (.tmp 7) (.const (.int .i64 0)), none, .seq, [], []⟩])
       (.cond (.tmp 8)
        .skip
        (.exit 0)))
      (.seq (.block 1
        (.seq (.region [⟨(some 11), .move (.tmp 0), none, .seq, [], []⟩,
          ⟨(some 12), .move (.tmp 4), none, .seq, [], []⟩,
          ⟨(some 13), .bin .shr (.tmp 11) (.tmp 12), none, .seq, [], []⟩,
          ⟨(some 14), .bin .rem (.tmp 13) (.const (.int .i64 2)), none, .seq, [], []⟩,
          ⟨(some 15), .bin .eql (.tmp 14) (.const (.int .i64 1)), none, .seq, [], []⟩])
        (.cond (.tmp 15)
         (.region [⟨(some 16), .move (.tmp 3), none, .seq, [], []⟩,
          ⟨(some 17), .move (.tmp 4), none, .seq, [], []⟩,
          ⟨(some 18), .buildSlice 1 [(.int .i64 0)] 1 [(0, (.tmp 17))], none, .seq, [], []⟩,
          ⟨(some 19), .append 1 8 (.tmp 16) (.tmp 18), none, .seq, [], []⟩,
          ⟨(some 3), .move (.tmp 19), none, .seq, [], []⟩])
         .skip)))
      (.region [⟨(some 9), .move (.tmp 4), none, .seq, [], []⟩,
       ⟨(some 10), .bin .add (.tmp 9) (.const (.int .i64 1)), none, .seq, [], []⟩,
       ⟨(some 4), .move (.tmp 10), none, .seq, [], []⟩]))))

/-- forecourt/forecourtref11.List -/
def f89 : AFunc := ⟨1, [.tmp 2],
  (.seq (.region [⟨(some 2), .move (.const (.slice none 0 0)), none, .seq, [], []⟩])
  (.seq (.region [⟨(some 3), .move (.const (.slice none 0 0)), none, .seq, [], []⟩])
  (.seq (.seq (.region [⟨(some 4), .move (.const (.int .i64 0)), none, .seq, [], []⟩])
   (.block 0
    (.loop f89l0)))
  (.seq (.region [⟨(some 20), .move (.tmp 3), none, .seq, [], []⟩,
    ⟨(some 2), .move (.tmp 20), none, .seq, [], []⟩])
  .ret))))⟩

def f90l0 : ACode :=
  (.keep [1, 2, 5, 6]
      (.seq (.seq (.region [⟨(some 7), .move (.tmp 6), none, .seq, [], []⟩,
         ⟨(some 8), .move (.tmp 1), none, .seq, [], []⟩,
         ⟨(some 9), .len .sl (.tmp 8), none, .seq, [], []⟩,
         ⟨(some 10), .bin .lss (.tmp 7) (.tmp 9), none, .seq, [], []⟩])
       (.cond (.tmp 10)
        .skip
        (.exit 0)))
      (.seq (.block 1
        (.region [⟨(some 13), .move (.tmp 5), none, .still, [], []⟩,
         ⟨(some 14), .fieldAddr 2 (.tmp 2), none, .still, [], []⟩,
         ⟨(some 15), .load none (.tmp 14), none, .rd, [], []⟩,
         ⟨(some 16), .move (.tmp 1), none, .still, [], []⟩,
         ⟨(some 17), .move (.tmp 6), none, .still, [], []⟩,
         ⟨(some 18), .indexAddr none 1 (.tmp 16) (.tmp 17), none, .still, [], []⟩,
         ⟨(some 19), .load none (.tmp 18), none, .rd, [], []⟩,
         ⟨(some 20), .indexAddr none 3 (.tmp 15) (.tmp 19), none, .still, [], []⟩,
         ⟨(some 21), .fieldAddr 2 (.tmp 20), none, .still, [], []⟩,
         ⟨(some 22), .load none (.tmp 21), none, .seq, [], []⟩,
         ⟨(some 23), .bin .add (.tmp 13) (.tmp 22), none, .still, [], []⟩,
         ⟨(some 5), .move (.tmp 23), none, .still, [], []⟩]))
      (.region [⟨(some 11), .move (.tmp 6), none, .seq, [], []⟩,
       ⟨(some 12), .bin .add (.tmp 11) (.const (.int .i64 1)), none, .seq, [], []⟩,
       ⟨(some 6), .move (.tmp 12), none, .seq, [], []⟩]))))

/-- forecourt/forecourtref11.worth -/
def f90 : AFunc := ⟨2, [.tmp 4],
  (.seq (.region [⟨(some 2), .box (.tmp 0), none, .seq, [], []⟩,
    ⟨(some 4), .move (.const (.int .i64 0)), none, .seq, [], []⟩])
  (.seq (.region [⟨(some 5), .move (.const (.int .i64 0)), none, .seq, [], []⟩])
  (.seq (.seq (.region [⟨(some 6), .move (.const (.int .i64 0)), none, .seq, [], []⟩])
   (.block 0
    (.loop f90l0)))
  (.seq (.region [⟨(some 24), .move (.tmp 5), none, .seq, [], []⟩,
    ⟨(some 4), .move (.tmp 24), none, .seq, [], []⟩])
  .ret))))⟩

def f91l0 : ACode :=
  (.keep [0, 1, 7, 8]
      (.seq (.region [⟨(some 9), .bin .lss (.tmp 8) (.tmp 7), none, .seq, [], []⟩])
      (.seq (.cond (.tmp 9)
        .skip
        (.exit 0))
      (.seq (.block 1
        (.seq (.region [⟨(some 10), .move (.tmp 8), none, .seq, [], []⟩,
          ⟨(some 5), .move (.tmp 10), none, .seq, [], []⟩])
        (.seq (.region [⟨(some 11), .move (.tmp 1), none, .seq, [], []⟩,
          ⟨(some 12), .move (.tmp 0), none, .seq, [], []⟩,
          ⟨(some 13), .move (.tmp 5), none, .seq, [], []⟩,
          ⟨(some 14), .indexAddr none 3 (.tmp 12) (.tmp 13), none, .seq, [], []⟩,
          ⟨(some 15), .load (some 3) (.tmp 14), none, .seq, [], []⟩,
          ⟨(some 16), .callv (.tmp 11) [(.tmp 15)], none, .seq, [], []⟩])
        (.cond (.tmp 16)
         (.seq (.region [⟨(some 17), .move (.tmp 5), none, .seq, [], []⟩,
           ⟨(some 4), .move (.tmp 17), none, .seq, [], []⟩])
         .ret)
         .skip))))
      (.region [⟨(some 18), .bin .add (.tmp 8) (.const (.int .i64 1)), none, .seq, [], []⟩,
       ⟨(some 8), .move (.tmp 18), none, .seq, [], []⟩])))))

/-- slices.IndexFunc[[]forecourt/api.ShopPrice,forecourt/api.ShopPrice] -/
def f91 : AFunc := ⟨2, [.tmp 4],
  (.seq (.region [⟨(some 4), .move (.const (.int .i64 0)), none, .seq, [], []⟩])
  (.seq (.seq (.region [⟨(some 6), .move (.tmp 0), none, .seq, [], []⟩,
     ⟨(some 7), .len .sl (.tmp 6), none, .seq, [], []⟩,
     ⟨(some 8), .move (.const (.int .i64 0)), none, .seq, [], []⟩])
   (.block 0
    (.loop f91l0)))
  (.seq (.region [⟨(some 4), .move (.const (.int .i64 (-1))), none, .seq, [], []⟩])
  .ret)))⟩

/-- slices.Sort[[]int64,int64] -/
def f92 : AFunc := ⟨1, [],
  (.seq (.region [⟨(some 3), .move (.tmp 0), none, .seq, [], []⟩,
    ⟨(some 4), .len .sl (.tmp 3), none, .seq, [], []⟩,
    ⟨(some 2), .move (.tmp 4), none, .seq, [], []⟩])
  (.region [⟨(some 5), .move (.tmp 0), none, .seq, [], []⟩,
   ⟨(some 6), .move (.tmp 2), none, .seq, [], []⟩,
   ⟨(some 7), .move (.tmp 2), none, .seq, [], []⟩,
   ⟨(some 8), .convInt .u64 (.tmp 7), none, .seq, [], []⟩,
   ⟨(some 9), .call 103 [(.tmp 8)], none, .seq, [], []⟩,
   ⟨(some 10), .call 102 [(.tmp 5), (.const (.int .i64 0)), (.tmp 6), (.tmp 9)], none, .seq, [], []⟩]))⟩

def f93l0 : ACode :=
  (.keep [0, 1, 5, 6]
      (.seq (.seq (.region [⟨(some 16), .move (.tmp 6), none, .seq, [], []⟩,
         ⟨(some 17), .move (.tmp 0), none, .seq, [], []⟩,
         ⟨(some 18), .len .sl (.tmp 17), none, .seq, [], []⟩,
         ⟨(some 19), .bin .lss (.tmp 16) (.tmp 18), none, .seq, [], []⟩])
       (.cond (.tmp 19)
        .skip
        (.exit 0)))
      (.seq (.block 1
        (.seq (.region [⟨(some 22), .move (.tmp 0), none, .seq, [], []⟩,
          ⟨(some 23), .move (.tmp 6), none, .seq, [], []⟩,
          ⟨(some 24), .indexAddr none 3 (.tmp 22) (.tmp 23), none, .seq, [], []⟩,
          ⟨(some 25), .load (some 3) (.tmp 24), none, .seq, [], []⟩,
          ⟨(some 7), .alloc [(.int .i64 0), (.int .i64 0), (.int .i64 0)], none, .seq, [], []⟩,
          ⟨none, .store 3 (.tmp 7) (.tmp 25), none, .seq, [], []⟩])
        (.seq (.region [⟨(some 26), .move (.tmp 1), none, .seq, [], []⟩,
          ⟨(some 27), .load (some 3) (.tmp 7), none, .seq, [], []⟩,
          ⟨(some 28), .callv (.tmp 26) [(.tmp 27)], none, .seq, [], []⟩,
          ⟨(some 29), .un .not (.tmp 28), none, .seq, [], []⟩])
        (.cond (.tmp 29)
         (.seq (.region [⟨(some 30), .move (.tmp 0), none, .seq, [], []⟩,
           ⟨(some 31), .move (.tmp 5), none, .seq, [], []⟩,
           ⟨(some 32), .load (some 3) (.tmp 7), none, .seq, [], []⟩,
           ⟨(some 33), .indexAddr none 3 (.tmp 30) (.tmp 31), none, .seq, [], []⟩,
           ⟨none, .store 3 (.tmp 33) (.tmp 32), none, .seq, [], []⟩])
         (.region [⟨(some 34), .move (.tmp 5), none, .seq, [], []⟩,
          ⟨(some 35), .bin .add (.tmp 34) (.const (.int .i64 1)), none, .seq, [], []⟩,
          ⟨(some 5), .move (.tmp 35), none, .seq, [], []⟩]))
         .skip))))
      (.region [⟨(some 20), .move (.tmp 6), none, .seq, [], []⟩,
       ⟨(some 21), .bin .add (.tmp 20) (.const (.int .i64 1)), none, .seq, [], []⟩,
       ⟨(some 6), .move (.tmp 21), none, .seq, [], []⟩]))))

/-- slices.DeleteFunc[[]forecourt/api.ShopCar,forecourt/api.ShopCar] -/
def f93 : AFunc := ⟨2, [.tmp 4],
  (.seq (.region [⟨(some 4), .move (.const (.slice none 0 0)), none, .seq, [], []⟩])
  (.seq (.region [⟨(some 8), .move (.tmp 0), none, .seq, [], []⟩,
    ⟨(some 9), .move (.tmp 1), none, .seq, [], []⟩,
    ⟨(some 10), .call 77 [(.tmp 8), (.tmp 9)], none, .seq, [], []⟩,
    ⟨(some 5), .move (.tmp 10), none, .seq, [], []⟩])
  (.seq (.seq (.region [⟨(some 11), .move (.tmp 5), none, .seq, [], []⟩,
     ⟨(some 12), .bin .eql (.tmp 11) (.const (.int .i64 (-1))), none, .seq, [], []⟩])
   (.cond (.tmp 12)
    (.seq (.region [⟨(some 13), .move (.tmp 0), none, .seq, [], []⟩,
      ⟨(some 4), .move (.tmp 13), none, .seq, [], []⟩])
    .ret)
    .skip))
  (.seq (.seq (.region [⟨(some 14), .move (.tmp 5), none, .seq, [], []⟩,
     ⟨(some 15), .bin .add (.tmp 14) (.const (.int .i64 1)), none, .seq, [], []⟩,
     ⟨(some 6), .move (.tmp 15), none, .seq, [], []⟩])
   (.block 0
    (.loop f93l0)))
  (.seq (.region [⟨(some 36), .move (.tmp 0), none, .seq, [], []⟩,
    ⟨(some 37), .move (.tmp 5), none, .seq, [], []⟩,
    ⟨(some 38), .slice (.sl 3) (.tmp 36) (some (.tmp 37)) none none, none, .seq, [], []⟩,
    ⟨none, .clearSlice [(.int .i64 0), (.int .i64 0), (.int .i64 0)] (.tmp 38), none, .seq, [], []⟩])
  (.seq (.region [⟨(some 39), .move (.tmp 0), none, .seq, [], []⟩,
    ⟨(some 40), .move (.tmp 5), none, .seq, [], []⟩,
    ⟨(some 41), .slice (.sl 3) (.tmp 39) none (some (.tmp 40)) none, none, .seq, [], []⟩,
    ⟨(some 4), .move (.tmp 41), none, .seq, [], []⟩])
  .ret))))))⟩

/-- (*forecourt/shop.yard).prices$1 -/
def f94 : AFunc := ⟨2, [.tmp 3],
  (.seq (.region [⟨(some 2), .box (.tmp 0), none, .seq, [], []⟩,
    ⟨(some 3), .move (.const (.bool false)), none, .seq, [], []⟩])
  (.seq (.region [⟨(some 4), .fieldAddr 2 (.tmp 2), none, .seq, [], []⟩,
    ⟨(some 5), .load none (.tmp 4), none, .seq, [], []⟩,
    ⟨(some 6), .load none (.tmp 1), none, .seq, [], []⟩,
    ⟨(some 7), .bin .lss (.tmp 5) (.tmp 6), none, .seq, [], []⟩,
    ⟨(some 3), .move (.tmp 7), none, .seq, [], []⟩])
  .ret))⟩

def f95l0 : ACode :=
  (.keep [6, 14, 15]
      (.seq (.seq (.region [⟨(some 96), .move (.tmp 15), none, .seq, [], []⟩,
         ⟨(some 97), .bin .gtr (.tmp 96) (.const (.int .i64 0)), none, .seq, [], []⟩])
       (.cond (.tmp 97)
        .skip
        (.exit 6)))
      (.block 7
       (.seq (.region [⟨(some 98), .move (.tmp 6), none, .seq, [], []⟩,
         ⟨(some 99), .move (.tmp 15), none, .seq, [], []⟩,
         ⟨(some 100), .indexAddr none 2 (.tmp 98) (.tmp 99), none, .seq, [], []⟩,
         ⟨(some 101), .load (some 2) (.tmp 100), none, .seq, [], []⟩,
         ⟨(some 16), .alloc [(.int .i64 0), (.int .i64 0)], none, .seq, [], []⟩,
         ⟨none, .store 2 (.tmp 16) (.tmp 101), none, .seq, [], []⟩])
       (.seq (.seq (.region [⟨(some 102), .load (some 2) (.tmp 16), none, .seq, [], []⟩,
          ⟨(some 103), .build [(.int .i64 0), (.int .i64 0)] (.list [(0, 1), (1, 1)]) [(0, (.const (.int .i64 0))), (1, (.const (.int .i64 (-1))))], none, .seq, [], []⟩,
          ⟨(some 104), .eqFlat false [.int, .int] (.tmp 102) (.tmp 103), none, .seq, [], []⟩])
        (.cond (.tmp 104)
         (.seq (.region [⟨(some 105), .move (.tmp 15), none, .seq, [], []⟩,
           ⟨(some 106), .bin .sub (.tmp 105) (.const (.int .i64 1)), none, .seq, [], []⟩,
           ⟨(some 15), .move (.tmp 106), none, .seq, [], []⟩])
         (.exit 7))
         .skip))
       (.seq (.region [⟨(some 107), .move (.tmp 14), none, .seq, [], []⟩,
         ⟨(some 108), .load (some 2) (.tmp 16), none, .seq, [], []⟩,
         ⟨(some 109), .buildSlice 2 [(.int .i64 0), (.int .i64 0)] 1 [(0, (.tmp 108))], none, .seq, [], []⟩,
         ⟨(some 110), .append 2 16 (.tmp 107) (.tmp 109), none, .seq, [], []⟩,
         ⟨(some 14), .move (.tmp 110), none, .seq, [], []⟩])
       (.region [⟨(some 111), .fieldAddr 0 (.tmp 16), none, .seq, [], []⟩,
        ⟨(some 112), .load none (.tmp 111), none, .seq, [], []⟩,
        ⟨(some 15), .move (.tmp 112), none, .seq, [], []⟩])))))))

def f95l1 : ACode :=
  (.keep [0, 1, 5, 6, 7, 8, 9, 10, 24, 25, 40, 41, 54, 55, 56]
                 (.seq (.region [⟨(some 57), .bin .lss (.tmp 56) (.tmp 55), none, .seq, [], []⟩])
                 (.seq (.cond (.tmp 57)
                   .skip
                   (.exit 4))
                 (.seq (.block 5
                   (.seq (.region [⟨(some 58), .indexAddr none 3 (.tmp 54) (.tmp 56), none, .seq, [], []⟩,
                     ⟨(some 59), .load (some 3) (.tmp 58), none, .seq, [], []⟩,
                     ⟨(some 12), .alloc [(.int .i64 0), (.int .i64 0), (.int .i64 0)], none, .seq, [], []⟩,
                     ⟨none, .store 3 (.tmp 12) (.tmp 59), none, .seq, [], []⟩])
                   (.seq (.region [⟨(some 60), .load (some 2) (.tmp 9), none, .seq, [], []⟩,
                     ⟨(some 61), .load (some 3) (.tmp 12), none, .seq, [], []⟩,
                     ⟨(some 62), .call 59 [(.tmp 60), (.tmp 61)], none, .seq, [], []⟩])
                   (.cond (.tmp 62)
                    (.region [⟨(some 63), .move (.tmp 10), none, .seq, [], []⟩,
                     ⟨(some 64), .bin .add (.tmp 63) (.const (.int .i64 1)), none, .seq, [], []⟩,
                     ⟨(some 10), .move (.tmp 64), none, .seq, [], []⟩])
                    .skip))))
                 (.region [⟨(some 65), .bin .add (.tmp 56) (.const (.int .i64 1)), none, .seq, [], []⟩,
                  ⟨(some 56), .move (.tmp 65), none, .seq, [], []⟩])))))

def f95l2 : ACode :=
  (.keep [0, 1, 5, 6, 7, 24, 25, 40, 41]
           (.seq (.region [⟨(some 42), .bin .lss (.tmp 41) (.tmp 40), none, .seq, [], []⟩])
           (.seq (.cond (.tmp 42)
             .skip
             (.exit 2))
           (.seq (.block 3
             (.seq (.region [⟨(some 43), .move (.tmp 41), none, .seq, [], []⟩,
               ⟨(some 8), .move (.tmp 43), none, .seq, [], []⟩])
             (.seq (.region [⟨(some 44), .move (.tmp 8), none, .seq, [], []⟩,
               ⟨(some 45), .move (.tmp 7), none, .seq, [], []⟩,
               ⟨(some 46), .build [(.int .i64 0), (.int .i64 0)] (.list [(0, 1), (1, 1)]) [(0, (.tmp 44)), (1, (.tmp 45))], none, .seq, [], []⟩,
               ⟨(some 9), .alloc [(.int .i64 0), (.int .i64 0)], none, .seq, [], []⟩,
               ⟨none, .store 2 (.tmp 9) (.tmp 46), none, .seq, [], []⟩])
             (.seq (.region [⟨(some 47), .load (some 2) (.tmp 9), none, .rd, [], []⟩,
               ⟨(some 48), .move (.tmp 0), none, .still, [], []⟩,
               ⟨(some 49), .nilCheck (.tmp 48), none, .still, [], []⟩,
               ⟨(some 50), .fieldAddr 0 (.tmp 49), none, .still, [], []⟩,
               ⟨(some 51), .load (some 3) (.tmp 50), none, .rd, [], []⟩,
               ⟨(some 52), .call 60 [(.tmp 47), (.tmp 51)], none, .seq, [], []⟩,
               ⟨(some 53), .un .neg (.tmp 52), none, .still, [], []⟩,
               ⟨(some 10), .move (.tmp 53), none, .still, [], []⟩])
             (.seq (.seq (.region [⟨(some 54), .move (.tmp 1), none, .seq, [], []⟩,
                ⟨(some 55), .len .sl (.tmp 54), none, .seq, [], []⟩,
                ⟨(some 56), .move (.const (.int .i64 0)), none, .seq, [], []⟩])
              (.block 4
               (.loop f95l1)))
             (.seq (.region [⟨(some 66), .move (.tmp 5), none, .seq, [], []⟩,
               ⟨(some 67), .move (.tmp 8), none, .seq, [], []⟩,
               ⟨(some 68), .indexAddr none 1 (.tmp 66) (.tmp 67), none, .seq, [], []⟩,
               ⟨(some 69), .load none (.tmp 68), none, .seq, [], []⟩,
               ⟨(some 70), .move (.tmp 10), none, .seq, [], []⟩,
               ⟨(some 71), .bin .add (.tmp 69) (.tmp 70), none, .seq, [], []⟩,
               ⟨(some 13), .move (.tmp 71), none, .seq, [], []⟩])
             (.seq (.region [⟨(some 72), .move (.tmp 13), none, .seq, [], []⟩,
               ⟨(some 73), .move (.tmp 5), none, .seq, [], []⟩,
               ⟨(some 74), .move (.tmp 7), none, .seq, [], []⟩,
               ⟨(some 75), .bin .add (.tmp 74) (.const (.int .i64 1)), none, .seq, [], []⟩,
               ⟨(some 76), .indexAddr none 1 (.tmp 73) (.tmp 75), none, .seq, [], []⟩,
               ⟨(some 77), .load none (.tmp 76), none, .seq, [], []⟩,
               ⟨(some 78), .bin .gtr (.tmp 72) (.tmp 77), none, .seq, [], []⟩])
             (.cond (.tmp 78)
              (.region [⟨(some 79), .move (.tmp 5), none, .still, [], []⟩,
               ⟨(some 80), .move (.tmp 7), none, .still, [], []⟩,
               ⟨(some 81), .bin .add (.tmp 80) (.const (.int .i64 1)), none, .still, [], []⟩,
               ⟨(some 82), .move (.tmp 6), none, .still, [], []⟩,
               ⟨(some 83), .move (.tmp 7), none, .still, [], []⟩,
               ⟨(some 84), .bin .add (.tmp 83) (.const (.int .i64 1)), none, .still, [], []⟩,
               ⟨(some 85), .move (.tmp 13), none, .still, [], []⟩,
               ⟨(some 86), .load (some 2) (.tmp 9), none, .rd, [], []⟩,
               ⟨(some 87), .indexAddr none 1 (.tmp 79) (.tmp 81), none, .still, [], []⟩,
               ⟨none, .store 1 (.tmp 87) (.tmp 85), none, .on, [1], []⟩,
               ⟨(some 88), .indexAddr none 2 (.tmp 82) (.tmp 84), none, .still, [], []⟩,
               ⟨none, .store 2 (.tmp 88) (.tmp 86), none, .seq, [], []⟩])
              .skip))))))))
           (.region [⟨(some 89), .bin .add (.tmp 41) (.const (.int .i64 1)), none, .seq, [], []⟩,
            ⟨(some 41), .move (.tmp 89), none, .seq, [], []⟩])))))

def f95l3 : ACode :=
  (.keep [0, 1, 5, 6, 24, 25]
      (.seq (.region [⟨(some 26), .bin .lss (.tmp 25) (.tmp 24), none, .seq, [], []⟩])
      (.seq (.cond (.tmp 26)
        .skip
        (.exit 0))
      (.seq (.block 1
        (.seq (.region [⟨(some 27), .move (.tmp 25), none, .seq, [], []⟩,
          ⟨(some 7), .move (.tmp 27), none, .seq, [], []⟩])
        (.seq (.region [⟨(some 28), .move (.tmp 5), none, .seq, [], []⟩,
          ⟨(some 29), .move (.tmp 5), none, .seq, [], []⟩,
          ⟨(some 30), .move (.tmp 7), none, .seq, [], []⟩,
          ⟨(some 31), .indexAddr none 1 (.tmp 29) (.tmp 30), none, .seq, [], []⟩,
          ⟨(some 32), .load none (.tmp 31), none, .seq, [], []⟩,
          ⟨(some 33), .buildSlice 1 [(.int .i64 0)] 1 [(0, (.tmp 32))], none, .seq, [], []⟩,
          ⟨(some 34), .append 1 8 (.tmp 28) (.tmp 33), none, .seq, [], []⟩,
          ⟨(some 35), .move (.tmp 6), none, .seq, [], []⟩,
          ⟨(some 36), .build [(.int .i64 0), (.int .i64 0)] (.list [(0, 1), (1, 1)]) [(0, (.const (.int .i64 0))), (1, (.const (.int .i64 (-1))))], none, .seq, [], []⟩,
          ⟨(some 37), .buildSlice 2 [(.int .i64 0), (.int .i64 0)] 1 [(0, (.tmp 36))], none, .seq, [], []⟩,
          ⟨(some 38), .append 2 16 (.tmp 35) (.tmp 37), none, .seq, [], []⟩,
          ⟨(some 5), .move (.tmp 34), none, .seq, [], []⟩,
          ⟨(some 6), .move (.tmp 38), none, .seq, [], []⟩])
        (.seq (.region [⟨(some 39), .move (.tmp 7), none, .seq, [], []⟩,
          ⟨(some 40), .bin .add (.tmp 39) (.const (.int .i64 1)), none, .seq, [], []⟩,
          ⟨(some 41), .move (.const (.int .i64 0)), none, .seq, [], []⟩])
        (.block 2
         (.loop f95l2))))))
      (.region [⟨(some 90), .bin .add (.tmp 25) (.const (.int .i64 1)), none, .seq, [], []⟩,
       ⟨(some 25), .move (.tmp 90), none, .seq, [], []⟩])))))

/-- (*forecourt/shop.yard).tight -/
def f95 : AFunc := ⟨2, [.tmp 4],
  (.seq (.region [⟨(some 4), .move (.const (.slice none 0 0)), none, .seq, [], []⟩])
  (.seq (.region [⟨(some 17), .buildSlice 1 [(.int .i64 0)] 1 [(0, (.const (.int .i64 0)))], none, .seq, [], []⟩,
    ⟨(some 5), .move (.tmp 17), none, .seq, [], []⟩])
  (.seq (.region [⟨(some 18), .build [(.int .i64 0), (.int .i64 0)] (.list [(0, 1), (1, 1)]) [(0, (.const (.int .i64 0))), (1, (.const (.int .i64 (-1))))], none, .seq, [], []⟩,
    ⟨(some 19), .buildSlice 2 [(.int .i64 0), (.int .i64 0)] 1 [(0, (.tmp 18))], none, .seq, [], []⟩,
    ⟨(some 6), .move (.tmp 19), none, .seq, [], []⟩])
  (.seq (.seq (.region [⟨(some 20), .move (.tmp 0), none, .seq, [], []⟩,
     ⟨(some 21), .nilCheck (.tmp 20), none, .seq, [], []⟩,
     ⟨(some 22), .fieldAddr 0 (.tmp 21), none, .seq, [], []⟩,
     ⟨(some 23), .fieldAddr 0 (.tmp 22), none, .seq, [], []⟩,
     ⟨(some 24), .load none (.tmp 23), none, .seq, [], []⟩,
     ⟨(some 25), .move (.const (.int .i64 0)), none, .seq, [], []⟩])
   (.block 0
    (.loop f95l3)))
  (.seq (.region [⟨(some 14), .move (.const (.slice none 0 0)), none, .seq, [], []⟩])
  (.seq (.seq (.region [⟨(some 91), .move (.tmp 0), none, .seq, [], []⟩,
     ⟨(some 92), .nilCheck (.tmp 91), none, .seq, [], []⟩,
     ⟨(some 93), .fieldAddr 0 (.tmp 92), none, .seq, [], []⟩,
     ⟨(some 94), .fieldAddr 0 (.tmp 93), none, .seq, [], []⟩,
     ⟨(some 95), .load none (.tmp 94), none, .seq, [], []⟩,
     ⟨(some 15), .move (.tmp 95), none, .seq, [], []⟩])
   (.block 6
    (.loop f95l0)))
  (.seq (.region [⟨(some 113), .move (.tmp 14), none, .seq, [], []⟩,
    ⟨(some 4), .move (.tmp 113), none, .seq, [], []⟩])
  .ret)))))))⟩

end Go.Proofs.Ytbhgncfbljkdgaa.Fn
