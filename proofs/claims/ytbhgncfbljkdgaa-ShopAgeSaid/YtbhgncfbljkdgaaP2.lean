/-
  The abstract code of the functions that the laws reach, part 2. Printed by a program (Emit.lean).
-/
import Derived.Test.YtbhgncfbljkdgaaA1
namespace Go.Proofs.Ytbhgncfbljkdgaa.Fn
open Go Go.Proofs.Ytbhgncfbljkdgaa.AI

def f28l0 : ACode :=
  (.keep [1, 6, 7, 28, 29]
      (.seq (.region [⟨(some 30), .bin .lss (.tmp 29) (.tmp 28), none, .seq, [], []⟩])
      (.seq (.cond (.tmp 30)
        .skip
        (.exit 0))
      (.seq (.block 1
        (.seq (.region [⟨(some 31), .move (.tmp 29), none, .seq, [], []⟩,
          ⟨(some 8), .move (.tmp 31), none, .seq, [], []⟩])
        (.seq (.region [⟨(some 32), .load (some 3) (.tmp 1), none, .seq, [], []⟩,
          ⟨(some 9), .alloc [(.int .i64 0), (.int .i64 0), (.slice none 0 0)], none, .seq, [], []⟩,
          ⟨none, .store 3 (.tmp 9) (.tmp 32), none, .seq, [], []⟩])
        (.seq (.region [⟨(some 33), .fieldAddr 2 (.tmp 1), none, .seq, [], []⟩,
          ⟨(some 34), .load none (.tmp 33), none, .seq, [], []⟩,
          ⟨(some 35), .call 67 [(.tmp 34)], none, .seq, [], []⟩,
          ⟨(some 36), .move (.tmp 8), none, .seq, [], []⟩,
          ⟨(some 37), .move (.tmp 8), none, .seq, [], []⟩,
          ⟨(some 38), .bin .add (.tmp 37) (.const (.int .i64 1)), none, .seq, [], []⟩,
          ⟨(some 39), .call 66 [(.tmp 35), (.tmp 36), (.tmp 38)], none, .seq, [], []⟩,
          ⟨(some 40), .fieldAddr 2 (.tmp 9), none, .seq, [], []⟩,
          ⟨none, .store 1 (.tmp 40) (.tmp 39), none, .seq, [], []⟩])
        (.seq (.region [⟨(some 42), .load (some 3) (.tmp 9), none, .seq, [], []⟩,
          ⟨(some 43), .call 62 [(.tmp 42)], none, .seq, [], []⟩,
          ⟨(some 44), .call 65 [(.tmp 43), (.const (.int .i64 (-1)))], none, .seq, [], []⟩,
          ⟨(some 41), .move (.tmp 44), none, .seq, [], []⟩,
          ⟨(some 45), .extract (.tmp 41) 0, none, .seq, [], []⟩,
          ⟨(some 46), .extract (.tmp 41) 1, none, .seq, [], []⟩,
          ⟨(some 10), .move (.tmp 45), none, .seq, [], []⟩,
          ⟨(some 11), .move (.tmp 46), none, .seq, [], []⟩])
        (.seq (.region [⟨(some 48), .load (some 3) (.tmp 1), none, .seq, [], []⟩,
          ⟨(some 49), .call 62 [(.tmp 48)], none, .seq, [], []⟩,
          ⟨(some 50), .move (.tmp 8), none, .seq, [], []⟩,
          ⟨(some 51), .call 65 [(.tmp 49), (.tmp 50)], none, .seq, [], []⟩,
          ⟨(some 47), .move (.tmp 51), none, .seq, [], []⟩,
          ⟨(some 52), .extract (.tmp 47) 0, none, .seq, [], []⟩,
          ⟨(some 53), .extract (.tmp 47) 1, none, .seq, [], []⟩,
          ⟨(some 12), .move (.tmp 52), none, .seq, [], []⟩,
          ⟨(some 13), .move (.tmp 53), none, .seq, [], []⟩])
        (.seq (.region [⟨(some 14), .move (.const (.int .i64 0)), none, .seq, [], []⟩])
        (.seq (.block 2
          (.seq (.region [⟨(some 55), .move (.tmp 11), none, .seq, [], []⟩,
            ⟨(some 56), .move (.tmp 6), none, .seq, [], []⟩,
            ⟨(some 57), .bin .lss (.tmp 55) (.tmp 56), none, .seq, [], []⟩,
            ⟨(some 54), .move (.tmp 57), none, .seq, [], []⟩])
          (.cond (.tmp 54)
           (.region [⟨(some 14), .move (.const (.int .i64 2)), none, .seq, [], []⟩])
           (.seq (.region [⟨(some 59), .move (.tmp 13), none, .seq, [], []⟩,
             ⟨(some 60), .move (.tmp 6), none, .seq, [], []⟩,
             ⟨(some 61), .bin .eql (.tmp 59) (.tmp 60), none, .seq, [], []⟩,
             ⟨(some 62), .move (.tmp 61), none, .seq, [], []⟩,
             ⟨(some 63), .move (.tmp 12), some (62, true), .seq, [], []⟩,
             ⟨(some 64), .move (.tmp 8), some (62, true), .seq, [], []⟩,
             ⟨(some 65), .indexAddr none 1 (.tmp 63) (.tmp 64), some (62, true), .seq, [], []⟩,
             ⟨(some 66), .load none (.tmp 65), some (62, true), .seq, [], []⟩,
             ⟨(some 67), .bin .geq (.tmp 66) (.const (.int .i64 0)), some (62, true), .seq, [], []⟩,
             ⟨(some 68), .pick (.tmp 62) (.tmp 67) (.const (.bool false)), none, .seq, [], []⟩,
             ⟨(some 58), .move (.tmp 68), none, .seq, [], []⟩])
           (.cond (.tmp 58)
            (.region [⟨(some 14), .move (.const (.int .i64 1)), none, .seq, [], []⟩])
            .skip)))))
        (.region [⟨(some 69), .move (.tmp 7), none, .seq, [], []⟩,
         ⟨(some 70), .move (.tmp 7), none, .seq, [], []⟩,
         ⟨(some 71), .len .sl (.tmp 70), none, .seq, [], []⟩,
         ⟨(some 72), .move (.tmp 7), none, .seq, [], []⟩,
         ⟨(some 73), .len .sl (.tmp 72), none, .seq, [], []⟩,
         ⟨(some 74), .slice (.sl 1) (.tmp 69) none (some (.tmp 71)) (some (.tmp 73)), none, .seq, [], []⟩,
         ⟨(some 75), .move (.tmp 14), none, .seq, [], []⟩,
         ⟨(some 76), .buildSlice 1 [(.int .i64 0)] 1 [(0, (.tmp 75))], none, .seq, [], []⟩,
         ⟨(some 77), .append 1 8 (.tmp 74) (.tmp 76), none, .seq, [], []⟩,
         ⟨(some 7), .move (.tmp 77), none, .seq, [], []⟩])))))))))
      (.region [⟨(some 78), .bin .add (.tmp 29) (.const (.int .i64 1)), none, .seq, [], []⟩,
       ⟨(some 29), .move (.tmp 78), none, .seq, [], []⟩])))))

/-- forecourt/shop.Kinds -/
def f28 : AFunc := ⟨1, [.tmp 2, .tmp 3],
  (.seq (.region [⟨(some 1), .box (.tmp 0), none, .seq, [], []⟩,
    ⟨(some 2), .move (.const (.slice none 0 0)), none, .seq, [], []⟩,
    ⟨(some 3), .move (.const (.int .i64 0)), none, .seq, [], []⟩])
  (.seq (.seq (.region [⟨(some 15), .load (some 3) (.tmp 1), none, .seq, [], []⟩,
     ⟨(some 16), .call 20 [(.tmp 15)], none, .seq, [], []⟩,
     ⟨(some 4), .move (.tmp 16), none, .seq, [], []⟩])
   (.seq (.region [⟨(some 17), .move (.tmp 4), none, .seq, [], []⟩,
     ⟨(some 18), .bin .neq (.tmp 17) (.const (.int .i64 0)), none, .seq, [], []⟩])
   (.cond (.tmp 18)
    (.seq (.region [⟨(some 19), .move (.tmp 4), none, .seq, [], []⟩,
      ⟨(some 2), .move (.const (.slice none 0 0)), none, .seq, [], []⟩,
      ⟨(some 3), .move (.tmp 19), none, .seq, [], []⟩])
    .ret)
    .skip)))
  (.seq (.region [⟨(some 21), .load (some 3) (.tmp 1), none, .seq, [], []⟩,
    ⟨(some 22), .call 62 [(.tmp 21)], none, .seq, [], []⟩,
    ⟨(some 23), .call 65 [(.tmp 22), (.const (.int .i64 (-1)))], none, .seq, [], []⟩,
    ⟨(some 20), .move (.tmp 23), none, .seq, [], []⟩,
    ⟨(some 24), .extract (.tmp 20) 0, none, .seq, [], []⟩,
    ⟨(some 25), .extract (.tmp 20) 1, none, .seq, [], []⟩,
    ⟨(some 5), .move (.tmp 24), none, .seq, [], []⟩,
    ⟨(some 6), .move (.tmp 25), none, .seq, [], []⟩])
  (.seq (.region [⟨(some 7), .move (.const (.slice none 0 0)), none, .seq, [], []⟩])
  (.seq (.seq (.region [⟨(some 26), .fieldAddr 2 (.tmp 1), none, .seq, [], []⟩,
     ⟨(some 27), .load none (.tmp 26), none, .seq, [], []⟩,
     ⟨(some 28), .len .sl (.tmp 27), none, .seq, [], []⟩,
     ⟨(some 29), .move (.const (.int .i64 0)), none, .seq, [], []⟩])
   (.block 0
    (.loop f28l0)))
  (.seq (.region [⟨(some 79), .move (.tmp 7), none, .seq, [], []⟩,
    ⟨(some 2), .move (.tmp 79), none, .seq, [], []⟩,
    ⟨(some 3), .move (.const (.int .i64 0)), none, .seq, [], []⟩])
  .ret))))))⟩

def f29l0 : ACode :=
  (.keep [1, 4, 6, 7, 8, 9, 10]
                 (.seq (.seq (.region [⟨(some 34), .move (.tmp 10), none, .seq, [], []⟩,
                    ⟨(some 35), .move (.tmp 4), none, .seq, [], []⟩,
                    ⟨(some 36), .move (.tmp 9), none, .seq, [], []⟩,
                    ⟨(some 37), .indexAddr none 1 (.tmp 35) (.tmp 36), none, .seq, [], []⟩,
                    ⟨(some 38), .load none (.tmp 37), none, .seq, [], []⟩,
                    ⟨(some 39), .len .sl (.tmp 38), none, .seq, [], []⟩,
                    ⟨(some 40), .bin .lss (.tmp 34) (.tmp 39), none, .seq, [], []⟩])
                  (.cond (.tmp 40)
                   .skip
                   (.exit 4)))
                 (.seq (.block 5
                   (.seq (.region [⟨(some 43), .move (.tmp 4), none, .seq, [], []⟩,
                     ⟨(some 44), .move (.tmp 9), none, .seq, [], []⟩,
                     ⟨(some 45), .indexAddr none 1 (.tmp 43) (.tmp 44), none, .seq, [], []⟩,
                     ⟨(some 46), .load none (.tmp 45), none, .seq, [], []⟩,
                     ⟨(some 47), .move (.tmp 10), none, .seq, [], []⟩,
                     ⟨(some 48), .indexAddr none 1 (.tmp 46) (.tmp 47), none, .seq, [], []⟩,
                     ⟨(some 49), .load none (.tmp 48), none, .seq, [], []⟩,
                     ⟨(some 50), .move (.tmp 7), none, .seq, [], []⟩,
                     ⟨(some 51), .bin .eql (.tmp 49) (.tmp 50), none, .seq, [], []⟩])
                   (.cond (.tmp 51)
                    (.region [⟨(some 52), .move (.tmp 8), none, .seq, [], []⟩,
                     ⟨(some 53), .bin .add (.tmp 52) (.const (.int .i64 1)), none, .seq, [], []⟩,
                     ⟨(some 8), .move (.tmp 53), none, .seq, [], []⟩])
                    .skip)))
                 (.region [⟨(some 41), .move (.tmp 10), none, .seq, [], []⟩,
                  ⟨(some 42), .bin .add (.tmp 41) (.const (.int .i64 1)), none, .seq, [], []⟩,
                  ⟨(some 10), .move (.tmp 42), none, .seq, [], []⟩]))))

def f29l1 : ACode :=
  (.keep [1, 4, 6, 7, 8, 9]
            (.seq (.seq (.region [⟨(some 28), .move (.tmp 9), none, .seq, [], []⟩,
               ⟨(some 29), .move (.tmp 4), none, .seq, [], []⟩,
               ⟨(some 30), .len .sl (.tmp 29), none, .seq, [], []⟩,
               ⟨(some 31), .bin .lss (.tmp 28) (.tmp 30), none, .seq, [], []⟩])
             (.cond (.tmp 31)
              .skip
              (.exit 2)))
            (.seq (.block 3
              (.seq (.region [⟨(some 10), .move (.const (.int .i64 0)), none, .seq, [], []⟩])
              (.block 4
               (.loop f29l0))))
            (.region [⟨(some 32), .move (.tmp 9), none, .seq, [], []⟩,
             ⟨(some 33), .bin .add (.tmp 32) (.const (.int .i64 1)), none, .seq, [], []⟩,
             ⟨(some 9), .move (.tmp 33), none, .seq, [], []⟩]))))

def f29l2 : ACode :=
  (.keep [1, 4, 6, 7]
      (.seq (.seq (.region [⟨(some 21), .move (.tmp 7), none, .seq, [], []⟩,
         ⟨(some 22), .fieldAddr 2 (.tmp 1), none, .seq, [], []⟩,
         ⟨(some 23), .load none (.tmp 22), none, .seq, [], []⟩,
         ⟨(some 24), .len .sl (.tmp 23), none, .seq, [], []⟩,
         ⟨(some 25), .bin .lss (.tmp 21) (.tmp 24), none, .seq, [], []⟩])
       (.cond (.tmp 25)
        .skip
        (.exit 0)))
      (.seq (.block 1
        (.seq (.region [⟨(some 8), .move (.const (.int .i64 0)), none, .seq, [], []⟩])
        (.seq (.seq (.region [⟨(some 9), .move (.const (.int .i64 0)), none, .seq, [], []⟩])
         (.block 2
          (.loop f29l1)))
        (.seq (.region [⟨(some 54), .move (.tmp 8), none, .seq, [], []⟩,
          ⟨(some 55), .move (.tmp 4), none, .seq, [], []⟩,
          ⟨(some 56), .len .sl (.tmp 55), none, .seq, [], []⟩,
          ⟨(some 57), .bin .eql (.tmp 54) (.tmp 56), none, .seq, [], []⟩])
        (.cond (.tmp 57)
         (.region [⟨(some 58), .move (.tmp 6), none, .seq, [], []⟩,
          ⟨(some 59), .buildSlice 1 [(.int .i64 0)] 1 [(0, (.const (.int .i64 2)))], none, .seq, [], []⟩,
          ⟨(some 60), .append 1 8 (.tmp 58) (.tmp 59), none, .seq, [], []⟩,
          ⟨(some 6), .move (.tmp 60), none, .seq, [], []⟩])
         (.seq (.region [⟨(some 61), .move (.tmp 8), none, .seq, [], []⟩,
           ⟨(some 62), .bin .gtr (.tmp 61) (.const (.int .i64 0)), none, .seq, [], []⟩])
         (.cond (.tmp 62)
          (.region [⟨(some 63), .move (.tmp 6), none, .seq, [], []⟩,
           ⟨(some 64), .buildSlice 1 [(.int .i64 0)] 1 [(0, (.const (.int .i64 1)))], none, .seq, [], []⟩,
           ⟨(some 65), .append 1 8 (.tmp 63) (.tmp 64), none, .seq, [], []⟩,
           ⟨(some 6), .move (.tmp 65), none, .seq, [], []⟩])
          (.region [⟨(some 66), .move (.tmp 6), none, .seq, [], []⟩,
           ⟨(some 67), .buildSlice 1 [(.int .i64 0)] 1 [(0, (.const (.int .i64 0)))], none, .seq, [], []⟩,
           ⟨(some 68), .append 1 8 (.tmp 66) (.tmp 67), none, .seq, [], []⟩,
           ⟨(some 6), .move (.tmp 68), none, .seq, [], []⟩]))))))))
      (.region [⟨(some 26), .move (.tmp 7), none, .seq, [], []⟩,
       ⟨(some 27), .bin .add (.tmp 26) (.const (.int .i64 1)), none, .seq, [], []⟩,
       ⟨(some 7), .move (.tmp 27), none, .seq, [], []⟩]))))

/-- forecourt/forecourtref11.Kinds -/
def f29 : AFunc := ⟨1, [.tmp 2, .tmp 3],
  (.seq (.region [⟨(some 1), .box (.tmp 0), none, .seq, [], []⟩,
    ⟨(some 2), .move (.const (.slice none 0 0)), none, .seq, [], []⟩,
    ⟨(some 3), .move (.const (.int .i64 0)), none, .seq, [], []⟩])
  (.seq (.seq (.region [⟨(some 11), .load (some 3) (.tmp 1), none, .seq, [], []⟩,
     ⟨(some 12), .call 21 [(.tmp 11)], none, .seq, [], []⟩,
     ⟨(some 13), .bin .neq (.tmp 12) (.const (.int .i64 0)), none, .seq, [], []⟩])
   (.cond (.tmp 13)
    (.seq (.region [⟨(some 14), .load (some 3) (.tmp 1), none, .seq, [], []⟩,
      ⟨(some 15), .call 21 [(.tmp 14)], none, .seq, [], []⟩,
      ⟨(some 2), .move (.const (.slice none 0 0)), none, .seq, [], []⟩,
      ⟨(some 3), .move (.tmp 15), none, .seq, [], []⟩])
    .ret)
    .skip))
  (.seq (.region [⟨(some 17), .load (some 3) (.tmp 1), none, .seq, [], []⟩,
    ⟨(some 18), .call 68 [(.tmp 17)], none, .seq, [], []⟩,
    ⟨(some 16), .move (.tmp 18), none, .seq, [], []⟩,
    ⟨(some 19), .extract (.tmp 16) 0, none, .seq, [], []⟩,
    ⟨(some 20), .extract (.tmp 16) 1, none, .seq, [], []⟩,
    ⟨(some 4), .move (.tmp 19), none, .seq, [], []⟩,
    ⟨(some 5), .move (.tmp 20), none, .seq, [], []⟩])
  (.seq (.region [⟨(some 6), .move (.const (.slice none 0 0)), none, .seq, [], []⟩])
  (.seq (.seq (.region [⟨(some 7), .move (.const (.int .i64 0)), none, .seq, [], []⟩])
   (.block 0
    (.loop f29l2)))
  (.seq (.region [⟨(some 69), .move (.tmp 6), none, .seq, [], []⟩,
    ⟨(some 2), .move (.tmp 69), none, .seq, [], []⟩,
    ⟨(some 3), .move (.const (.int .i64 0)), none, .seq, [], []⟩])
  .ret))))))⟩

/-- forecourt/shop.Best -/
def f30 : AFunc := ⟨1, [.tmp 2, .tmp 3, .tmp 4],
  (.seq (.region [⟨(some 1), .box (.tmp 0), none, .seq, [], []⟩,
    ⟨(some 2), .move (.const (.slice none 0 0)), none, .seq, [], []⟩,
    ⟨(some 3), .move (.const (.int .i64 0)), none, .seq, [], []⟩,
    ⟨(some 4), .move (.const (.int .i64 0)), none, .seq, [], []⟩])
  (.seq (.seq (.region [⟨(some 8), .load (some 3) (.tmp 1), none, .seq, [], []⟩,
     ⟨(some 9), .call 20 [(.tmp 8)], none, .seq, [], []⟩,
     ⟨(some 5), .move (.tmp 9), none, .seq, [], []⟩])
   (.seq (.region [⟨(some 10), .move (.tmp 5), none, .seq, [], []⟩,
     ⟨(some 11), .bin .neq (.tmp 10) (.const (.int .i64 0)), none, .seq, [], []⟩])
   (.cond (.tmp 11)
    (.seq (.region [⟨(some 12), .move (.tmp 5), none, .seq, [], []⟩,
      ⟨(some 2), .move (.const (.slice none 0 0)), none, .seq, [], []⟩,
      ⟨(some 3), .move (.const (.int .i64 0)), none, .seq, [], []⟩,
      ⟨(some 4), .move (.tmp 12), none, .seq, [], []⟩])
    .ret)
    .skip)))
  (.seq (.region [⟨(some 14), .load (some 3) (.tmp 1), none, .seq, [], []⟩,
    ⟨(some 15), .call 62 [(.tmp 14)], none, .seq, [], []⟩,
    ⟨(some 16), .call 65 [(.tmp 15), (.const (.int .i64 (-1)))], none, .seq, [], []⟩,
    ⟨(some 13), .move (.tmp 16), none, .seq, [], []⟩,
    ⟨(some 17), .extract (.tmp 13) 0, none, .seq, [], []⟩,
    ⟨(some 18), .extract (.tmp 13) 1, none, .seq, [], []⟩,
    ⟨(some 6), .move (.tmp 17), none, .seq, [], []⟩,
    ⟨(some 7), .move (.tmp 18), none, .seq, [], []⟩])
  (.seq (.region [⟨(some 19), .move (.tmp 6), none, .seq, [], []⟩,
    ⟨(some 20), .move (.tmp 7), none, .seq, [], []⟩,
    ⟨(some 2), .move (.tmp 19), none, .seq, [], []⟩,
    ⟨(some 3), .move (.tmp 20), none, .seq, [], []⟩,
    ⟨(some 4), .move (.const (.int .i64 0)), none, .seq, [], []⟩])
  .ret))))⟩

def f31l0 : ACode :=
  (.keep [0, 1, 5]
      (.seq (.seq (.region [⟨(some 11), .move (.tmp 5), none, .seq, [], []⟩,
         ⟨(some 12), .move (.tmp 0), none, .seq, [], []⟩,
         ⟨(some 13), .len .sl (.tmp 12), none, .seq, [], []⟩,
         ⟨(some 14), .bin .lss (.tmp 11) (.tmp 13), none, .seq, [], []⟩])
       (.cond (.tmp 14)
        .skip
        (.exit 0)))
      (.seq (.block 1
        (.seq (.region [⟨(some 17), .move (.tmp 0), none, .still, [], []⟩,
          ⟨(some 18), .move (.tmp 5), none, .still, [], []⟩,
          ⟨(some 19), .indexAddr none 1 (.tmp 17) (.tmp 18), none, .still, [], []⟩,
          ⟨(some 20), .load none (.tmp 19), none, .rd, [], []⟩,
          ⟨(some 21), .move (.tmp 1), none, .still, [], []⟩,
          ⟨(some 22), .move (.tmp 5), none, .still, [], []⟩,
          ⟨(some 23), .indexAddr none 1 (.tmp 21) (.tmp 22), none, .still, [], []⟩,
          ⟨(some 24), .load none (.tmp 23), none, .rd, [], []⟩,
          ⟨(some 25), .bin .neq (.tmp 20) (.tmp 24), none, .still, [], []⟩])
        (.cond (.tmp 25)
         (.seq (.region [⟨(some 4), .move (.const (.bool false)), none, .seq, [], []⟩])
         .ret)
         .skip)))
      (.region [⟨(some 15), .move (.tmp 5), none, .seq, [], []⟩,
       ⟨(some 16), .bin .add (.tmp 15) (.const (.int .i64 1)), none, .seq, [], []⟩,
       ⟨(some 5), .move (.tmp 16), none, .seq, [], []⟩]))))

/-- forecourt/forecourtlaw11.ints -/
def f31 : AFunc := ⟨2, [.tmp 4],
  (.seq (.region [⟨(some 4), .move (.const (.bool false)), none, .seq, [], []⟩])
  (.seq (.seq (.region [⟨(some 6), .move (.tmp 0), none, .seq, [], []⟩,
     ⟨(some 7), .len .sl (.tmp 6), none, .seq, [], []⟩,
     ⟨(some 8), .move (.tmp 1), none, .seq, [], []⟩,
     ⟨(some 9), .len .sl (.tmp 8), none, .seq, [], []⟩,
     ⟨(some 10), .bin .neq (.tmp 7) (.tmp 9), none, .seq, [], []⟩])
   (.cond (.tmp 10)
    (.seq (.region [⟨(some 4), .move (.const (.bool false)), none, .seq, [], []⟩])
    .ret)
    .skip))
  (.seq (.seq (.region [⟨(some 5), .move (.const (.int .i64 0)), none, .seq, [], []⟩])
   (.block 0
    (.loop f31l0)))
  (.seq (.region [⟨(some 4), .move (.const (.bool true)), none, .seq, [], []⟩])
  .ret))))⟩

/-- forecourt/forecourtref11.Most -/
def f32 : AFunc := ⟨1, [.tmp 2],
  (.seq (.region [⟨(some 1), .box (.tmp 0), none, .seq, [], []⟩,
    ⟨(some 2), .move (.const (.int .i64 0)), none, .seq, [], []⟩])
  (.seq (.region [⟨(some 6), .load (some 3) (.tmp 1), none, .seq, [], []⟩,
    ⟨(some 7), .call 68 [(.tmp 6)], none, .seq, [], []⟩,
    ⟨(some 5), .move (.tmp 7), none, .seq, [], []⟩,
    ⟨(some 8), .extract (.tmp 5) 0, none, .seq, [], []⟩,
    ⟨(some 9), .extract (.tmp 5) 1, none, .seq, [], []⟩,
    ⟨(some 3), .move (.tmp 8), none, .seq, [], []⟩,
    ⟨(some 4), .move (.tmp 9), none, .seq, [], []⟩])
  (.seq (.region [⟨(some 10), .move (.tmp 4), none, .seq, [], []⟩,
    ⟨(some 2), .move (.tmp 10), none, .seq, [], []⟩])
  .ret)))⟩

def f33l0 : ACode :=
  (.keep [7, 8, 70, 71, 72]
      (.seq (.region [⟨(some 73), .bin .lss (.tmp 72) (.tmp 71), none, .seq, [], []⟩])
      (.seq (.cond (.tmp 73)
        .skip
        (.exit 5))
      (.seq (.block 6
        (.seq (.region [⟨(some 74), .move (.tmp 72), none, .seq, [], []⟩,
          ⟨(some 75), .indexAddr none 3 (.tmp 70) (.tmp 72), none, .seq, [], []⟩,
          ⟨(some 76), .load (some 3) (.tmp 75), none, .seq, [], []⟩,
          ⟨(some 15), .alloc [(.int .i64 0), (.int .i64 0), (.int .i64 0)], none, .seq, [], []⟩,
          ⟨(some 14), .move (.tmp 74), none, .seq, [], []⟩,
          ⟨none, .store 3 (.tmp 15) (.tmp 76), none, .seq, [], []⟩])
        (.region [⟨(some 77), .move (.tmp 7), none, .still, [], []⟩,
         ⟨(some 78), .fieldAddr 2 (.tmp 15), none, .still, [], []⟩,
         ⟨(some 79), .load none (.tmp 78), none, .rd, [], []⟩,
         ⟨(some 80), .move (.tmp 14), none, .still, [], []⟩,
         ⟨(some 81), .indexAddr (some 20) 1 (.tmp 8) (.tmp 80), none, .still, [], []⟩,
         ⟨(some 82), .load none (.tmp 81), none, .rd, [], []⟩,
         ⟨(some 83), .bin .sub (.tmp 79) (.tmp 82), none, .still, [], []⟩,
         ⟨(some 84), .minmax true [(.const (.int .i64 0)), (.tmp 83)], none, .still, [], []⟩,
         ⟨(some 85), .bin .add (.tmp 77) (.tmp 84), none, .still, [], []⟩,
         ⟨(some 7), .move (.tmp 85), none, .still, [], []⟩])))
      (.region [⟨(some 86), .bin .add (.tmp 72) (.const (.int .i64 1)), none, .seq, [], []⟩,
       ⟨(some 72), .move (.tmp 86), none, .seq, [], []⟩])))))

def f33l1 : ACode :=
  (.keep [2, 7, 8, 10, 11, 30, 31, 32, 50, 51, 52]
           (.seq (.region [⟨(some 53), .bin .lss (.tmp 52) (.tmp 51), none, .seq, [], []⟩])
           (.seq (.cond (.tmp 53)
             .skip
             (.exit 3))
           (.seq (.block 4
             (.seq (.region [⟨(some 54), .move (.tmp 52), none, .seq, [], []⟩,
               ⟨(some 55), .indexAddr none 3 (.tmp 50) (.tmp 52), none, .seq, [], []⟩,
               ⟨(some 56), .load (some 3) (.tmp 55), none, .seq, [], []⟩,
               ⟨(some 13), .alloc [(.int .i64 0), (.int .i64 0), (.int .i64 0)], none, .seq, [], []⟩,
               ⟨(some 12), .move (.tmp 54), none, .seq, [], []⟩,
               ⟨none, .store 3 (.tmp 13) (.tmp 56), none, .seq, [], []⟩])
             (.seq (.region [⟨(some 57), .load (some 2) (.tmp 11), none, .seq, [], []⟩,
               ⟨(some 58), .load (some 3) (.tmp 13), none, .seq, [], []⟩,
               ⟨(some 59), .call 59 [(.tmp 57), (.tmp 58)], none, .seq, [], []⟩])
             (.cond (.tmp 59)
              (.region [⟨(some 60), .move (.tmp 12), none, .still, [], []⟩,
               ⟨(some 61), .indexAddr (some 20) 1 (.tmp 8) (.tmp 60), none, .still, [], []⟩,
               ⟨(some 62), .load none (.tmp 61), none, .rd, [], []⟩,
               ⟨(some 63), .fieldAddr 2 (.tmp 10), none, .still, [], []⟩,
               ⟨(some 64), .load none (.tmp 63), none, .rd, [], []⟩,
               ⟨(some 65), .bin .add (.tmp 62) (.tmp 64), none, .still, [], []⟩,
               ⟨(some 66), .indexAddr (some 20) 1 (.tmp 8) (.tmp 60), none, .still, [], []⟩,
               ⟨none, .store 1 (.tmp 66) (.tmp 65), none, .seq, [], []⟩])
              .skip))))
           (.region [⟨(some 67), .bin .add (.tmp 52) (.const (.int .i64 1)), none, .seq, [], []⟩,
            ⟨(some 52), .move (.tmp 67), none, .seq, [], []⟩])))))

def f33l2 : ACode :=
  (.keep [2, 7, 8, 30, 31, 32]
      (.seq (.region [⟨(some 33), .bin .lss (.tmp 32) (.tmp 31), none, .seq, [], []⟩])
      (.seq (.cond (.tmp 33)
        .skip
        (.exit 1))
      (.seq (.block 2
        (.seq (.region [⟨(some 34), .indexAddr none 3 (.tmp 30) (.tmp 32), none, .seq, [], []⟩,
          ⟨(some 35), .load (some 3) (.tmp 34), none, .seq, [], []⟩,
          ⟨(some 10), .alloc [(.int .i64 0), (.int .i64 0), (.int .i64 0)], none, .seq, [], []⟩,
          ⟨none, .store 3 (.tmp 10) (.tmp 35), none, .seq, [], []⟩])
        (.seq (.region [⟨(some 36), .fieldAddr 0 (.tmp 10), none, .seq, [], []⟩,
          ⟨(some 37), .load none (.tmp 36), none, .seq, [], []⟩,
          ⟨(some 38), .fieldAddr 1 (.tmp 10), none, .seq, [], []⟩,
          ⟨(some 39), .load none (.tmp 38), none, .seq, [], []⟩,
          ⟨(some 40), .build [(.int .i64 0), (.int .i64 0)] (.list [(0, 1), (1, 1)]) [(0, (.tmp 37)), (1, (.tmp 39))], none, .seq, [], []⟩,
          ⟨(some 11), .alloc [(.int .i64 0), (.int .i64 0)], none, .seq, [], []⟩,
          ⟨none, .store 2 (.tmp 11) (.tmp 40), none, .seq, [], []⟩])
        (.seq (.region [⟨(some 41), .move (.tmp 7), none, .still, [], []⟩,
          ⟨(some 42), .fieldAddr 2 (.tmp 10), none, .still, [], []⟩,
          ⟨(some 43), .load none (.tmp 42), none, .rd, [], []⟩,
          ⟨(some 44), .load (some 2) (.tmp 11), none, .rd, [], []⟩,
          ⟨(some 45), .load (some 3) (.tmp 2), none, .rd, [], []⟩,
          ⟨(some 46), .call 60 [(.tmp 44), (.tmp 45)], none, .ro, [], []⟩,
          ⟨(some 47), .bin .mul (.tmp 43) (.tmp 46), none, .still, [], []⟩,
          ⟨(some 48), .bin .add (.tmp 41) (.tmp 47), none, .still, [], []⟩,
          ⟨(some 7), .move (.tmp 48), none, .still, [], []⟩])
        (.seq (.region [⟨(some 49), .fieldAddr 2 (.tmp 2), none, .seq, [], []⟩,
          ⟨(some 50), .load none (.tmp 49), none, .seq, [], []⟩,
          ⟨(some 51), .len .sl (.tmp 50), none, .seq, [], []⟩,
          ⟨(some 52), .move (.const (.int .i64 0)), none, .seq, [], []⟩])
        (.block 3
         (.loop f33l1)))))))
      (.region [⟨(some 68), .bin .add (.tmp 32) (.const (.int .i64 1)), none, .seq, [], []⟩,
       ⟨(some 32), .move (.tmp 68), none, .seq, [], []⟩])))))

/-- forecourt/shop.CheckPrices -/
def f33 : AFunc := ⟨2, [.tmp 4, .tmp 5],
  (.seq (.region [⟨(some 2), .box (.tmp 0), none, .seq, [], []⟩,
    ⟨(some 4), .move (.const (.int .i64 0)), none, .seq, [], []⟩,
    ⟨(some 5), .move (.const (.int .i64 0)), none, .seq, [], []⟩])
  (.seq (.region [⟨(some 16), .load (some 3) (.tmp 2), none, .seq, [], []⟩,
    ⟨(some 17), .call 20 [(.tmp 16)], none, .seq, [], []⟩,
    ⟨(some 6), .move (.tmp 17), none, .seq, [], []⟩])
  (.seq (.block 0
    (.seq (.region [⟨(some 19), .move (.tmp 6), none, .seq, [], []⟩,
      ⟨(some 20), .bin .neq (.tmp 19) (.const (.int .i64 0)), none, .seq, [], []⟩,
      ⟨(some 18), .move (.tmp 20), none, .seq, [], []⟩])
    (.cond (.tmp 18)
     (.seq (.region [⟨(some 21), .move (.tmp 6), none, .seq, [], []⟩,
       ⟨(some 4), .move (.const (.int .i64 0)), none, .seq, [], []⟩,
       ⟨(some 5), .move (.tmp 21), none, .seq, [], []⟩])
     .ret)
     (.seq (.region [⟨(some 23), .move (.tmp 1), none, .seq, [], []⟩,
       ⟨(some 24), .len .sl (.tmp 23), none, .seq, [], []⟩,
       ⟨(some 25), .bin .gtr (.tmp 24) (.const (.int .i64 200)), none, .seq, [], []⟩,
       ⟨(some 22), .move (.tmp 25), none, .seq, [], []⟩])
     (.cond (.tmp 22)
      (.seq (.region [⟨(some 4), .move (.const (.int .i64 0)), none, .seq, [], []⟩,
        ⟨(some 5), .move (.const (.int .i64 6)), none, .seq, [], []⟩])
      .ret)
      (.seq (.region [⟨(some 27), .move (.tmp 1), none, .seq, [], []⟩,
        ⟨(some 28), .makeFunc 70 [] [(.tmp 2)], none, .seq, [], []⟩,
        ⟨(some 29), .call 69 [(.tmp 27), (.tmp 28)], none, .seq, [], []⟩,
        ⟨(some 26), .move (.tmp 29), none, .seq, [], []⟩])
      (.cond (.tmp 26)
       (.seq (.region [⟨(some 4), .move (.const (.int .i64 0)), none, .seq, [], []⟩,
         ⟨(some 5), .move (.const (.int .i64 3)), none, .seq, [], []⟩])
       .ret)
       .skip)))))))
  (.seq (.region [⟨(some 7), .move (.const (.int .i64 0)), none, .seq, [], []⟩])
  (.seq (.region [⟨(some 8), .alloc [(.int .i64 0), (.int .i64 0), (.int .i64 0), (.int .i64 0), (.int .i64 0), (.int .i64 0), (.int .i64 0), (.int .i64 0), (.int .i64 0), (.int .i64 0), (.int .i64 0), (.int .i64 0), (.int .i64 0), (.int .i64 0), (.int .i64 0), (.int .i64 0), (.int .i64 0), (.int .i64 0), (.int .i64 0), (.int .i64 0)], none, .seq, [], []⟩])
  (.seq (.seq (.region [⟨(some 30), .move (.tmp 1), none, .seq, [], []⟩,
     ⟨(some 31), .len .sl (.tmp 30), none, .seq, [], []⟩,
     ⟨(some 32), .move (.const (.int .i64 0)), none, .seq, [], []⟩])
   (.block 1
    (.loop f33l2)))
  (.seq (.seq (.region [⟨(some 69), .fieldAddr 2 (.tmp 2), none, .seq, [], []⟩,
     ⟨(some 70), .load none (.tmp 69), none, .seq, [], []⟩,
     ⟨(some 71), .len .sl (.tmp 70), none, .seq, [], []⟩,
     ⟨(some 72), .move (.const (.int .i64 0)), none, .seq, [], []⟩])
   (.block 5
    (.loop f33l0)))
  (.seq (.region [⟨(some 87), .move (.tmp 7), none, .seq, [], []⟩,
    ⟨(some 4), .move (.tmp 87), none, .seq, [], []⟩,
    ⟨(some 5), .move (.const (.int .i64 0)), none, .seq, [], []⟩])
  .ret))))))))⟩

def f34l0 : ACode :=
  (.keep [1, 2, 7, 9, 10, 11]
            (.seq (.seq (.region [⟨(some 91), .move (.tmp 11), none, .seq, [], []⟩,
               ⟨(some 92), .move (.tmp 1), none, .seq, [], []⟩,
               ⟨(some 93), .len .sl (.tmp 92), none, .seq, [], []⟩,
               ⟨(some 94), .bin .lss (.tmp 91) (.tmp 93), none, .seq, [], []⟩])
             (.cond (.tmp 94)
              .skip
              (.exit 6)))
            (.seq (.block 7
              (.seq (.region [⟨(some 97), .fieldAddr 2 (.tmp 2), none, .still, [], []⟩,
                ⟨(some 98), .load none (.tmp 97), none, .rd, [], []⟩,
                ⟨(some 99), .move (.tmp 9), none, .still, [], []⟩,
                ⟨(some 100), .indexAddr none 3 (.tmp 98) (.tmp 99), none, .still, [], []⟩,
                ⟨(some 101), .fieldAddr 0 (.tmp 100), none, .still, [], []⟩,
                ⟨(some 102), .load none (.tmp 101), none, .rd, [], []⟩,
                ⟨(some 103), .move (.tmp 1), none, .still, [], []⟩,
                ⟨(some 104), .move (.tmp 11), none, .still, [], []⟩,
                ⟨(some 105), .indexAddr none 3 (.tmp 103) (.tmp 104), none, .still, [], []⟩,
                ⟨(some 106), .fieldAddr 0 (.tmp 105), none, .still, [], []⟩,
                ⟨(some 107), .load none (.tmp 106), none, .rd, [], []⟩,
                ⟨(some 108), .bin .geq (.tmp 102) (.tmp 107), none, .still, [], []⟩,
                ⟨(some 109), .move (.tmp 108), none, .still, [], []⟩,
                ⟨(some 110), .fieldAddr 2 (.tmp 2), some (109, true), .still, [], []⟩,
                ⟨(some 111), .load none (.tmp 110), some (109, true), .rd, [], []⟩,
                ⟨(some 112), .move (.tmp 9), some (109, true), .still, [], []⟩,
                ⟨(some 113), .indexAddr none 3 (.tmp 111) (.tmp 112), some (109, true), .still, [], []⟩,
                ⟨(some 114), .fieldAddr 1 (.tmp 113), some (109, true), .still, [], []⟩,
                ⟨(some 115), .load none (.tmp 114), some (109, true), .rd, [], []⟩,
                ⟨(some 116), .move (.tmp 1), some (109, true), .still, [], []⟩,
                ⟨(some 117), .move (.tmp 11), some (109, true), .still, [], []⟩,
                ⟨(some 118), .indexAddr none 3 (.tmp 116) (.tmp 117), some (109, true), .still, [], []⟩,
                ⟨(some 119), .fieldAddr 1 (.tmp 118), some (109, true), .still, [], []⟩,
                ⟨(some 120), .load none (.tmp 119), some (109, true), .rd, [], []⟩,
                ⟨(some 121), .bin .leq (.tmp 115) (.tmp 120), some (109, true), .still, [], []⟩,
                ⟨(some 122), .pick (.tmp 109) (.tmp 121) (.const (.bool false)), none, .still, [], []⟩])
              (.cond (.tmp 122)
               (.region [⟨(some 123), .move (.tmp 10), none, .seq, [], []⟩,
                ⟨(some 124), .move (.tmp 1), none, .seq, [], []⟩,
                ⟨(some 125), .move (.tmp 11), none, .seq, [], []⟩,
                ⟨(some 126), .indexAddr none 3 (.tmp 124) (.tmp 125), none, .seq, [], []⟩,
                ⟨(some 127), .fieldAddr 2 (.tmp 126), none, .seq, [], []⟩,
                ⟨(some 128), .load none (.tmp 127), none, .seq, [], []⟩,
                ⟨(some 129), .bin .add (.tmp 123) (.tmp 128), none, .seq, [], []⟩,
                ⟨(some 10), .move (.tmp 129), none, .seq, [], []⟩])
               .skip)))
            (.region [⟨(some 95), .move (.tmp 11), none, .seq, [], []⟩,
             ⟨(some 96), .bin .add (.tmp 95) (.const (.int .i64 1)), none, .seq, [], []⟩,
             ⟨(some 11), .move (.tmp 96), none, .seq, [], []⟩]))))

def f34l1 : ACode :=
  (.keep [1, 2, 7, 9]
      (.seq (.seq (.region [⟨(some 84), .move (.tmp 9), none, .seq, [], []⟩,
         ⟨(some 85), .fieldAddr 2 (.tmp 2), none, .seq, [], []⟩,
         ⟨(some 86), .load none (.tmp 85), none, .seq, [], []⟩,
         ⟨(some 87), .len .sl (.tmp 86), none, .seq, [], []⟩,
         ⟨(some 88), .bin .lss (.tmp 84) (.tmp 87), none, .seq, [], []⟩])
       (.cond (.tmp 88)
        .skip
        (.exit 4)))
      (.seq (.block 5
        (.seq (.region [⟨(some 10), .move (.const (.int .i64 0)), none, .seq, [], []⟩])
        (.seq (.seq (.region [⟨(some 11), .move (.const (.int .i64 0)), none, .seq, [], []⟩])
         (.block 6
          (.loop f34l0)))
        (.region [⟨(some 130), .move (.tmp 7), none, .seq, [], []⟩,
         ⟨(some 131), .fieldAddr 2 (.tmp 2), none, .seq, [], []⟩,
         ⟨(some 132), .load none (.tmp 131), none, .seq, [], []⟩,
         ⟨(some 133), .move (.tmp 9), none, .seq, [], []⟩,
         ⟨(some 134), .indexAddr none 3 (.tmp 132) (.tmp 133), none, .seq, [], []⟩,
         ⟨(some 135), .fieldAddr 2 (.tmp 134), none, .seq, [], []⟩,
         ⟨(some 136), .load none (.tmp 135), none, .seq, [], []⟩,
         ⟨(some 137), .move (.tmp 10), none, .seq, [], []⟩,
         ⟨(some 138), .bin .sub (.tmp 136) (.tmp 137), none, .seq, [], []⟩,
         ⟨(some 139), .minmax true [(.const (.int .i64 0)), (.tmp 138)], none, .seq, [], []⟩,
         ⟨(some 140), .bin .add (.tmp 130) (.tmp 139), none, .seq, [], []⟩,
         ⟨(some 7), .move (.tmp 140), none, .seq, [], []⟩]))))
      (.region [⟨(some 89), .move (.tmp 9), none, .seq, [], []⟩,
       ⟨(some 90), .bin .add (.tmp 89) (.const (.int .i64 1)), none, .seq, [], []⟩,
       ⟨(some 9), .move (.tmp 90), none, .seq, [], []⟩]))))

def f34l2 : ACode :=
  (.keep [1, 2, 7, 8]
      (.seq (.seq (.region [⟨(some 55), .move (.tmp 8), none, .seq, [], []⟩,
         ⟨(some 56), .move (.tmp 1), none, .seq, [], []⟩,
         ⟨(some 57), .len .sl (.tmp 56), none, .seq, [], []⟩,
         ⟨(some 58), .bin .lss (.tmp 55) (.tmp 57), none, .seq, [], []⟩])
       (.cond (.tmp 58)
        .skip
        (.exit 2)))
      (.seq (.block 3
        (.region [⟨(some 61), .move (.tmp 7), none, .still, [], []⟩,
         ⟨(some 62), .move (.tmp 1), none, .still, [], []⟩,
         ⟨(some 63), .move (.tmp 8), none, .still, [], []⟩,
         ⟨(some 64), .indexAddr none 3 (.tmp 62) (.tmp 63), none, .still, [], []⟩,
         ⟨(some 65), .fieldAddr 2 (.tmp 64), none, .still, [], []⟩,
         ⟨(some 66), .load none (.tmp 65), none, .rd, [], []⟩,
         ⟨(some 67), .fieldAddr 1 (.tmp 2), none, .still, [], []⟩,
         ⟨(some 68), .load none (.tmp 67), none, .rd, [], []⟩,
         ⟨(some 69), .move (.tmp 1), none, .still, [], []⟩,
         ⟨(some 70), .move (.tmp 8), none, .still, [], []⟩,
         ⟨(some 71), .indexAddr none 3 (.tmp 69) (.tmp 70), none, .still, [], []⟩,
         ⟨(some 72), .fieldAddr 1 (.tmp 71), none, .still, [], []⟩,
         ⟨(some 73), .load none (.tmp 72), none, .rd, [], []⟩,
         ⟨(some 74), .move (.tmp 1), none, .still, [], []⟩,
         ⟨(some 75), .move (.tmp 8), none, .still, [], []⟩,
         ⟨(some 76), .indexAddr none 3 (.tmp 74) (.tmp 75), none, .still, [], []⟩,
         ⟨(some 77), .fieldAddr 0 (.tmp 76), none, .still, [], []⟩,
         ⟨(some 78), .load none (.tmp 77), none, .rd, [], []⟩,
         ⟨(some 79), .bin .sub (.tmp 73) (.tmp 78), none, .still, [], []⟩,
         ⟨(some 80), .bin .add (.tmp 79) (.const (.int .i64 1)), none, .still, [], []⟩,
         ⟨(some 81), .bin .mul (.tmp 68) (.tmp 80), none, .still, [], []⟩,
         ⟨(some 82), .bin .mul (.tmp 66) (.tmp 81), none, .still, [], []⟩,
         ⟨(some 83), .bin .add (.tmp 61) (.tmp 82), none, .still, [], []⟩,
         ⟨(some 7), .move (.tmp 83), none, .still, [], []⟩]))
      (.region [⟨(some 59), .move (.tmp 8), none, .seq, [], []⟩,
       ⟨(some 60), .bin .add (.tmp 59) (.const (.int .i64 1)), none, .seq, [], []⟩,
       ⟨(some 8), .move (.tmp 60), none, .seq, [], []⟩]))))

def f34l3 : ACode :=
  (.keep [1, 2, 6]
      (.seq (.seq (.region [⟨(some 20), .move (.tmp 6), none, .seq, [], []⟩,
         ⟨(some 21), .move (.tmp 1), none, .seq, [], []⟩,
         ⟨(some 22), .len .sl (.tmp 21), none, .seq, [], []⟩,
         ⟨(some 23), .bin .lss (.tmp 20) (.tmp 22), none, .seq, [], []⟩])
       (.cond (.tmp 23)
        .skip
        (.exit 0)))
      (.seq (.block 1
        (.seq (.region [⟨(some 26), .load (some 3) (.tmp 2), none, .rd, [], []⟩,
          ⟨(some 27), .move (.tmp 1), none, .still, [], []⟩,
          ⟨(some 28), .move (.tmp 6), none, .still, [], []⟩,
          ⟨(some 29), .indexAddr none 3 (.tmp 27) (.tmp 28), none, .still, [], []⟩,
          ⟨(some 30), .fieldAddr 0 (.tmp 29), none, .still, [], []⟩,
          ⟨(some 31), .load none (.tmp 30), none, .rd, [], []⟩,
          ⟨(some 32), .move (.tmp 1), none, .still, [], []⟩,
          ⟨(some 33), .move (.tmp 6), none, .still, [], []⟩,
          ⟨(some 34), .indexAddr none 3 (.tmp 32) (.tmp 33), none, .still, [], []⟩,
          ⟨(some 35), .fieldAddr 1 (.tmp 34), none, .still, [], []⟩,
          ⟨(some 36), .load none (.tmp 35), none, .rd, [], []⟩,
          ⟨(some 37), .call 56 [(.tmp 26), (.tmp 31), (.tmp 36)], none, .seq, [], []⟩,
          ⟨(some 38), .un .not (.tmp 37), none, .still, [], []⟩,
          ⟨(some 39), .move (.tmp 38), none, .still, [], []⟩,
          ⟨(some 40), .move (.tmp 1), some (39, false), .still, [], []⟩,
          ⟨(some 41), .move (.tmp 6), some (39, false), .still, [], []⟩,
          ⟨(some 42), .indexAddr none 3 (.tmp 40) (.tmp 41), some (39, false), .still, [], []⟩,
          ⟨(some 43), .fieldAddr 2 (.tmp 42), some (39, false), .still, [], []⟩,
          ⟨(some 44), .load none (.tmp 43), some (39, false), .seq, [], []⟩,
          ⟨(some 45), .bin .lss (.tmp 44) (.const (.int .i64 0)), some (39, false), .still, [], []⟩,
          ⟨(some 46), .pick (.tmp 39) (.const (.bool true)) (.tmp 45), none, .still, [], []⟩,
          ⟨(some 47), .move (.tmp 46), none, .still, [], []⟩,
          ⟨(some 48), .move (.tmp 1), some (47, false), .still, [], []⟩,
          ⟨(some 49), .move (.tmp 6), some (47, false), .still, [], []⟩,
          ⟨(some 50), .indexAddr none 3 (.tmp 48) (.tmp 49), some (47, false), .still, [], []⟩,
          ⟨(some 51), .fieldAddr 2 (.tmp 50), some (47, false), .still, [], []⟩,
          ⟨(some 52), .load none (.tmp 51), some (47, false), .seq, [], []⟩,
          ⟨(some 53), .bin .gtr (.tmp 52) (.const (.int .i64 1099511627776)), some (47, false), .still, [], []⟩,
          ⟨(some 54), .pick (.tmp 47) (.const (.bool true)) (.tmp 53), none, .still, [], []⟩])
        (.cond (.tmp 54)
         (.seq (.region [⟨(some 4), .move (.const (.int .i64 0)), none, .seq, [], []⟩,
           ⟨(some 5), .move (.const (.int .i64 3)), none, .seq, [], []⟩])
         .ret)
         .skip)))
      (.region [⟨(some 24), .move (.tmp 6), none, .seq, [], []⟩,
       ⟨(some 25), .bin .add (.tmp 24) (.const (.int .i64 1)), none, .seq, [], []⟩,
       ⟨(some 6), .move (.tmp 25), none, .seq, [], []⟩]))))

/-- forecourt/forecourtref11.CheckPrices -/
def f34 : AFunc := ⟨2, [.tmp 4, .tmp 5],
  (.seq (.region [⟨(some 2), .box (.tmp 0), none, .seq, [], []⟩,
    ⟨(some 4), .move (.const (.int .i64 0)), none, .seq, [], []⟩,
    ⟨(some 5), .move (.const (.int .i64 0)), none, .seq, [], []⟩])
  (.seq (.seq (.region [⟨(some 12), .load (some 3) (.tmp 2), none, .seq, [], []⟩,
     ⟨(some 13), .call 21 [(.tmp 12)], none, .seq, [], []⟩,
     ⟨(some 14), .bin .neq (.tmp 13) (.const (.int .i64 0)), none, .seq, [], []⟩])
   (.cond (.tmp 14)
    (.seq (.region [⟨(some 15), .load (some 3) (.tmp 2), none, .seq, [], []⟩,
      ⟨(some 16), .call 21 [(.tmp 15)], none, .seq, [], []⟩,
      ⟨(some 4), .move (.const (.int .i64 0)), none, .seq, [], []⟩,
      ⟨(some 5), .move (.tmp 16), none, .seq, [], []⟩])
    .ret)
    .skip))
  (.seq (.seq (.region [⟨(some 17), .move (.tmp 1), none, .seq, [], []⟩,
     ⟨(some 18), .len .sl (.tmp 17), none, .seq, [], []⟩,
     ⟨(some 19), .bin .gtr (.tmp 18) (.const (.int .i64 200)), none, .seq, [], []⟩])
   (.cond (.tmp 19)
    (.seq (.region [⟨(some 4), .move (.const (.int .i64 0)), none, .seq, [], []⟩,
      ⟨(some 5), .move (.const (.int .i64 6)), none, .seq, [], []⟩])
    .ret)
    .skip))
  (.seq (.seq (.region [⟨(some 6), .move (.const (.int .i64 0)), none, .seq, [], []⟩])
   (.block 0
    (.loop f34l3)))
  (.seq (.region [⟨(some 7), .move (.const (.int .i64 0)), none, .seq, [], []⟩])
  (.seq (.seq (.region [⟨(some 8), .move (.const (.int .i64 0)), none, .seq, [], []⟩])
   (.block 2
    (.loop f34l2)))
  (.seq (.seq (.region [⟨(some 9), .move (.const (.int .i64 0)), none, .seq, [], []⟩])
   (.block 4
    (.loop f34l1)))
  (.seq (.region [⟨(some 141), .move (.tmp 7), none, .seq, [], []⟩,
    ⟨(some 4), .move (.tmp 141), none, .seq, [], []⟩,
    ⟨(some 5), .move (.const (.int .i64 0)), none, .seq, [], []⟩])
  .ret))))))))⟩

/-- forecourt/shop.Prices -/
def f35 : AFunc := ⟨1, [.tmp 2, .tmp 3],
  (.seq (.region [⟨(some 1), .box (.tmp 0), none, .seq, [], []⟩,
    ⟨(some 2), .move (.const (.slice none 0 0)), none, .seq, [], []⟩,
    ⟨(some 3), .move (.const (.int .i64 0)), none, .seq, [], []⟩])
  (.seq (.seq (.region [⟨(some 5), .load (some 3) (.tmp 1), none, .seq, [], []⟩,
     ⟨(some 6), .call 20 [(.tmp 5)], none, .seq, [], []⟩,
     ⟨(some 4), .move (.tmp 6), none, .seq, [], []⟩])
   (.seq (.region [⟨(some 7), .move (.tmp 4), none, .seq, [], []⟩,
     ⟨(some 8), .bin .neq (.tmp 7) (.const (.int .i64 0)), none, .seq, [], []⟩])
   (.cond (.tmp 8)
    (.seq (.region [⟨(some 9), .move (.tmp 4), none, .seq, [], []⟩,
      ⟨(some 2), .move (.const (.slice none 0 0)), none, .seq, [], []⟩,
      ⟨(some 3), .move (.tmp 9), none, .seq, [], []⟩])
    .ret)
    .skip)))
  (.seq (.region [⟨(some 10), .load (some 3) (.tmp 1), none, .seq, [], []⟩,
    ⟨(some 11), .call 62 [(.tmp 10)], none, .seq, [], []⟩,
    ⟨(some 12), .call 71 [(.tmp 11)], none, .seq, [], []⟩,
    ⟨(some 2), .move (.tmp 12), none, .seq, [], []⟩,
    ⟨(some 3), .move (.const (.int .i64 0)), none, .seq, [], []⟩])
  .ret)))⟩

/-- forecourt/shop.Age -/
def f36 : AFunc := ⟨2, [.tmp 4, .tmp 5],
  (.seq (.region [⟨(some 2), .box (.tmp 0), none, .seq, [], []⟩,
    ⟨(some 3), .box (.tmp 1), none, .seq, [], []⟩,
    ⟨(some 4), .move (.const (.int .i64 0)), none, .seq, [], []⟩,
    ⟨(some 5), .move (.const (.int .i64 0)), none, .seq, [], []⟩])
  (.seq (.seq (.region [⟨(some 7), .load (some 3) (.tmp 2), none, .seq, [], []⟩,
     ⟨(some 8), .call 72 [(.tmp 7)], none, .seq, [], []⟩,
     ⟨(some 9), .un .not (.tmp 8), none, .seq, [], []⟩,
     ⟨(some 10), .move (.tmp 9), none, .seq, [], []⟩,
     ⟨(some 11), .load (some 3) (.tmp 3), some (10, false), .seq, [], []⟩,
     ⟨(some 12), .call 72 [(.tmp 11)], some (10, false), .seq, [], []⟩,
     ⟨(some 13), .un .not (.tmp 12), some (10, false), .seq, [], []⟩,
     ⟨(some 14), .pick (.tmp 10) (.const (.bool true)) (.tmp 13), none, .seq, [], []⟩])
   (.cond (.tmp 14)
    (.seq (.region [⟨(some 4), .move (.const (.int .i64 0)), none, .seq, [], []⟩,
      ⟨(some 5), .move (.const (.int .i64 3)), none, .seq, [], []⟩])
    .ret)
    .skip))
  (.seq (.region [⟨(some 15), .fieldAddr 0 (.tmp 3), none, .seq, [], []⟩,
    ⟨(some 16), .load none (.tmp 15), none, .seq, [], []⟩,
    ⟨(some 17), .fieldAddr 0 (.tmp 2), none, .seq, [], []⟩,
    ⟨(some 18), .load none (.tmp 17), none, .seq, [], []⟩,
    ⟨(some 19), .bin .sub (.tmp 16) (.tmp 18), none, .seq, [], []⟩,
    ⟨(some 6), .move (.tmp 19), none, .seq, [], []⟩])
  (.seq (.seq (.region [⟨(some 20), .fieldAddr 1 (.tmp 3), none, .seq, [], []⟩,
     ⟨(some 21), .load none (.tmp 20), none, .seq, [], []⟩,
     ⟨(some 22), .bin .mul (.const (.int .i64 100)) (.tmp 21), none, .seq, [], []⟩,
     ⟨(some 23), .fieldAddr 2 (.tmp 3), none, .seq, [], []⟩,
     ⟨(some 24), .load none (.tmp 23), none, .seq, [], []⟩,
     ⟨(some 25), .bin .add (.tmp 22) (.tmp 24), none, .seq, [], []⟩,
     ⟨(some 26), .fieldAddr 1 (.tmp 2), none, .seq, [], []⟩,
     ⟨(some 27), .load none (.tmp 26), none, .seq, [], []⟩,
     ⟨(some 28), .bin .mul (.const (.int .i64 100)) (.tmp 27), none, .seq, [], []⟩,
     ⟨(some 29), .fieldAddr 2 (.tmp 2), none, .seq, [], []⟩,
     ⟨(some 30), .load none (.tmp 29), none, .seq, [], []⟩,
     ⟨(some 31), .bin .add (.tmp 28) (.tmp 30), none, .seq, [], []⟩,
     ⟨(some 32), .bin .lss (.tmp 25) (.tmp 31), none, .seq, [], []⟩])
   (.cond (.tmp 32)
    (.region [⟨(some 33), .move (.tmp 6), none, .seq, [], []⟩,
     ⟨(some 34), .bin .sub (.tmp 33) (.const (.int .i64 1)), none, .seq, [], []⟩,
     ⟨(some 6), .move (.tmp 34), none, .seq, [], []⟩])
    .skip))
  (.seq (.seq (.region [⟨(some 35), .move (.tmp 6), none, .seq, [], []⟩,
     ⟨(some 36), .bin .lss (.tmp 35) (.const (.int .i64 0)), none, .seq, [], []⟩])
   (.cond (.tmp 36)
    (.seq (.region [⟨(some 4), .move (.const (.int .i64 0)), none, .seq, [], []⟩,
      ⟨(some 5), .move (.const (.int .i64 12)), none, .seq, [], []⟩])
    .ret)
    .skip))
  (.seq (.region [⟨(some 37), .move (.tmp 6), none, .seq, [], []⟩,
    ⟨(some 4), .move (.tmp 37), none, .seq, [], []⟩,
    ⟨(some 5), .move (.const (.int .i64 0)), none, .seq, [], []⟩])
  .ret))))))⟩

/-- forecourt/forecourtref11.Age -/
def f37 : AFunc := ⟨2, [.tmp 4, .tmp 5],
  (.seq (.region [⟨(some 2), .box (.tmp 0), none, .seq, [], []⟩,
    ⟨(some 3), .box (.tmp 1), none, .seq, [], []⟩,
    ⟨(some 4), .move (.const (.int .i64 0)), none, .seq, [], []⟩,
    ⟨(some 5), .move (.const (.int .i64 0)), none, .seq, [], []⟩])
  (.seq (.seq (.region [⟨(some 7), .load (some 3) (.tmp 2), none, .seq, [], []⟩,
     ⟨(some 8), .call 45 [(.tmp 7)], none, .seq, [], []⟩,
     ⟨(some 9), .un .not (.tmp 8), none, .seq, [], []⟩,
     ⟨(some 10), .move (.tmp 9), none, .seq, [], []⟩,
     ⟨(some 11), .load (some 3) (.tmp 3), some (10, false), .seq, [], []⟩,
     ⟨(some 12), .call 45 [(.tmp 11)], some (10, false), .seq, [], []⟩,
     ⟨(some 13), .un .not (.tmp 12), some (10, false), .seq, [], []⟩,
     ⟨(some 14), .pick (.tmp 10) (.const (.bool true)) (.tmp 13), none, .seq, [], []⟩])
   (.cond (.tmp 14)
    (.seq (.region [⟨(some 4), .move (.const (.int .i64 0)), none, .seq, [], []⟩,
      ⟨(some 5), .move (.const (.int .i64 3)), none, .seq, [], []⟩])
    .ret)
    .skip))
  (.seq (.region [⟨(some 15), .fieldAddr 0 (.tmp 3), none, .seq, [], []⟩,
    ⟨(some 16), .load none (.tmp 15), none, .seq, [], []⟩,
    ⟨(some 17), .fieldAddr 0 (.tmp 2), none, .seq, [], []⟩,
    ⟨(some 18), .load none (.tmp 17), none, .seq, [], []⟩,
    ⟨(some 19), .bin .sub (.tmp 16) (.tmp 18), none, .seq, [], []⟩,
    ⟨(some 6), .move (.tmp 19), none, .seq, [], []⟩])
  (.seq (.seq (.region [⟨(some 20), .fieldAddr 1 (.tmp 3), none, .seq, [], []⟩,
     ⟨(some 21), .load none (.tmp 20), none, .seq, [], []⟩,
     ⟨(some 22), .fieldAddr 1 (.tmp 2), none, .seq, [], []⟩,
     ⟨(some 23), .load none (.tmp 22), none, .seq, [], []⟩,
     ⟨(some 24), .bin .lss (.tmp 21) (.tmp 23), none, .seq, [], []⟩,
     ⟨(some 25), .move (.tmp 24), none, .seq, [], []⟩,
     ⟨(some 26), .fieldAddr 1 (.tmp 3), some (25, false), .seq, [], []⟩,
     ⟨(some 27), .load none (.tmp 26), some (25, false), .seq, [], []⟩,
     ⟨(some 28), .fieldAddr 1 (.tmp 2), some (25, false), .seq, [], []⟩,
     ⟨(some 29), .load none (.tmp 28), some (25, false), .seq, [], []⟩,
     ⟨(some 30), .bin .eql (.tmp 27) (.tmp 29), some (25, false), .seq, [], []⟩,
     ⟨(some 31), .move (.tmp 30), some (25, false), .seq, [], []⟩,
     ⟨(some 32), .fieldAddr 2 (.tmp 3), some (31, true), .seq, [], []⟩,
     ⟨(some 33), .load none (.tmp 32), some (31, true), .seq, [], []⟩,
     ⟨(some 34), .fieldAddr 2 (.tmp 2), some (31, true), .seq, [], []⟩,
     ⟨(some 35), .load none (.tmp 34), some (31, true), .seq, [], []⟩,
     ⟨(some 36), .bin .lss (.tmp 33) (.tmp 35), some (31, true), .seq, [], []⟩,
     ⟨(some 37), .pick (.tmp 31) (.tmp 36) (.const (.bool false)), some (25, false), .seq, [], []⟩,
     ⟨(some 38), .pick (.tmp 25) (.const (.bool true)) (.tmp 37), none, .seq, [], []⟩])
   (.cond (.tmp 38)
    (.region [⟨(some 39), .move (.tmp 6), none, .seq, [], []⟩,
     ⟨(some 40), .bin .sub (.tmp 39) (.const (.int .i64 1)), none, .seq, [], []⟩,
     ⟨(some 6), .move (.tmp 40), none, .seq, [], []⟩])
    .skip))
  (.seq (.seq (.region [⟨(some 41), .move (.tmp 6), none, .seq, [], []⟩,
     ⟨(some 42), .bin .lss (.tmp 41) (.const (.int .i64 0)), none, .seq, [], []⟩])
   (.cond (.tmp 42)
    (.seq (.region [⟨(some 4), .move (.const (.int .i64 0)), none, .seq, [], []⟩,
      ⟨(some 5), .move (.const (.int .i64 12)), none, .seq, [], []⟩])
    .ret)
    .skip))
  (.seq (.region [⟨(some 43), .move (.tmp 6), none, .seq, [], []⟩,
    ⟨(some 4), .move (.tmp 43), none, .seq, [], []⟩,
    ⟨(some 5), .move (.const (.int .i64 0)), none, .seq, [], []⟩])
  .ret))))))⟩

def f38l0 : ACode :=
  (.keep [0, 8, 9, 10, 11, 38, 39, 40, 45, 46, 47]
            (.seq (.region [⟨(some 48), .bin .lss (.tmp 47) (.tmp 46), none, .seq, [], []⟩])
            (.seq (.cond (.tmp 48)
              .skip
              (.exit 3))
            (.seq (.block 4
              (.seq (.region [⟨(some 49), .indexAddr none 2 (.tmp 45) (.tmp 47), none, .seq, [], []⟩,
                ⟨(some 50), .load (some 2) (.tmp 49), none, .seq, [], []⟩,
                ⟨(some 13), .alloc [(.int .i64 0), (.int .i64 0)], none, .seq, [], []⟩,
                ⟨none, .store 2 (.tmp 13) (.tmp 50), none, .seq, [], []⟩])
              (.seq (.region [⟨(some 51), .fieldAddr 0 (.tmp 13), none, .seq, [], []⟩,
                ⟨(some 52), .load none (.tmp 51), none, .seq, [], []⟩,
                ⟨(some 53), .move (.tmp 10), none, .seq, [], []⟩,
                ⟨(some 54), .bin .eql (.tmp 52) (.tmp 53), none, .seq, [], []⟩])
              (.cond (.tmp 54)
               (.region [⟨(some 55), .move (.tmp 9), none, .seq, [], []⟩,
                ⟨(some 56), .fieldAddr 1 (.tmp 13), none, .seq, [], []⟩,
                ⟨(some 57), .load none (.tmp 56), none, .seq, [], []⟩,
                ⟨(some 58), .bin .add (.tmp 55) (.tmp 57), none, .seq, [], []⟩,
                ⟨(some 9), .move (.tmp 58), none, .seq, [], []⟩])
               .skip))))
            (.region [⟨(some 59), .bin .add (.tmp 47) (.const (.int .i64 1)), none, .seq, [], []⟩,
             ⟨(some 47), .move (.tmp 59), none, .seq, [], []⟩])))))

def f38l1 : ACode :=
  (.keep [0, 8, 9, 38, 39, 40]
      (.seq (.region [⟨(some 41), .bin .lss (.tmp 40) (.tmp 39), none, .seq, [], []⟩])
      (.seq (.cond (.tmp 41)
        .skip
        (.exit 1))
      (.seq (.block 2
        (.seq (.region [⟨(some 42), .move (.tmp 40), none, .seq, [], []⟩,
          ⟨(some 43), .indexAddr none 1 (.tmp 38) (.tmp 40), none, .seq, [], []⟩,
          ⟨(some 44), .load none (.tmp 43), none, .seq, [], []⟩,
          ⟨(some 10), .move (.tmp 42), none, .seq, [], []⟩,
          ⟨(some 11), .move (.tmp 44), none, .seq, [], []⟩])
        (.seq (.seq (.region [⟨(some 45), .move (.tmp 0), none, .seq, [], []⟩,
           ⟨(some 46), .len .sl (.tmp 45), none, .seq, [], []⟩,
           ⟨(some 47), .move (.const (.int .i64 0)), none, .seq, [], []⟩])
         (.block 3
          (.loop f38l0)))
        (.seq (.region [⟨(some 60), .move (.tmp 9), none, .seq, [], []⟩,
          ⟨(some 61), .move (.tmp 11), none, .seq, [], []⟩,
          ⟨(some 62), .bin .sub (.tmp 60) (.tmp 61), none, .seq, [], []⟩,
          ⟨(some 9), .move (.tmp 62), none, .seq, [], []⟩])
        (.region [⟨(some 63), .move (.tmp 8), none, .seq, [], []⟩,
         ⟨(some 64), .move (.tmp 9), none, .seq, [], []⟩,
         ⟨(some 65), .buildSlice 1 [(.int .i64 0)] 1 [(0, (.tmp 64))], none, .seq, [], []⟩,
         ⟨(some 66), .append 1 8 (.tmp 63) (.tmp 65), none, .seq, [], []⟩,
         ⟨(some 8), .move (.tmp 66), none, .seq, [], []⟩])))))
      (.region [⟨(some 67), .bin .add (.tmp 40) (.const (.int .i64 1)), none, .seq, [], []⟩,
       ⟨(some 40), .move (.tmp 67), none, .seq, [], []⟩])))))

/-- forecourt/shop.Throw -/
def f38 : AFunc := ⟨2, [.tmp 4, .tmp 5, .tmp 6],
  (.seq (.region [⟨(some 4), .move (.const (.int .i64 0)), none, .seq, [], []⟩,
    ⟨(some 5), .move (.const (.int .i64 0)), none, .seq, [], []⟩,
    ⟨(some 6), .move (.const (.int .i64 0)), none, .seq, [], []⟩])
  (.seq (.region [⟨(some 7), .move (.fn 73), none, .seq, [], []⟩])
  (.seq (.block 0
    (.seq (.region [⟨(some 16), .move (.tmp 0), none, .seq, [], []⟩,
      ⟨(some 17), .len .sl (.tmp 16), none, .seq, [], []⟩,
      ⟨(some 18), .bin .gtr (.tmp 17) (.const (.int .i64 31)), none, .seq, [], []⟩,
      ⟨(some 19), .move (.tmp 18), none, .seq, [], []⟩,
      ⟨(some 20), .move (.tmp 1), some (19, false), .seq, [], []⟩,
      ⟨(some 21), .len .sl (.tmp 20), some (19, false), .seq, [], []⟩,
      ⟨(some 22), .bin .eql (.tmp 21) (.const (.int .i64 0)), some (19, false), .seq, [], []⟩,
      ⟨(some 23), .pick (.tmp 19) (.const (.bool true)) (.tmp 22), none, .seq, [], []⟩,
      ⟨(some 24), .move (.tmp 23), none, .seq, [], []⟩,
      ⟨(some 25), .move (.tmp 1), some (24, false), .seq, [], []⟩,
      ⟨(some 26), .len .sl (.tmp 25), some (24, false), .seq, [], []⟩,
      ⟨(some 27), .bin .gtr (.tmp 26) (.const (.int .i64 31)), some (24, false), .seq, [], []⟩,
      ⟨(some 28), .pick (.tmp 24) (.const (.bool true)) (.tmp 27), none, .seq, [], []⟩,
      ⟨(some 15), .move (.tmp 28), none, .seq, [], []⟩])
    (.cond (.tmp 15)
     (.seq (.region [⟨(some 4), .move (.const (.int .i64 0)), none, .seq, [], []⟩,
       ⟨(some 5), .move (.const (.int .i64 0)), none, .seq, [], []⟩,
       ⟨(some 6), .move (.const (.int .i64 6)), none, .seq, [], []⟩])
     .ret)
     (.seq (.region [⟨(some 30), .move (.tmp 0), none, .seq, [], []⟩,
       ⟨(some 31), .move (.tmp 7), none, .seq, [], []⟩,
       ⟨(some 32), .call 74 [(.tmp 30), (.tmp 31)], none, .seq, [], []⟩,
       ⟨(some 33), .move (.tmp 32), none, .seq, [], []⟩,
       ⟨(some 34), .move (.tmp 1), some (33, false), .seq, [], []⟩,
       ⟨(some 35), .call 55 [(.const (.int .i64 0)), (.const (.int .i64 100000)), (.tmp 34)], some (33, false), .seq, [], []⟩,
       ⟨(some 36), .un .not (.tmp 35), some (33, false), .seq, [], []⟩,
       ⟨(some 37), .pick (.tmp 33) (.const (.bool true)) (.tmp 36), none, .seq, [], []⟩,
       ⟨(some 29), .move (.tmp 37), none, .seq, [], []⟩])
     (.cond (.tmp 29)
      (.seq (.region [⟨(some 4), .move (.const (.int .i64 0)), none, .seq, [], []⟩,
        ⟨(some 5), .move (.const (.int .i64 0)), none, .seq, [], []⟩,
        ⟨(some 6), .move (.const (.int .i64 3)), none, .seq, [], []⟩])
      .ret)
      .skip)))))
  (.seq (.region [⟨(some 8), .move (.const (.slice none 0 0)), none, .seq, [], []⟩])
  (.seq (.region [⟨(some 9), .move (.const (.int .i64 0)), none, .seq, [], []⟩])
  (.seq (.seq (.region [⟨(some 38), .move (.tmp 1), none, .seq, [], []⟩,
     ⟨(some 39), .len .sl (.tmp 38), none, .seq, [], []⟩,
     ⟨(some 40), .move (.const (.int .i64 0)), none, .seq, [], []⟩])
   (.block 1
    (.loop f38l1)))
  (.seq (.region [⟨(some 68), .move (.tmp 8), none, .seq, [], []⟩,
    ⟨(some 69), .call 75 [(.tmp 68), (.fn 76)], none, .seq, [], []⟩,
    ⟨(some 14), .move (.tmp 69), none, .seq, [], []⟩])
  (.seq (.region [⟨(some 70), .move (.tmp 8), none, .seq, [], []⟩,
    ⟨(some 71), .move (.tmp 14), none, .seq, [], []⟩,
    ⟨(some 72), .indexAddr none 1 (.tmp 70) (.tmp 71), none, .seq, [], []⟩,
    ⟨(some 73), .load none (.tmp 72), none, .seq, [], []⟩,
    ⟨(some 74), .minmax true [(.const (.int .i64 0)), (.tmp 73)], none, .seq, [], []⟩,
    ⟨(some 75), .move (.tmp 14), none, .seq, [], []⟩,
    ⟨(some 4), .move (.tmp 74), none, .seq, [], []⟩,
    ⟨(some 5), .move (.tmp 75), none, .seq, [], []⟩,
    ⟨(some 6), .move (.const (.int .i64 0)), none, .seq, [], []⟩])
  .ret))))))))⟩

def f39l0 : ACode :=
  (.keep [0, 1, 9, 10, 11, 12, 14]
            (.seq (.seq (.region [⟨(some 108), .move (.tmp 14), none, .seq, [], []⟩,
               ⟨(some 109), .move (.tmp 11), none, .seq, [], []⟩,
               ⟨(some 110), .bin .leq (.tmp 108) (.tmp 109), none, .seq, [], []⟩])
             (.cond (.tmp 110)
              .skip
              (.exit 8)))
            (.seq (.block 9
              (.region [⟨(some 113), .move (.tmp 12), none, .seq, [], []⟩,
               ⟨(some 114), .move (.tmp 1), none, .seq, [], []⟩,
               ⟨(some 115), .move (.tmp 14), none, .seq, [], []⟩,
               ⟨(some 116), .indexAddr none 1 (.tmp 114) (.tmp 115), none, .seq, [], []⟩,
               ⟨(some 117), .load none (.tmp 116), none, .seq, [], []⟩,
               ⟨(some 118), .bin .sub (.tmp 113) (.tmp 117), none, .seq, [], []⟩,
               ⟨(some 12), .move (.tmp 118), none, .seq, [], []⟩]))
            (.region [⟨(some 111), .move (.tmp 14), none, .seq, [], []⟩,
             ⟨(some 112), .bin .add (.tmp 111) (.const (.int .i64 1)), none, .seq, [], []⟩,
             ⟨(some 14), .move (.tmp 112), none, .seq, [], []⟩]))))

def f39l1 : ACode :=
  (.keep [0, 1, 9, 10, 11, 12, 13]
            (.seq (.seq (.region [⟨(some 88), .move (.tmp 13), none, .seq, [], []⟩,
               ⟨(some 89), .move (.tmp 0), none, .seq, [], []⟩,
               ⟨(some 90), .len .sl (.tmp 89), none, .seq, [], []⟩,
               ⟨(some 91), .bin .lss (.tmp 88) (.tmp 90), none, .seq, [], []⟩])
             (.cond (.tmp 91)
              .skip
              (.exit 6)))
            (.seq (.block 7
              (.seq (.region [⟨(some 94), .move (.tmp 0), none, .seq, [], []⟩,
                ⟨(some 95), .move (.tmp 13), none, .seq, [], []⟩,
                ⟨(some 96), .indexAddr none 2 (.tmp 94) (.tmp 95), none, .seq, [], []⟩,
                ⟨(some 97), .fieldAddr 0 (.tmp 96), none, .seq, [], []⟩,
                ⟨(some 98), .load none (.tmp 97), none, .seq, [], []⟩,
                ⟨(some 99), .move (.tmp 11), none, .seq, [], []⟩,
                ⟨(some 100), .bin .leq (.tmp 98) (.tmp 99), none, .seq, [], []⟩])
              (.cond (.tmp 100)
               (.region [⟨(some 101), .move (.tmp 12), none, .seq, [], []⟩,
                ⟨(some 102), .move (.tmp 0), none, .seq, [], []⟩,
                ⟨(some 103), .move (.tmp 13), none, .seq, [], []⟩,
                ⟨(some 104), .indexAddr none 2 (.tmp 102) (.tmp 103), none, .seq, [], []⟩,
                ⟨(some 105), .fieldAddr 1 (.tmp 104), none, .seq, [], []⟩,
                ⟨(some 106), .load none (.tmp 105), none, .seq, [], []⟩,
                ⟨(some 107), .bin .add (.tmp 101) (.tmp 106), none, .seq, [], []⟩,
                ⟨(some 12), .move (.tmp 107), none, .seq, [], []⟩])
               .skip)))
            (.region [⟨(some 92), .move (.tmp 13), none, .seq, [], []⟩,
             ⟨(some 93), .bin .add (.tmp 92) (.const (.int .i64 1)), none, .seq, [], []⟩,
             ⟨(some 13), .move (.tmp 93), none, .seq, [], []⟩]))))

def f39l2 : ACode :=
  (.keep [0, 1, 9, 10, 11]
      (.seq (.seq (.region [⟨(some 82), .move (.tmp 11), none, .seq, [], []⟩,
         ⟨(some 83), .move (.tmp 1), none, .seq, [], []⟩,
         ⟨(some 84), .len .sl (.tmp 83), none, .seq, [], []⟩,
         ⟨(some 85), .bin .lss (.tmp 82) (.tmp 84), none, .seq, [], []⟩])
       (.cond (.tmp 85)
        .skip
        (.exit 4)))
      (.seq (.block 5
        (.seq (.region [⟨(some 12), .move (.const (.int .i64 0)), none, .seq, [], []⟩])
        (.seq (.seq (.region [⟨(some 13), .move (.const (.int .i64 0)), none, .seq, [], []⟩])
         (.block 6
          (.loop f39l1)))
        (.seq (.seq (.region [⟨(some 14), .move (.const (.int .i64 0)), none, .seq, [], []⟩])
         (.block 8
          (.loop f39l0)))
        (.seq (.region [⟨(some 119), .move (.tmp 11), none, .seq, [], []⟩,
          ⟨(some 120), .bin .eql (.tmp 119) (.const (.int .i64 0)), none, .seq, [], []⟩,
          ⟨(some 121), .move (.tmp 120), none, .seq, [], []⟩,
          ⟨(some 122), .move (.tmp 12), some (121, false), .seq, [], []⟩,
          ⟨(some 123), .move (.tmp 9), some (121, false), .seq, [], []⟩,
          ⟨(some 124), .bin .gtr (.tmp 122) (.tmp 123), some (121, false), .seq, [], []⟩,
          ⟨(some 125), .pick (.tmp 121) (.const (.bool true)) (.tmp 124), none, .seq, [], []⟩])
        (.cond (.tmp 125)
         (.region [⟨(some 126), .move (.tmp 12), none, .seq, [], []⟩,
          ⟨(some 127), .move (.tmp 11), none, .seq, [], []⟩,
          ⟨(some 9), .move (.tmp 126), none, .seq, [], []⟩,
          ⟨(some 10), .move (.tmp 127), none, .seq, [], []⟩])
         .skip))))))
      (.region [⟨(some 86), .move (.tmp 11), none, .seq, [], []⟩,
       ⟨(some 87), .bin .add (.tmp 86) (.const (.int .i64 1)), none, .seq, [], []⟩,
       ⟨(some 11), .move (.tmp 87), none, .seq, [], []⟩]))))

def f39l3 : ACode :=
  (.keep [0, 1, 8]
      (.seq (.seq (.region [⟨(some 64), .move (.tmp 8), none, .seq, [], []⟩,
         ⟨(some 65), .move (.tmp 1), none, .seq, [], []⟩,
         ⟨(some 66), .len .sl (.tmp 65), none, .seq, [], []⟩,
         ⟨(some 67), .bin .lss (.tmp 64) (.tmp 66), none, .seq, [], []⟩])
       (.cond (.tmp 67)
        .skip
        (.exit 2)))
      (.seq (.block 3
        (.seq (.region [⟨(some 70), .move (.tmp 1), none, .seq, [], []⟩,
          ⟨(some 71), .move (.tmp 8), none, .seq, [], []⟩,
          ⟨(some 72), .indexAddr none 1 (.tmp 70) (.tmp 71), none, .seq, [], []⟩,
          ⟨(some 73), .load none (.tmp 72), none, .seq, [], []⟩,
          ⟨(some 74), .bin .lss (.tmp 73) (.const (.int .i64 0)), none, .seq, [], []⟩,
          ⟨(some 75), .move (.tmp 74), none, .seq, [], []⟩,
          ⟨(some 76), .move (.tmp 1), some (75, false), .seq, [], []⟩,
          ⟨(some 77), .move (.tmp 8), some (75, false), .seq, [], []⟩,
          ⟨(some 78), .indexAddr none 1 (.tmp 76) (.tmp 77), some (75, false), .seq, [], []⟩,
          ⟨(some 79), .load none (.tmp 78), some (75, false), .seq, [], []⟩,
          ⟨(some 80), .bin .gtr (.tmp 79) (.const (.int .i64 100000)), some (75, false), .seq, [], []⟩,
          ⟨(some 81), .pick (.tmp 75) (.const (.bool true)) (.tmp 80), none, .seq, [], []⟩])
        (.cond (.tmp 81)
         (.seq (.region [⟨(some 4), .move (.const (.int .i64 0)), none, .seq, [], []⟩,
           ⟨(some 5), .move (.const (.int .i64 0)), none, .seq, [], []⟩,
           ⟨(some 6), .move (.const (.int .i64 3)), none, .seq, [], []⟩])
         .ret)
         .skip)))
      (.region [⟨(some 68), .move (.tmp 8), none, .seq, [], []⟩,
       ⟨(some 69), .bin .add (.tmp 68) (.const (.int .i64 1)), none, .seq, [], []⟩,
       ⟨(some 8), .move (.tmp 69), none, .seq, [], []⟩]))))

def f39l4 : ACode :=
  (.keep [0, 1, 7]
      (.seq (.seq (.region [⟨(some 28), .move (.tmp 7), none, .seq, [], []⟩,
         ⟨(some 29), .move (.tmp 0), none, .seq, [], []⟩,
         ⟨(some 30), .len .sl (.tmp 29), none, .seq, [], []⟩,
         ⟨(some 31), .bin .lss (.tmp 28) (.tmp 30), none, .seq, [], []⟩])
       (.cond (.tmp 31)
        .skip
        (.exit 0)))
      (.seq (.block 1
        (.seq (.region [⟨(some 34), .move (.tmp 0), none, .seq, [], []⟩,
          ⟨(some 35), .move (.tmp 7), none, .seq, [], []⟩,
          ⟨(some 36), .indexAddr none 2 (.tmp 34) (.tmp 35), none, .seq, [], []⟩,
          ⟨(some 37), .fieldAddr 0 (.tmp 36), none, .seq, [], []⟩,
          ⟨(some 38), .load none (.tmp 37), none, .seq, [], []⟩,
          ⟨(some 39), .bin .lss (.tmp 38) (.const (.int .i64 0)), none, .seq, [], []⟩,
          ⟨(some 40), .move (.tmp 39), none, .seq, [], []⟩,
          ⟨(some 41), .move (.tmp 0), some (40, false), .seq, [], []⟩,
          ⟨(some 42), .move (.tmp 7), some (40, false), .seq, [], []⟩,
          ⟨(some 43), .indexAddr none 2 (.tmp 41) (.tmp 42), some (40, false), .seq, [], []⟩,
          ⟨(some 44), .fieldAddr 0 (.tmp 43), some (40, false), .seq, [], []⟩,
          ⟨(some 45), .load none (.tmp 44), some (40, false), .seq, [], []⟩,
          ⟨(some 46), .bin .gtr (.tmp 45) (.const (.int .i64 30)), some (40, false), .seq, [], []⟩,
          ⟨(some 47), .pick (.tmp 40) (.const (.bool true)) (.tmp 46), none, .seq, [], []⟩,
          ⟨(some 48), .move (.tmp 47), none, .seq, [], []⟩,
          ⟨(some 49), .move (.tmp 0), some (48, false), .seq, [], []⟩,
          ⟨(some 50), .move (.tmp 7), some (48, false), .seq, [], []⟩,
          ⟨(some 51), .indexAddr none 2 (.tmp 49) (.tmp 50), some (48, false), .seq, [], []⟩,
          ⟨(some 52), .fieldAddr 1 (.tmp 51), some (48, false), .seq, [], []⟩,
          ⟨(some 53), .load none (.tmp 52), some (48, false), .seq, [], []⟩,
          ⟨(some 54), .bin .lss (.tmp 53) (.const (.int .i64 0)), some (48, false), .seq, [], []⟩,
          ⟨(some 55), .pick (.tmp 48) (.const (.bool true)) (.tmp 54), none, .seq, [], []⟩,
          ⟨(some 56), .move (.tmp 55), none, .seq, [], []⟩,
          ⟨(some 57), .move (.tmp 0), some (56, false), .seq, [], []⟩,
          ⟨(some 58), .move (.tmp 7), some (56, false), .seq, [], []⟩,
          ⟨(some 59), .indexAddr none 2 (.tmp 57) (.tmp 58), some (56, false), .seq, [], []⟩,
          ⟨(some 60), .fieldAddr 1 (.tmp 59), some (56, false), .seq, [], []⟩,
          ⟨(some 61), .load none (.tmp 60), some (56, false), .seq, [], []⟩,
          ⟨(some 62), .bin .gtr (.tmp 61) (.const (.int .i64 100000)), some (56, false), .seq, [], []⟩,
          ⟨(some 63), .pick (.tmp 56) (.const (.bool true)) (.tmp 62), none, .seq, [], []⟩])
        (.cond (.tmp 63)
         (.seq (.region [⟨(some 4), .move (.const (.int .i64 0)), none, .seq, [], []⟩,
           ⟨(some 5), .move (.const (.int .i64 0)), none, .seq, [], []⟩,
           ⟨(some 6), .move (.const (.int .i64 3)), none, .seq, [], []⟩])
         .ret)
         .skip)))
      (.region [⟨(some 32), .move (.tmp 7), none, .seq, [], []⟩,
       ⟨(some 33), .bin .add (.tmp 32) (.const (.int .i64 1)), none, .seq, [], []⟩,
       ⟨(some 7), .move (.tmp 33), none, .seq, [], []⟩]))))

/-- forecourt/forecourtref11.Throw -/
def f39 : AFunc := ⟨2, [.tmp 4, .tmp 5, .tmp 6],
  (.seq (.region [⟨(some 4), .move (.const (.int .i64 0)), none, .seq, [], []⟩,
    ⟨(some 5), .move (.const (.int .i64 0)), none, .seq, [], []⟩,
    ⟨(some 6), .move (.const (.int .i64 0)), none, .seq, [], []⟩])
  (.seq (.seq (.region [⟨(some 15), .move (.tmp 0), none, .seq, [], []⟩,
     ⟨(some 16), .len .sl (.tmp 15), none, .seq, [], []⟩,
     ⟨(some 17), .bin .gtr (.tmp 16) (.const (.int .i64 31)), none, .seq, [], []⟩,
     ⟨(some 18), .move (.tmp 17), none, .seq, [], []⟩,
     ⟨(some 19), .move (.tmp 1), some (18, false), .seq, [], []⟩,
     ⟨(some 20), .len .sl (.tmp 19), some (18, false), .seq, [], []⟩,
     ⟨(some 21), .bin .lss (.tmp 20) (.const (.int .i64 1)), some (18, false), .seq, [], []⟩,
     ⟨(some 22), .pick (.tmp 18) (.const (.bool true)) (.tmp 21), none, .seq, [], []⟩,
     ⟨(some 23), .move (.tmp 22), none, .seq, [], []⟩,
     ⟨(some 24), .move (.tmp 1), some (23, false), .seq, [], []⟩,
     ⟨(some 25), .len .sl (.tmp 24), some (23, false), .seq, [], []⟩,
     ⟨(some 26), .bin .gtr (.tmp 25) (.const (.int .i64 31)), some (23, false), .seq, [], []⟩,
     ⟨(some 27), .pick (.tmp 23) (.const (.bool true)) (.tmp 26), none, .seq, [], []⟩])
   (.cond (.tmp 27)
    (.seq (.region [⟨(some 4), .move (.const (.int .i64 0)), none, .seq, [], []⟩,
      ⟨(some 5), .move (.const (.int .i64 0)), none, .seq, [], []⟩,
      ⟨(some 6), .move (.const (.int .i64 6)), none, .seq, [], []⟩])
    .ret)
    .skip))
  (.seq (.seq (.region [⟨(some 7), .move (.const (.int .i64 0)), none, .seq, [], []⟩])
   (.block 0
    (.loop f39l4)))
  (.seq (.seq (.region [⟨(some 8), .move (.const (.int .i64 0)), none, .seq, [], []⟩])
   (.block 2
    (.loop f39l3)))
  (.seq (.region [⟨(some 9), .move (.const (.int .i64 0)), none, .seq, [], []⟩,
    ⟨(some 10), .move (.const (.int .i64 0)), none, .seq, [], []⟩])
  (.seq (.seq (.region [⟨(some 11), .move (.const (.int .i64 0)), none, .seq, [], []⟩])
   (.block 4
    (.loop f39l2)))
  (.seq (.region [⟨(some 128), .move (.tmp 9), none, .seq, [], []⟩,
    ⟨(some 129), .minmax true [(.const (.int .i64 0)), (.tmp 128)], none, .seq, [], []⟩,
    ⟨(some 130), .move (.tmp 10), none, .seq, [], []⟩,
    ⟨(some 4), .move (.tmp 129), none, .seq, [], []⟩,
    ⟨(some 5), .move (.tmp 130), none, .seq, [], []⟩,
    ⟨(some 6), .move (.const (.int .i64 0)), none, .seq, [], []⟩])
  .ret)))))))⟩

/-- forecourt/forecourtlaw11.fine -/
def f40 : AFunc := ⟨1, [.tmp 2],
  (.seq (.region [⟨(some 1), .box (.tmp 0), none, .seq, [], []⟩,
    ⟨(some 2), .move (.const (.bool false)), none, .seq, [], []⟩])
  (.seq (.region [⟨(some 3), .load (some 3) (.tmp 1), none, .seq, [], []⟩,
    ⟨(some 4), .call 16 [(.tmp 3)], none, .seq, [], []⟩,
    ⟨(some 5), .un .not (.tmp 4), none, .seq, [], []⟩,
    ⟨(some 6), .move (.tmp 5), none, .seq, [], []⟩,
    ⟨(some 7), .load (some 3) (.tmp 1), some (6, true), .seq, [], []⟩,
    ⟨(some 8), .call 21 [(.tmp 7)], some (6, true), .seq, [], []⟩,
    ⟨(some 9), .bin .eql (.tmp 8) (.const (.int .i64 0)), some (6, true), .seq, [], []⟩,
    ⟨(some 10), .pick (.tmp 6) (.tmp 9) (.const (.bool false)), none, .seq, [], []⟩,
    ⟨(some 2), .move (.tmp 10), none, .seq, [], []⟩])
  .ret))⟩

def f41l0 : ACode :=
  (.keep [1, 2, 5, 6, 7, 9, 10, 11, 13]
           (.seq (.seq (.region [⟨(some 86), .move (.tmp 13), none, .seq, [], []⟩,
              ⟨(some 87), .fieldAddr 2 (.tmp 2), none, .seq, [], []⟩,
              ⟨(some 88), .load none (.tmp 87), none, .seq, [], []⟩,
              ⟨(some 89), .move (.tmp 10), none, .seq, [], []⟩,
              ⟨(some 90), .indexAddr none 3 (.tmp 88) (.tmp 89), none, .seq, [], []⟩,
              ⟨(some 91), .fieldAddr 1 (.tmp 90), none, .seq, [], []⟩,
              ⟨(some 92), .load none (.tmp 91), none, .seq, [], []⟩,
              ⟨(some 93), .bin .leq (.tmp 86) (.tmp 92), none, .seq, [], []⟩,
              ⟨(some 94), .move (.tmp 93), none, .seq, [], []⟩,
              ⟨(some 95), .move (.tmp 5), some (94, true), .seq, [], []⟩,
              ⟨(some 96), .move (.tmp 10), some (94, true), .seq, [], []⟩,
              ⟨(some 97), .indexAddr none 1 (.tmp 95) (.tmp 96), some (94, true), .seq, [], []⟩,
              ⟨(some 98), .load none (.tmp 97), some (94, true), .seq, [], []⟩,
              ⟨(some 99), .bin .lss (.tmp 98) (.const (.int .i64 0)), some (94, true), .seq, [], []⟩,
              ⟨(some 100), .pick (.tmp 94) (.tmp 99) (.const (.bool false)), none, .seq, [], []⟩,
              ⟨(some 101), .move (.tmp 100), none, .seq, [], []⟩,
              ⟨(some 102), .move (.tmp 11), some (101, true), .seq, [], []⟩,
              ⟨(some 103), .bin .lss (.tmp 102) (.const (.int .i64 240)), some (101, true), .seq, [], []⟩,
              ⟨(some 104), .pick (.tmp 101) (.tmp 103) (.const (.bool false)), none, .seq, [], []⟩])
            (.cond (.tmp 104)
             .skip
             (.exit 4)))
           (.seq (.block 5
             (.seq (.region [⟨(some 107), .move (.tmp 6), none, .still, [], []⟩,
               ⟨(some 108), .move (.tmp 13), none, .still, [], []⟩,
               ⟨(some 109), .indexAddr none 1 (.tmp 107) (.tmp 108), none, .still, [], []⟩,
               ⟨(some 110), .load none (.tmp 109), none, .rd, [], []⟩,
               ⟨(some 111), .fieldAddr 1 (.tmp 2), none, .still, [], []⟩,
               ⟨(some 112), .load none (.tmp 111), none, .rd, [], []⟩,
               ⟨(some 113), .bin .lss (.tmp 110) (.tmp 112), none, .still, [], []⟩])
             (.cond (.tmp 113)
              (.seq (.region [⟨(some 114), .move (.tmp 5), none, .seq, [], []⟩,
                ⟨(some 115), .move (.tmp 10), none, .seq, [], []⟩,
                ⟨(some 116), .move (.tmp 13), none, .seq, [], []⟩,
                ⟨(some 117), .indexAddr none 1 (.tmp 114) (.tmp 115), none, .seq, [], []⟩,
                ⟨none, .store 1 (.tmp 117) (.tmp 116), none, .seq, [], []⟩])
              (.region [⟨(some 118), .move (.tmp 6), none, .seq, [], []⟩,
               ⟨(some 119), .move (.tmp 13), none, .seq, [], []⟩,
               ⟨(some 120), .indexAddr none 1 (.tmp 118) (.tmp 119), none, .seq, [], []⟩,
               ⟨(some 121), .load none (.tmp 120), none, .seq, [], []⟩,
               ⟨(some 122), .bin .add (.tmp 121) (.const (.int .i64 1)), none, .seq, [], []⟩,
               ⟨(some 123), .indexAddr none 1 (.tmp 118) (.tmp 119), none, .seq, [], []⟩,
               ⟨none, .store 1 (.tmp 123) (.tmp 122), none, .seq, [], []⟩]))
              .skip)))
           (.region [⟨(some 105), .move (.tmp 13), none, .seq, [], []⟩,
            ⟨(some 106), .bin .add (.tmp 105) (.const (.int .i64 1)), none, .seq, [], []⟩,
            ⟨(some 13), .move (.tmp 106), none, .seq, [], []⟩]))))

def f41l1 : ACode :=
  (.keep [1, 2, 5, 6, 7, 9]
      (.seq (.seq (.region [⟨(some 37), .move (.tmp 9), none, .seq, [], []⟩,
         ⟨(some 38), .move (.tmp 5), none, .seq, [], []⟩,
         ⟨(some 39), .len .sl (.tmp 38), none, .seq, [], []⟩,
         ⟨(some 40), .bin .lss (.tmp 37) (.tmp 39), none, .seq, [], []⟩])
       (.cond (.tmp 40)
        .skip
        (.exit 2)))
      (.seq (.block 3
        (.seq (.region [⟨(some 43), .move (.tmp 7), none, .seq, [], []⟩,
          ⟨(some 44), .move (.tmp 9), none, .seq, [], []⟩,
          ⟨(some 45), .bin .add (.tmp 43) (.tmp 44), none, .seq, [], []⟩,
          ⟨(some 46), .move (.tmp 5), none, .seq, [], []⟩,
          ⟨(some 47), .len .sl (.tmp 46), none, .seq, [], []⟩,
          ⟨(some 48), .bin .rem (.tmp 45) (.tmp 47), none, .seq, [], []⟩,
          ⟨(some 10), .move (.tmp 48), none, .seq, [], []⟩])
        (.seq (.region [⟨(some 11), .move (.const (.int .i64 0)), none, .seq, [], []⟩])
        (.seq (.seq (.region [⟨(some 49), .move (.tmp 1), none, .seq, [], []⟩,
           ⟨(some 50), .len .sl (.tmp 49), none, .seq, [], []⟩,
           ⟨(some 51), .bin .gtr (.tmp 50) (.const (.int .i64 1)), none, .seq, [], []⟩])
         (.cond (.tmp 51)
          (.region [⟨(some 52), .move (.tmp 1), none, .seq, [], []⟩,
           ⟨(some 53), .move (.tmp 9), none, .seq, [], []⟩,
           ⟨(some 54), .move (.tmp 1), none, .seq, [], []⟩,
           ⟨(some 55), .len .sl (.tmp 54), none, .seq, [], []⟩,
           ⟨(some 56), .bin .sub (.tmp 55) (.const (.int .i64 1)), none, .seq, [], []⟩,
           ⟨(some 57), .bin .rem (.tmp 53) (.tmp 56), none, .seq, [], []⟩,
           ⟨(some 58), .bin .add (.const (.int .i64 1)) (.tmp 57), none, .seq, [], []⟩,
           ⟨(some 59), .indexAddr none 1 (.tmp 52) (.tmp 58), none, .seq, [], []⟩,
           ⟨(some 60), .load none (.tmp 59), none, .seq, [], []⟩,
           ⟨(some 61), .convInt .i64 (.tmp 60), none, .seq, [], []⟩,
           ⟨(some 11), .move (.tmp 61), none, .seq, [], []⟩])
          .skip))
        (.seq (.region [⟨(some 62), .fieldAddr 2 (.tmp 2), none, .still, [], []⟩,
          ⟨(some 63), .load none (.tmp 62), none, .rd, [], []⟩,
          ⟨(some 64), .move (.tmp 10), none, .still, [], []⟩,
          ⟨(some 65), .indexAddr none 3 (.tmp 63) (.tmp 64), none, .still, [], []⟩,
          ⟨(some 66), .fieldAddr 0 (.tmp 65), none, .still, [], []⟩,
          ⟨(some 67), .load none (.tmp 66), none, .rd, [], []⟩,
          ⟨(some 68), .move (.tmp 11), none, .still, [], []⟩,
          ⟨(some 69), .fieldAddr 2 (.tmp 2), none, .still, [], []⟩,
          ⟨(some 70), .load none (.tmp 69), none, .rd, [], []⟩,
          ⟨(some 71), .move (.tmp 10), none, .still, [], []⟩,
          ⟨(some 72), .indexAddr none 3 (.tmp 70) (.tmp 71), none, .still, [], []⟩,
          ⟨(some 73), .fieldAddr 1 (.tmp 72), none, .still, [], []⟩,
          ⟨(some 74), .load none (.tmp 73), none, .rd, [], []⟩,
          ⟨(some 75), .fieldAddr 2 (.tmp 2), none, .still, [], []⟩,
          ⟨(some 76), .load none (.tmp 75), none, .rd, [], []⟩,
          ⟨(some 77), .move (.tmp 10), none, .still, [], []⟩,
          ⟨(some 78), .indexAddr none 3 (.tmp 76) (.tmp 77), none, .still, [], []⟩,
          ⟨(some 79), .fieldAddr 0 (.tmp 78), none, .still, [], []⟩,
          ⟨(some 80), .load none (.tmp 79), none, .rd, [], []⟩,
          ⟨(some 81), .bin .sub (.tmp 74) (.tmp 80), none, .still, [], []⟩,
          ⟨(some 82), .bin .add (.tmp 81) (.const (.int .i64 1)), none, .still, [], []⟩,
          ⟨(some 83), .bin .rem (.tmp 68) (.tmp 82), none, .still, [], []⟩,
          ⟨(some 84), .bin .add (.tmp 67) (.tmp 83), none, .still, [], []⟩,
          ⟨(some 12), .move (.tmp 84), none, .still, [], []⟩])
        (.seq (.region [⟨(some 85), .move (.tmp 12), none, .seq, [], []⟩,
          ⟨(some 13), .move (.tmp 85), none, .seq, [], []⟩])
        (.block 4
         (.loop f41l0))))))))
      (.region [⟨(some 41), .move (.tmp 9), none, .seq, [], []⟩,
       ⟨(some 42), .bin .add (.tmp 41) (.const (.int .i64 1)), none, .seq, [], []⟩,
       ⟨(some 9), .move (.tmp 42), none, .seq, [], []⟩]))))

def f41l2 : ACode :=
  (.keep [1, 2, 5, 6, 7, 8]
      (.seq (.seq (.region [⟨(some 28), .move (.tmp 8), none, .seq, [], []⟩,
         ⟨(some 29), .move (.tmp 5), none, .seq, [], []⟩,
         ⟨(some 30), .len .sl (.tmp 29), none, .seq, [], []⟩,
         ⟨(some 31), .bin .lss (.tmp 28) (.tmp 30), none, .seq, [], []⟩])
       (.cond (.tmp 31)
        .skip
        (.exit 0)))
      (.seq (.block 1
        (.region [⟨(some 34), .move (.tmp 5), none, .seq, [], []⟩,
         ⟨(some 35), .move (.tmp 8), none, .seq, [], []⟩,
         ⟨(some 36), .indexAddr none 1 (.tmp 34) (.tmp 35), none, .seq, [], []⟩,
         ⟨none, .store 1 (.tmp 36) (.const (.int .i64 (-1))), none, .seq, [], []⟩]))
      (.region [⟨(some 32), .move (.tmp 8), none, .seq, [], []⟩,
       ⟨(some 33), .bin .add (.tmp 32) (.const (.int .i64 1)), none, .seq, [], []⟩,
       ⟨(some 8), .move (.tmp 33), none, .seq, [], []⟩]))))

/-- forecourt/forecourtlaw11.Plan -/
def f41 : AFunc := ⟨2, [.tmp 4],
  (.seq (.region [⟨(some 2), .box (.tmp 0), none, .seq, [], []⟩,
    ⟨(some 4), .move (.const (.slice none 0 0)), none, .seq, [], []⟩])
  (.seq (.region [⟨(some 14), .fieldAddr 2 (.tmp 2), none, .seq, [], []⟩,
    ⟨(some 15), .load none (.tmp 14), none, .seq, [], []⟩,
    ⟨(some 16), .len .sl (.tmp 15), none, .seq, [], []⟩,
    ⟨(some 17), .makeSlice 1 8 [(.int .i64 0)] (.tmp 16) (.tmp 16), none, .seq, [], []⟩,
    ⟨(some 5), .move (.tmp 17), none, .seq, [], []⟩])
  (.seq (.region [⟨(some 18), .fieldAddr 0 (.tmp 2), none, .seq, [], []⟩,
    ⟨(some 19), .load none (.tmp 18), none, .seq, [], []⟩,
    ⟨(some 20), .makeSlice 1 8 [(.int .i64 0)] (.tmp 19) (.tmp 19), none, .seq, [], []⟩,
    ⟨(some 6), .move (.tmp 20), none, .seq, [], []⟩])
  (.seq (.region [⟨(some 7), .move (.const (.int .i64 0)), none, .seq, [], []⟩])
  (.seq (.seq (.region [⟨(some 21), .move (.tmp 1), none, .seq, [], []⟩,
     ⟨(some 22), .len .sl (.tmp 21), none, .seq, [], []⟩,
     ⟨(some 23), .bin .gtr (.tmp 22) (.const (.int .i64 0)), none, .seq, [], []⟩])
   (.cond (.tmp 23)
    (.region [⟨(some 24), .move (.tmp 1), none, .seq, [], []⟩,
     ⟨(some 25), .indexAddr none 1 (.tmp 24) (.const (.int .i64 0)), none, .seq, [], []⟩,
     ⟨(some 26), .load none (.tmp 25), none, .seq, [], []⟩,
     ⟨(some 27), .convInt .i64 (.tmp 26), none, .seq, [], []⟩,
     ⟨(some 7), .move (.tmp 27), none, .seq, [], []⟩])
    .skip))
  (.seq (.seq (.region [⟨(some 8), .move (.const (.int .i64 0)), none, .seq, [], []⟩])
   (.block 0
    (.loop f41l2)))
  (.seq (.seq (.region [⟨(some 9), .move (.const (.int .i64 0)), none, .seq, [], []⟩])
   (.block 2
    (.loop f41l1)))
  (.seq (.region [⟨(some 124), .move (.tmp 5), none, .seq, [], []⟩,
    ⟨(some 4), .move (.tmp 124), none, .seq, [], []⟩])
  .ret))))))))⟩

def f42l0 : ACode :=
  (.keep [0, 3, 4]
      (.seq (.seq (.region [⟨(some 5), .move (.tmp 4), none, .seq, [], []⟩,
         ⟨(some 6), .move (.tmp 0), none, .seq, [], []⟩,
         ⟨(some 7), .len .sl (.tmp 6), none, .seq, [], []⟩,
         ⟨(some 8), .bin .lss (.tmp 5) (.tmp 7), none, .seq, [], []⟩])
       (.cond (.tmp 8)
        .skip
        (.exit 0)))
      (.seq (.block 1
        (.seq (.region [⟨(some 11), .move (.tmp 0), none, .seq, [], []⟩,
          ⟨(some 12), .move (.tmp 4), none, .seq, [], []⟩,
          ⟨(some 13), .indexAddr none 1 (.tmp 11) (.tmp 12), none, .seq, [], []⟩,
          ⟨(some 14), .load none (.tmp 13), none, .seq, [], []⟩,
          ⟨(some 15), .bin .geq (.tmp 14) (.const (.int .i64 0)), none, .seq, [], []⟩])
        (.cond (.tmp 15)
         (.region [⟨(some 16), .move (.tmp 3), none, .seq, [], []⟩,
          ⟨(some 17), .move (.tmp 4), none, .seq, [], []⟩,
          ⟨(some 18), .buildSlice 1 [(.int .i64 0)] 1 [(0, (.tmp 17))], none, .seq, [], []⟩,
          ⟨(some 19), .append 1 8 (.tmp 16) (.tmp 18), none, .seq, [], []⟩,
          ⟨(some 3), .move (.tmp 19), none, .seq, [], []⟩])
         .skip)))
      (.region [⟨(some 9), .move (.tmp 4), none, .seq, [], []⟩,
       ⟨(some 10), .bin .add (.tmp 9) (.const (.int .i64 1)), none, .seq, [], []⟩,
       ⟨(some 4), .move (.tmp 10), none, .seq, [], []⟩]))))

/-- forecourt/forecourtlaw11.charged -/
def f42 : AFunc := ⟨1, [.tmp 2],
  (.seq (.region [⟨(some 2), .move (.const (.slice none 0 0)), none, .seq, [], []⟩])
  (.seq (.region [⟨(some 3), .move (.const (.slice none 0 0)), none, .seq, [], []⟩])
  (.seq (.seq (.region [⟨(some 4), .move (.const (.int .i64 0)), none, .seq, [], []⟩])
   (.block 0
    (.loop f42l0)))
  (.seq (.region [⟨(some 20), .move (.tmp 3), none, .seq, [], []⟩,
    ⟨(some 2), .move (.tmp 20), none, .seq, [], []⟩])
  .ret))))⟩

/-- forecourt/forecourtlaw11.Car -/
def f43 : AFunc := ⟨3, [.cell 6 (some 3)],
  (.seq (.region [⟨(some 6), .alloc [(.int .i64 0), (.int .i64 0), (.int .i64 0)], none, .seq, [], []⟩])
  (.seq (.region [⟨(some 7), .move (.tmp 0), none, .seq, [], []⟩,
    ⟨(some 8), .move (.tmp 1), none, .seq, [], []⟩,
    ⟨(some 9), .move (.tmp 2), none, .seq, [], []⟩,
    ⟨(some 10), .build [(.int .i64 0), (.int .i64 0), (.int .i64 0)] (.list [(0, 1), (1, 1), (2, 1)]) [(0, (.tmp 7)), (1, (.tmp 8)), (2, (.tmp 9))], none, .seq, [], []⟩,
    ⟨none, .store 3 (.tmp 6) (.tmp 10), none, .seq, [], []⟩])
  .ret))⟩

def f44l0 : ACode :=
  (.keep [0, 1, 2, 7, 9, 10, 18]
           (.seq (.seq (.region [⟨(some 132), .move (.tmp 18), none, .seq, [], []⟩,
              ⟨(some 133), .move (.tmp 0), none, .seq, [], []⟩,
              ⟨(some 134), .len .sl (.tmp 133), none, .seq, [], []⟩,
              ⟨(some 135), .bin .lss (.tmp 132) (.tmp 134), none, .seq, [], []⟩])
            (.cond (.tmp 135)
             .skip
             (.exit 10)))
           (.seq (.block 11
             (.seq (.region [⟨(some 138), .move (.tmp 0), none, .seq, [], []⟩,
               ⟨(some 139), .move (.tmp 18), none, .seq, [], []⟩,
               ⟨(some 140), .indexAddr none 2 (.tmp 138) (.tmp 139), none, .seq, [], []⟩,
               ⟨(some 141), .fieldAddr 0 (.tmp 140), none, .seq, [], []⟩,
               ⟨(some 142), .load none (.tmp 141), none, .seq, [], []⟩,
               ⟨(some 143), .move (.tmp 10), none, .seq, [], []⟩,
               ⟨(some 144), .bin .eql (.tmp 142) (.tmp 143), none, .seq, [], []⟩])
             (.cond (.tmp 144)
              (.seq (.region [⟨(some 145), .move (.tmp 9), none, .seq, [], []⟩,
                ⟨(some 146), .move (.tmp 7), none, .seq, [], []⟩,
                ⟨(some 147), .move (.tmp 18), none, .seq, [], []⟩,
                ⟨(some 148), .indexAddr none 1 (.tmp 146) (.tmp 147), none, .seq, [], []⟩,
                ⟨(some 149), .load none (.tmp 148), none, .seq, [], []⟩,
                ⟨(some 150), .bin .add (.tmp 145) (.tmp 149), none, .seq, [], []⟩,
                ⟨(some 9), .move (.tmp 150), none, .seq, [], []⟩])
              (.region [⟨(some 151), .move (.tmp 7), none, .seq, [], []⟩,
               ⟨(some 152), .move (.tmp 18), none, .seq, [], []⟩,
               ⟨(some 153), .indexAddr none 1 (.tmp 151) (.tmp 152), none, .seq, [], []⟩,
               ⟨none, .store 1 (.tmp 153) (.const (.int .i64 0)), none, .seq, [], []⟩]))
              .skip)))
           (.region [⟨(some 136), .move (.tmp 18), none, .seq, [], []⟩,
            ⟨(some 137), .bin .add (.tmp 136) (.const (.int .i64 1)), none, .seq, [], []⟩,
            ⟨(some 18), .move (.tmp 137), none, .seq, [], []⟩]))))

def f44l1 : ACode :=
  (.keep [0, 1, 2, 7, 9, 10, 11, 15]
            (.seq (.seq (.region [⟨(some 85), .move (.tmp 15), none, .seq, [], []⟩,
               ⟨(some 86), .move (.tmp 0), none, .seq, [], []⟩,
               ⟨(some 87), .len .sl (.tmp 86), none, .seq, [], []⟩,
               ⟨(some 88), .bin .lss (.tmp 85) (.tmp 87), none, .seq, [], []⟩,
               ⟨(some 89), .move (.tmp 88), none, .seq, [], []⟩,
               ⟨(some 90), .move (.tmp 2), some (89, true), .seq, [], []⟩,
               ⟨(some 91), .len .sl (.tmp 90), some (89, true), .seq, [], []⟩,
               ⟨(some 92), .bin .gtr (.tmp 91) (.const (.int .i64 0)), some (89, true), .seq, [], []⟩,
               ⟨(some 93), .pick (.tmp 89) (.tmp 92) (.const (.bool false)), none, .seq, [], []⟩])
             (.cond (.tmp 93)
              .skip
              (.exit 8)))
            (.seq (.block 9
              (.seq (.region [⟨(some 96), .move (.tmp 15), none, .seq, [], []⟩,
                ⟨(some 97), .move (.tmp 2), none, .seq, [], []⟩,
                ⟨(some 98), .move (.tmp 10), none, .seq, [], []⟩,
                ⟨(some 99), .move (.tmp 2), none, .seq, [], []⟩,
                ⟨(some 100), .len .sl (.tmp 99), none, .seq, [], []⟩,
                ⟨(some 101), .bin .rem (.tmp 98) (.tmp 100), none, .seq, [], []⟩,
                ⟨(some 102), .indexAddr none 1 (.tmp 97) (.tmp 101), none, .seq, [], []⟩,
                ⟨(some 103), .load none (.tmp 102), none, .seq, [], []⟩,
                ⟨(some 104), .convInt .i64 (.tmp 103), none, .seq, [], []⟩,
                ⟨(some 105), .bin .add (.tmp 96) (.tmp 104), none, .seq, [], []⟩,
                ⟨(some 106), .move (.tmp 0), none, .seq, [], []⟩,
                ⟨(some 107), .len .sl (.tmp 106), none, .seq, [], []⟩,
                ⟨(some 108), .bin .rem (.tmp 105) (.tmp 107), none, .seq, [], []⟩,
                ⟨(some 16), .move (.tmp 108), none, .seq, [], []⟩])
              (.seq (.region [⟨(some 109), .move (.tmp 0), none, .seq, [], []⟩,
                ⟨(some 110), .move (.tmp 16), none, .seq, [], []⟩,
                ⟨(some 111), .indexAddr none 2 (.tmp 109) (.tmp 110), none, .seq, [], []⟩,
                ⟨(some 112), .fieldAddr 0 (.tmp 111), none, .seq, [], []⟩,
                ⟨(some 113), .load none (.tmp 112), none, .seq, [], []⟩,
                ⟨(some 114), .move (.tmp 10), none, .seq, [], []⟩,
                ⟨(some 115), .bin .geq (.tmp 113) (.tmp 114), none, .seq, [], []⟩])
              (.cond (.tmp 115)
               (.seq (.region [⟨(some 116), .move (.tmp 11), none, .seq, [], []⟩,
                 ⟨(some 117), .move (.tmp 7), none, .seq, [], []⟩,
                 ⟨(some 118), .move (.tmp 16), none, .seq, [], []⟩,
                 ⟨(some 119), .indexAddr none 1 (.tmp 117) (.tmp 118), none, .seq, [], []⟩,
                 ⟨(some 120), .load none (.tmp 119), none, .seq, [], []⟩,
                 ⟨(some 121), .minmax false [(.tmp 116), (.tmp 120)], none, .seq, [], []⟩,
                 ⟨(some 17), .move (.tmp 121), none, .seq, [], []⟩])
               (.seq (.region [⟨(some 122), .move (.tmp 7), none, .seq, [], []⟩,
                 ⟨(some 123), .move (.tmp 16), none, .seq, [], []⟩,
                 ⟨(some 124), .indexAddr none 1 (.tmp 122) (.tmp 123), none, .seq, [], []⟩,
                 ⟨(some 125), .load none (.tmp 124), none, .seq, [], []⟩,
                 ⟨(some 126), .move (.tmp 17), none, .seq, [], []⟩,
                 ⟨(some 127), .bin .sub (.tmp 125) (.tmp 126), none, .seq, [], []⟩,
                 ⟨(some 128), .indexAddr none 1 (.tmp 122) (.tmp 123), none, .seq, [], []⟩,
                 ⟨none, .store 1 (.tmp 128) (.tmp 127), none, .seq, [], []⟩])
               (.region [⟨(some 129), .move (.tmp 11), none, .seq, [], []⟩,
                ⟨(some 130), .move (.tmp 17), none, .seq, [], []⟩,
                ⟨(some 131), .bin .sub (.tmp 129) (.tmp 130), none, .seq, [], []⟩,
                ⟨(some 11), .move (.tmp 131), none, .seq, [], []⟩])))
               .skip))))
            (.region [⟨(some 94), .move (.tmp 15), none, .seq, [], []⟩,
             ⟨(some 95), .bin .add (.tmp 94) (.const (.int .i64 1)), none, .seq, [], []⟩,
             ⟨(some 15), .move (.tmp 95), none, .seq, [], []⟩]))))

def f44l2 : ACode :=
  (.keep [0, 1, 2, 7, 9, 10, 11, 12, 13]
                 (.seq (.seq (.region [⟨(some 56), .move (.tmp 13), none, .seq, [], []⟩,
                    ⟨(some 57), .move (.tmp 0), none, .seq, [], []⟩,
                    ⟨(some 58), .len .sl (.tmp 57), none, .seq, [], []⟩,
                    ⟨(some 59), .bin .lss (.tmp 56) (.tmp 58), none, .seq, [], []⟩])
                  (.cond (.tmp 59)
                   .skip
                   (.exit 6)))
                 (.seq (.block 7
                   (.seq (.region [⟨(some 62), .move (.tmp 0), none, .seq, [], []⟩,
                     ⟨(some 63), .move (.tmp 13), none, .seq, [], []⟩,
                     ⟨(some 64), .indexAddr none 2 (.tmp 62) (.tmp 63), none, .seq, [], []⟩,
                     ⟨(some 65), .fieldAddr 0 (.tmp 64), none, .seq, [], []⟩,
                     ⟨(some 66), .load none (.tmp 65), none, .seq, [], []⟩,
                     ⟨(some 67), .move (.tmp 12), none, .seq, [], []⟩,
                     ⟨(some 68), .bin .eql (.tmp 66) (.tmp 67), none, .seq, [], []⟩])
                   (.cond (.tmp 68)
                    (.seq (.region [⟨(some 69), .move (.tmp 11), none, .seq, [], []⟩,
                      ⟨(some 70), .move (.tmp 7), none, .seq, [], []⟩,
                      ⟨(some 71), .move (.tmp 13), none, .seq, [], []⟩,
                      ⟨(some 72), .indexAddr none 1 (.tmp 70) (.tmp 71), none, .seq, [], []⟩,
                      ⟨(some 73), .load none (.tmp 72), none, .seq, [], []⟩,
                      ⟨(some 74), .minmax false [(.tmp 69), (.tmp 73)], none, .seq, [], []⟩,
                      ⟨(some 14), .move (.tmp 74), none, .seq, [], []⟩])
                    (.seq (.region [⟨(some 75), .move (.tmp 7), none, .seq, [], []⟩,
                      ⟨(some 76), .move (.tmp 13), none, .seq, [], []⟩,
                      ⟨(some 77), .indexAddr none 1 (.tmp 75) (.tmp 76), none, .seq, [], []⟩,
                      ⟨(some 78), .load none (.tmp 77), none, .seq, [], []⟩,
                      ⟨(some 79), .move (.tmp 14), none, .seq, [], []⟩,
                      ⟨(some 80), .bin .sub (.tmp 78) (.tmp 79), none, .seq, [], []⟩,
                      ⟨(some 81), .indexAddr none 1 (.tmp 75) (.tmp 76), none, .seq, [], []⟩,
                      ⟨none, .store 1 (.tmp 81) (.tmp 80), none, .seq, [], []⟩])
                    (.region [⟨(some 82), .move (.tmp 11), none, .seq, [], []⟩,
                     ⟨(some 83), .move (.tmp 14), none, .seq, [], []⟩,
                     ⟨(some 84), .bin .sub (.tmp 82) (.tmp 83), none, .seq, [], []⟩,
                     ⟨(some 11), .move (.tmp 84), none, .seq, [], []⟩])))
                    .skip)))
                 (.region [⟨(some 60), .move (.tmp 13), none, .seq, [], []⟩,
                  ⟨(some 61), .bin .add (.tmp 60) (.const (.int .i64 1)), none, .seq, [], []⟩,
                  ⟨(some 13), .move (.tmp 61), none, .seq, [], []⟩]))))

def f44l3 : ACode :=
  (.keep [0, 1, 2, 7, 9, 10, 11, 12]
            (.seq (.seq (.region [⟨(some 47), .move (.tmp 12), none, .seq, [], []⟩,
               ⟨(some 48), .bin .lss (.tmp 47) (.const (.int .i64 31)), none, .seq, [], []⟩,
               ⟨(some 49), .move (.tmp 48), none, .seq, [], []⟩,
               ⟨(some 50), .move (.tmp 2), some (49, true), .seq, [], []⟩,
               ⟨(some 51), .len .sl (.tmp 50), some (49, true), .seq, [], []⟩,
               ⟨(some 52), .bin .eql (.tmp 51) (.const (.int .i64 0)), some (49, true), .seq, [], []⟩,
               ⟨(some 53), .pick (.tmp 49) (.tmp 52) (.const (.bool false)), none, .seq, [], []⟩])
             (.cond (.tmp 53)
              .skip
              (.exit 4)))
            (.seq (.block 5
              (.seq (.region [⟨(some 13), .move (.const (.int .i64 0)), none, .seq, [], []⟩])
              (.block 6
               (.loop f44l2))))
            (.region [⟨(some 54), .move (.tmp 12), none, .seq, [], []⟩,
             ⟨(some 55), .bin .add (.tmp 54) (.const (.int .i64 1)), none, .seq, [], []⟩,
             ⟨(some 12), .move (.tmp 55), none, .seq, [], []⟩]))))

def f44l4 : ACode :=
  (.keep [0, 1, 2, 7, 9, 10]
      (.seq (.seq (.region [⟨(some 36), .move (.tmp 10), none, .seq, [], []⟩,
         ⟨(some 37), .move (.tmp 1), none, .seq, [], []⟩,
         ⟨(some 38), .len .sl (.tmp 37), none, .seq, [], []⟩,
         ⟨(some 39), .bin .lss (.tmp 36) (.tmp 38), none, .seq, [], []⟩])
       (.cond (.tmp 39)
        .skip
        (.exit 2)))
      (.seq (.block 3
        (.seq (.region [⟨(some 42), .move (.tmp 1), none, .seq, [], []⟩,
          ⟨(some 43), .move (.tmp 10), none, .seq, [], []⟩,
          ⟨(some 44), .indexAddr none 1 (.tmp 42) (.tmp 43), none, .seq, [], []⟩,
          ⟨(some 45), .load none (.tmp 44), none, .seq, [], []⟩,
          ⟨(some 11), .move (.tmp 45), none, .seq, [], []⟩])
        (.seq (.seq (.region [⟨(some 46), .move (.tmp 10), none, .seq, [], []⟩,
           ⟨(some 12), .move (.tmp 46), none, .seq, [], []⟩])
         (.block 4
          (.loop f44l3)))
        (.seq (.seq (.region [⟨(some 15), .move (.const (.int .i64 0)), none, .seq, [], []⟩])
         (.block 8
          (.loop f44l1)))
        (.seq (.region [⟨(some 18), .move (.const (.int .i64 0)), none, .seq, [], []⟩])
        (.block 10
         (.loop f44l0)))))))
      (.region [⟨(some 40), .move (.tmp 10), none, .seq, [], []⟩,
       ⟨(some 41), .bin .add (.tmp 40) (.const (.int .i64 1)), none, .seq, [], []⟩,
       ⟨(some 10), .move (.tmp 41), none, .seq, [], []⟩]))))

def f44l5 : ACode :=
  (.keep [0, 1, 2, 7, 8]
      (.seq (.seq (.region [⟨(some 22), .move (.tmp 8), none, .seq, [], []⟩,
         ⟨(some 23), .move (.tmp 0), none, .seq, [], []⟩,
         ⟨(some 24), .len .sl (.tmp 23), none, .seq, [], []⟩,
         ⟨(some 25), .bin .lss (.tmp 22) (.tmp 24), none, .seq, [], []⟩])
       (.cond (.tmp 25)
        .skip
        (.exit 0)))
      (.seq (.block 1
        (.region [⟨(some 28), .move (.tmp 7), none, .seq, [], []⟩,
         ⟨(some 29), .move (.tmp 8), none, .seq, [], []⟩,
         ⟨(some 30), .move (.tmp 0), none, .seq, [], []⟩,
         ⟨(some 31), .move (.tmp 8), none, .seq, [], []⟩,
         ⟨(some 32), .indexAddr none 2 (.tmp 30) (.tmp 31), none, .seq, [], []⟩,
         ⟨(some 33), .fieldAddr 1 (.tmp 32), none, .seq, [], []⟩,
         ⟨(some 34), .load none (.tmp 33), none, .seq, [], []⟩,
         ⟨(some 35), .indexAddr none 1 (.tmp 28) (.tmp 29), none, .seq, [], []⟩,
         ⟨none, .store 1 (.tmp 35) (.tmp 34), none, .seq, [], []⟩]))
      (.region [⟨(some 26), .move (.tmp 8), none, .seq, [], []⟩,
       ⟨(some 27), .bin .add (.tmp 26) (.const (.int .i64 1)), none, .seq, [], []⟩,
       ⟨(some 8), .move (.tmp 27), none, .seq, [], []⟩]))))

/-- forecourt/forecourtlaw11.thrown -/
def f44 : AFunc := ⟨3, [.tmp 6],
  (.seq (.region [⟨(some 6), .move (.const (.int .i64 0)), none, .seq, [], []⟩])
  (.seq (.region [⟨(some 19), .move (.tmp 0), none, .seq, [], []⟩,
    ⟨(some 20), .len .sl (.tmp 19), none, .seq, [], []⟩,
    ⟨(some 21), .makeSlice 1 8 [(.int .i64 0)] (.tmp 20) (.tmp 20), none, .seq, [], []⟩,
    ⟨(some 7), .move (.tmp 21), none, .seq, [], []⟩])
  (.seq (.seq (.region [⟨(some 8), .move (.const (.int .i64 0)), none, .seq, [], []⟩])
   (.block 0
    (.loop f44l5)))
  (.seq (.region [⟨(some 9), .move (.const (.int .i64 0)), none, .seq, [], []⟩])
  (.seq (.seq (.region [⟨(some 10), .move (.const (.int .i64 0)), none, .seq, [], []⟩])
   (.block 2
    (.loop f44l4)))
  (.seq (.region [⟨(some 154), .move (.tmp 9), none, .seq, [], []⟩,
    ⟨(some 6), .move (.tmp 154), none, .seq, [], []⟩])
  .ret))))))⟩

/-- forecourt/forecourtref11.IsDate -/
def f45 : AFunc := ⟨1, [.tmp 2],
  (.seq (.region [⟨(some 1), .box (.tmp 0), none, .seq, [], []⟩,
    ⟨(some 2), .move (.const (.bool false)), none, .seq, [], []⟩])
  (.seq (.region [⟨(some 3), .fieldAddr 0 (.tmp 1), none, .still, [], []⟩,
    ⟨(some 4), .load none (.tmp 3), none, .seq, [], []⟩,
    ⟨(some 5), .bin .geq (.tmp 4) (.const (.int .i64 1)), none, .still, [], []⟩,
    ⟨(some 6), .move (.tmp 5), none, .still, [], []⟩,
    ⟨(some 7), .fieldAddr 0 (.tmp 1), some (6, true), .still, [], []⟩,
    ⟨(some 8), .load none (.tmp 7), some (6, true), .seq, [], []⟩,
    ⟨(some 9), .bin .leq (.tmp 8) (.const (.int .i64 9999)), some (6, true), .still, [], []⟩,
    ⟨(some 10), .pick (.tmp 6) (.tmp 9) (.const (.bool false)), none, .still, [], []⟩,
    ⟨(some 11), .move (.tmp 10), none, .still, [], []⟩,
    ⟨(some 12), .fieldAddr 1 (.tmp 1), some (11, true), .still, [], []⟩,
    ⟨(some 13), .load none (.tmp 12), some (11, true), .seq, [], []⟩,
    ⟨(some 14), .bin .geq (.tmp 13) (.const (.int .i64 1)), some (11, true), .still, [], []⟩,
    ⟨(some 15), .pick (.tmp 11) (.tmp 14) (.const (.bool false)), none, .still, [], []⟩,
    ⟨(some 16), .move (.tmp 15), none, .still, [], []⟩,
    ⟨(some 17), .fieldAddr 1 (.tmp 1), some (16, true), .still, [], []⟩,
    ⟨(some 18), .load none (.tmp 17), some (16, true), .seq, [], []⟩,
    ⟨(some 19), .bin .leq (.tmp 18) (.const (.int .i64 12)), some (16, true), .still, [], []⟩,
    ⟨(some 20), .pick (.tmp 16) (.tmp 19) (.const (.bool false)), none, .still, [], []⟩,
    ⟨(some 21), .move (.tmp 20), none, .still, [], []⟩,
    ⟨(some 22), .fieldAddr 2 (.tmp 1), some (21, true), .still, [], []⟩,
    ⟨(some 23), .load none (.tmp 22), some (21, true), .seq, [], []⟩,
    ⟨(some 24), .bin .geq (.tmp 23) (.const (.int .i64 1)), some (21, true), .still, [], []⟩,
    ⟨(some 25), .pick (.tmp 21) (.tmp 24) (.const (.bool false)), none, .still, [], []⟩,
    ⟨(some 26), .move (.tmp 25), none, .still, [], []⟩,
    ⟨(some 27), .fieldAddr 2 (.tmp 1), some (26, true), .still, [], []⟩,
    ⟨(some 28), .load none (.tmp 27), some (26, true), .rd, [], []⟩,
    ⟨(some 29), .fieldAddr 0 (.tmp 1), some (26, true), .still, [], []⟩,
    ⟨(some 30), .load none (.tmp 29), some (26, true), .rd, [], []⟩,
    ⟨(some 31), .fieldAddr 1 (.tmp 1), some (26, true), .still, [], []⟩,
    ⟨(some 32), .load none (.tmp 31), some (26, true), .rd, [], []⟩,
    ⟨(some 33), .call 47 [(.tmp 30), (.tmp 32)], some (26, true), .ro, [], []⟩,
    ⟨(some 34), .bin .leq (.tmp 28) (.tmp 33), some (26, true), .still, [], []⟩,
    ⟨(some 35), .pick (.tmp 26) (.tmp 34) (.const (.bool false)), none, .still, [], []⟩,
    ⟨(some 2), .move (.tmp 35), none, .still, [], []⟩])
  .ret))⟩

/-- forecourt/forecourtlaw11.next -/
def f46 : AFunc := ⟨1, [.cell 2 (some 3)],
  (.seq (.region [⟨(some 1), .box (.tmp 0), none, .seq, [], []⟩,
    ⟨(some 2), .alloc [(.int .i64 0), (.int .i64 0), (.int .i64 0)], none, .seq, [], []⟩])
  (.seq (.seq (.region [⟨(some 3), .fieldAddr 2 (.tmp 1), none, .still, [], []⟩,
     ⟨(some 4), .load none (.tmp 3), none, .rd, [], []⟩,
     ⟨(some 5), .fieldAddr 0 (.tmp 1), none, .still, [], []⟩,
     ⟨(some 6), .load none (.tmp 5), none, .rd, [], []⟩,
     ⟨(some 7), .fieldAddr 1 (.tmp 1), none, .still, [], []⟩,
     ⟨(some 8), .load none (.tmp 7), none, .rd, [], []⟩,
     ⟨(some 9), .call 47 [(.tmp 6), (.tmp 8)], none, .ro, [], []⟩,
     ⟨(some 10), .bin .lss (.tmp 4) (.tmp 9), none, .still, [], []⟩])
   (.cond (.tmp 10)
    (.seq (.region [⟨(some 11), .fieldAddr 0 (.tmp 1), none, .seq, [], []⟩,
      ⟨(some 12), .load none (.tmp 11), none, .seq, [], []⟩,
      ⟨(some 13), .fieldAddr 1 (.tmp 1), none, .seq, [], []⟩,
      ⟨(some 14), .load none (.tmp 13), none, .seq, [], []⟩,
      ⟨(some 15), .fieldAddr 2 (.tmp 1), none, .seq, [], []⟩,
      ⟨(some 16), .load none (.tmp 15), none, .seq, [], []⟩,
      ⟨(some 17), .bin .add (.tmp 16) (.const (.int .i64 1)), none, .seq, [], []⟩,
      ⟨(some 18), .call 50 [(.tmp 12), (.tmp 14), (.tmp 17)], none, .seq, [], []⟩,
      ⟨none, .store 3 (.tmp 2) (.tmp 18), none, .seq, [], []⟩])
    .ret)
    .skip))
  (.seq (.seq (.region [⟨(some 19), .fieldAddr 1 (.tmp 1), none, .seq, [], []⟩,
     ⟨(some 20), .load none (.tmp 19), none, .seq, [], []⟩,
     ⟨(some 21), .bin .lss (.tmp 20) (.const (.int .i64 12)), none, .seq, [], []⟩])
   (.cond (.tmp 21)
    (.seq (.region [⟨(some 22), .fieldAddr 0 (.tmp 1), none, .seq, [], []⟩,
      ⟨(some 23), .load none (.tmp 22), none, .seq, [], []⟩,
      ⟨(some 24), .fieldAddr 1 (.tmp 1), none, .seq, [], []⟩,
      ⟨(some 25), .load none (.tmp 24), none, .seq, [], []⟩,
      ⟨(some 26), .bin .add (.tmp 25) (.const (.int .i64 1)), none, .seq, [], []⟩,
      ⟨(some 27), .call 50 [(.tmp 23), (.tmp 26), (.const (.int .i64 1))], none, .seq, [], []⟩,
      ⟨none, .store 3 (.tmp 2) (.tmp 27), none, .seq, [], []⟩])
    .ret)
    .skip))
  (.seq (.region [⟨(some 28), .fieldAddr 0 (.tmp 1), none, .seq, [], []⟩,
    ⟨(some 29), .load none (.tmp 28), none, .seq, [], []⟩,
    ⟨(some 30), .bin .add (.tmp 29) (.const (.int .i64 1)), none, .seq, [], []⟩,
    ⟨(some 31), .call 50 [(.tmp 30), (.const (.int .i64 1)), (.const (.int .i64 1))], none, .seq, [], []⟩,
    ⟨none, .store 3 (.tmp 2) (.tmp 31), none, .seq, [], []⟩])
  .ret))))⟩

end Go.Proofs.Ytbhgncfbljkdgaa.Fn
