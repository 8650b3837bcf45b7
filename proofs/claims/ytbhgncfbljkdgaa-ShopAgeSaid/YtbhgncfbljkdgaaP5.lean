/-
  The abstract code of the functions that the laws reach, part 5. Printed by a program (Emit.lean).
-/
import Derived.Test.YtbhgncfbljkdgaaA1
namespace Go.Proofs.Ytbhgncfbljkdgaa.Fn
open Go Go.Proofs.Ytbhgncfbljkdgaa.AI

/-- math/bits.Len64 -/
def f116 : AFunc := ⟨1, [.tmp 2],
  (.seq (.region [⟨(some 2), .move (.const (.int .i64 0)), none, .seq, [], []⟩])
  (.seq (.seq (.region [⟨(some 3), .move (.tmp 0), none, .seq, [], []⟩,
     ⟨(some 4), .bin .geq (.tmp 3) (.const (.int .u64 4294967296)), none, .seq, [], []⟩])
   (.cond (.tmp 4)
    (.seq (.region [⟨(some 5), .move (.tmp 0), none, .seq, [], []⟩,
      ⟨(some 6), .bin .shr (.tmp 5) (.const (.int .u64 32)), none, .seq, [], []⟩,
      ⟨(some 0), .move (.tmp 6), none, .seq, [], []⟩])
    (.region [⟨(some 2), .move (.const (.int .i64 32)), none, .seq, [], []⟩]))
    .skip))
  (.seq (.seq (.region [⟨(some 7), .move (.tmp 0), none, .seq, [], []⟩,
     ⟨(some 8), .bin .geq (.tmp 7) (.const (.int .u64 65536)), none, .seq, [], []⟩])
   (.cond (.tmp 8)
    (.seq (.region [⟨(some 9), .move (.tmp 0), none, .seq, [], []⟩,
      ⟨(some 10), .bin .shr (.tmp 9) (.const (.int .u64 16)), none, .seq, [], []⟩,
      ⟨(some 0), .move (.tmp 10), none, .seq, [], []⟩])
    (.region [⟨(some 11), .move (.tmp 2), none, .seq, [], []⟩,
     ⟨(some 12), .bin .add (.tmp 11) (.const (.int .i64 16)), none, .seq, [], []⟩,
     ⟨(some 2), .move (.tmp 12), none, .seq, [], []⟩]))
    .skip))
  (.seq (.seq (.region [⟨(some 13), .move (.tmp 0), none, .seq, [], []⟩,
     ⟨(some 14), .bin .geq (.tmp 13) (.const (.int .u64 256)), none, .seq, [], []⟩])
   (.cond (.tmp 14)
    (.seq (.region [⟨(some 15), .move (.tmp 0), none, .seq, [], []⟩,
      ⟨(some 16), .bin .shr (.tmp 15) (.const (.int .u64 8)), none, .seq, [], []⟩,
      ⟨(some 0), .move (.tmp 16), none, .seq, [], []⟩])
    (.region [⟨(some 17), .move (.tmp 2), none, .seq, [], []⟩,
     ⟨(some 18), .bin .add (.tmp 17) (.const (.int .i64 8)), none, .seq, [], []⟩,
     ⟨(some 2), .move (.tmp 18), none, .seq, [], []⟩]))
    .skip))
  (.seq (.region [⟨(some 19), .move (.tmp 2), none, .seq, [], []⟩,
    ⟨(some 20), .move (.tmp 0), none, .seq, [], []⟩,
    ⟨(some 21), .convInt .u8 (.tmp 20), none, .seq, [], []⟩,
    ⟨(some 22), .indexStr (.const (.string ⟨#[0, 1, 2, 2, 3, 3, 3, 3, 4, 4, 4, 4, 4, 4, 4, 4, 5, 5, 5, 5, 5, 5, 5, 5, 5, 5, 5, 5, 5, 5, 5, 5, 6, 6, 6, 6, 6, 6, 6, 6, 6, 6, 6, 6, 6, 6, 6, 6, 6, 6, 6, 6, 6, 6, 6, 6, 6, 6, 6, 6, 6, 6, 6, 6, 7, 7, 7, 7, 7, 7, 7, 7, 7, 7, 7, 7, 7, 7, 7, 7, 7, 7, 7, 7, 7, 7, 7, 7, 7, 7, 7, 7, 7, 7, 7, 7, 7, 7, 7, 7, 7, 7, 7, 7, 7, 7, 7, 7, 7, 7, 7, 7, 7, 7, 7, 7, 7, 7, 7, 7, 7, 7, 7, 7, 7, 7, 7, 7, 8, 8, 8, 8, 8, 8, 8, 8, 8, 8, 8, 8, 8, 8, 8, 8, 8, 8, 8, 8, 8, 8, 8, 8, 8, 8, 8, 8, 8, 8, 8, 8, 8, 8, 8, 8, 8, 8, 8, 8, 8, 8, 8, 8, 8, 8, 8, 8, 8, 8, 8, 8, 8, 8, 8, 8, 8, 8, 8, 8, 8, 8, 8, 8, 8, 8, 8, 8, 8, 8, 8, 8, 8, 8, 8, 8, 8, 8, 8, 8, 8, 8, 8, 8, 8, 8, 8, 8, 8, 8, 8, 8, 8, 8, 8, 8, 8, 8, 8, 8, 8, 8, 8, 8, 8, 8, 8, 8, 8, 8, 8, 8, 8, 8, 8, 8, 8, 8, 8, 8, 8, 8, 8, 8, 8, 8, 8, 8]⟩)) (.tmp 21), none, .seq, [], []⟩,
    ⟨(some 23), .convInt .i64 (.tmp 22), none, .seq, [], []⟩,
    ⟨(some 24), .bin .add (.tmp 19) (.tmp 23), none, .seq, [], []⟩,
    ⟨(some 2), .move (.tmp 24), none, .seq, [], []⟩])
  .ret)))))⟩

def f117l0 : ACode :=
  (.keep [0, 2, 4, 10, 11]
      (.seq (.seq (.region [⟨(some 18), .move (.tmp 10), none, .seq, [], []⟩,
         ⟨(some 19), .move (.tmp 11), none, .seq, [], []⟩,
         ⟨(some 20), .bin .neq (.tmp 18) (.tmp 19), none, .seq, [], []⟩])
       (.cond (.tmp 20)
        .skip
        (.exit 0)))
      (.block 1
       (.seq (.region [⟨(some 21), .move (.tmp 10), none, .seq, [], []⟩,
         ⟨(some 22), .move (.tmp 11), none, .seq, [], []⟩,
         ⟨(some 23), .bin .gtr (.tmp 21) (.tmp 22), none, .seq, [], []⟩])
       (.cond (.tmp 23)
        (.seq (.region [⟨(some 24), .move (.tmp 0), none, .seq, [], []⟩,
          ⟨(some 25), .move (.tmp 2), none, .seq, [], []⟩,
          ⟨(some 26), .move (.tmp 10), none, .seq, [], []⟩,
          ⟨(some 27), .bin .sub (.tmp 25) (.tmp 26), none, .seq, [], []⟩,
          ⟨(some 28), .move (.tmp 2), none, .seq, [], []⟩,
          ⟨(some 29), .move (.tmp 11), none, .seq, [], []⟩,
          ⟨(some 30), .move (.tmp 4), none, .seq, [], []⟩,
          ⟨(some 31), .call 123 [(.tmp 24), (.tmp 27), (.tmp 28), (.tmp 29), (.tmp 30)], none, .seq, [], []⟩])
        (.region [⟨(some 32), .move (.tmp 10), none, .seq, [], []⟩,
         ⟨(some 33), .move (.tmp 11), none, .seq, [], []⟩,
         ⟨(some 34), .bin .sub (.tmp 32) (.tmp 33), none, .seq, [], []⟩,
         ⟨(some 10), .move (.tmp 34), none, .seq, [], []⟩]))
        (.seq (.region [⟨(some 35), .move (.tmp 0), none, .seq, [], []⟩,
          ⟨(some 36), .move (.tmp 2), none, .seq, [], []⟩,
          ⟨(some 37), .move (.tmp 10), none, .seq, [], []⟩,
          ⟨(some 38), .bin .sub (.tmp 36) (.tmp 37), none, .seq, [], []⟩,
          ⟨(some 39), .move (.tmp 2), none, .seq, [], []⟩,
          ⟨(some 40), .move (.tmp 11), none, .seq, [], []⟩,
          ⟨(some 41), .bin .add (.tmp 39) (.tmp 40), none, .seq, [], []⟩,
          ⟨(some 42), .move (.tmp 10), none, .seq, [], []⟩,
          ⟨(some 43), .bin .sub (.tmp 41) (.tmp 42), none, .seq, [], []⟩,
          ⟨(some 44), .move (.tmp 10), none, .seq, [], []⟩,
          ⟨(some 45), .move (.tmp 4), none, .seq, [], []⟩,
          ⟨(some 46), .call 123 [(.tmp 35), (.tmp 38), (.tmp 43), (.tmp 44), (.tmp 45)], none, .seq, [], []⟩])
        (.region [⟨(some 47), .move (.tmp 11), none, .seq, [], []⟩,
         ⟨(some 48), .move (.tmp 10), none, .seq, [], []⟩,
         ⟨(some 49), .bin .sub (.tmp 47) (.tmp 48), none, .seq, [], []⟩,
         ⟨(some 11), .move (.tmp 49), none, .seq, [], []⟩])))))))

/-- slices.rotateCmpFunc[int] -/
def f117 : AFunc := ⟨5, [],
  (.seq (.region [⟨(some 12), .move (.tmp 2), none, .seq, [], []⟩,
    ⟨(some 13), .move (.tmp 1), none, .seq, [], []⟩,
    ⟨(some 14), .bin .sub (.tmp 12) (.tmp 13), none, .seq, [], []⟩,
    ⟨(some 10), .move (.tmp 14), none, .seq, [], []⟩])
  (.seq (.region [⟨(some 15), .move (.tmp 3), none, .seq, [], []⟩,
    ⟨(some 16), .move (.tmp 2), none, .seq, [], []⟩,
    ⟨(some 17), .bin .sub (.tmp 15) (.tmp 16), none, .seq, [], []⟩,
    ⟨(some 11), .move (.tmp 17), none, .seq, [], []⟩])
  (.seq (.block 0
    (.loop f117l0))
  (.region [⟨(some 50), .move (.tmp 0), none, .seq, [], []⟩,
   ⟨(some 51), .move (.tmp 2), none, .seq, [], []⟩,
   ⟨(some 52), .move (.tmp 10), none, .seq, [], []⟩,
   ⟨(some 53), .bin .sub (.tmp 51) (.tmp 52), none, .seq, [], []⟩,
   ⟨(some 54), .move (.tmp 2), none, .seq, [], []⟩,
   ⟨(some 55), .move (.tmp 10), none, .seq, [], []⟩,
   ⟨(some 56), .move (.tmp 4), none, .seq, [], []⟩,
   ⟨(some 57), .call 123 [(.tmp 50), (.tmp 53), (.tmp 54), (.tmp 55), (.tmp 56)], none, .seq, [], []⟩]))))⟩

def f118l0 : ACode :=
  (.keep [0, 2, 3, 8]
     (.block 1
      (.seq (.region [⟨(some 11), .move (.tmp 8), none, .seq, [], []⟩,
        ⟨(some 12), .bin .mul (.const (.int .i64 2)) (.tmp 11), none, .seq, [], []⟩,
        ⟨(some 13), .bin .add (.tmp 12) (.const (.int .i64 1)), none, .seq, [], []⟩,
        ⟨(some 9), .move (.tmp 13), none, .seq, [], []⟩])
      (.seq (.seq (.region [⟨(some 14), .move (.tmp 9), none, .seq, [], []⟩,
         ⟨(some 15), .move (.tmp 2), none, .seq, [], []⟩,
         ⟨(some 16), .bin .geq (.tmp 14) (.tmp 15), none, .seq, [], []⟩])
       (.cond (.tmp 16)
        (.exit 0)
        .skip))
      (.seq (.seq (.region [⟨(some 17), .move (.tmp 9), none, .still, [], []⟩,
         ⟨(some 18), .bin .add (.tmp 17) (.const (.int .i64 1)), none, .still, [], []⟩,
         ⟨(some 19), .move (.tmp 2), none, .still, [], []⟩,
         ⟨(some 20), .bin .lss (.tmp 18) (.tmp 19), none, .still, [], []⟩,
         ⟨(some 21), .move (.tmp 20), none, .still, [], []⟩,
         ⟨(some 22), .move (.tmp 0), some (21, true), .still, [], []⟩,
         ⟨(some 23), .move (.tmp 3), some (21, true), .still, [], []⟩,
         ⟨(some 24), .move (.tmp 9), some (21, true), .still, [], []⟩,
         ⟨(some 25), .bin .add (.tmp 23) (.tmp 24), some (21, true), .still, [], []⟩,
         ⟨(some 26), .indexAddr none 1 (.tmp 22) (.tmp 25), some (21, true), .still, [], []⟩,
         ⟨(some 27), .load none (.tmp 26), some (21, true), .rd, [], []⟩,
         ⟨(some 28), .move (.tmp 0), some (21, true), .still, [], []⟩,
         ⟨(some 29), .move (.tmp 3), some (21, true), .still, [], []⟩,
         ⟨(some 30), .move (.tmp 9), some (21, true), .still, [], []⟩,
         ⟨(some 31), .bin .add (.tmp 29) (.tmp 30), some (21, true), .still, [], []⟩,
         ⟨(some 32), .bin .add (.tmp 31) (.const (.int .i64 1)), some (21, true), .still, [], []⟩,
         ⟨(some 33), .indexAddr none 1 (.tmp 28) (.tmp 32), some (21, true), .still, [], []⟩,
         ⟨(some 34), .load none (.tmp 33), some (21, true), .rd, [], []⟩,
         ⟨(some 35), .call 112 [(.tmp 27), (.tmp 34)], some (21, true), .seq, [], []⟩,
         ⟨(some 36), .pick (.tmp 21) (.tmp 35) (.const (.bool false)), none, .still, [], []⟩])
       (.cond (.tmp 36)
        (.region [⟨(some 37), .move (.tmp 9), none, .seq, [], []⟩,
         ⟨(some 38), .bin .add (.tmp 37) (.const (.int .i64 1)), none, .seq, [], []⟩,
         ⟨(some 9), .move (.tmp 38), none, .seq, [], []⟩])
        .skip))
      (.seq (.seq (.region [⟨(some 39), .move (.tmp 0), none, .still, [], []⟩,
         ⟨(some 40), .move (.tmp 3), none, .still, [], []⟩,
         ⟨(some 41), .move (.tmp 8), none, .still, [], []⟩,
         ⟨(some 42), .bin .add (.tmp 40) (.tmp 41), none, .still, [], []⟩,
         ⟨(some 43), .indexAddr none 1 (.tmp 39) (.tmp 42), none, .still, [], []⟩,
         ⟨(some 44), .load none (.tmp 43), none, .rd, [], []⟩,
         ⟨(some 45), .move (.tmp 0), none, .still, [], []⟩,
         ⟨(some 46), .move (.tmp 3), none, .still, [], []⟩,
         ⟨(some 47), .move (.tmp 9), none, .still, [], []⟩,
         ⟨(some 48), .bin .add (.tmp 46) (.tmp 47), none, .still, [], []⟩,
         ⟨(some 49), .indexAddr none 1 (.tmp 45) (.tmp 48), none, .still, [], []⟩,
         ⟨(some 50), .load none (.tmp 49), none, .rd, [], []⟩,
         ⟨(some 51), .call 112 [(.tmp 44), (.tmp 50)], none, .seq, [], []⟩,
         ⟨(some 52), .un .not (.tmp 51), none, .still, [], []⟩])
       (.cond (.tmp 52)
        .ret
        .skip))
      (.seq (.region [⟨(some 53), .move (.tmp 0), none, .still, [], []⟩,
        ⟨(some 54), .move (.tmp 3), none, .still, [], []⟩,
        ⟨(some 55), .move (.tmp 8), none, .still, [], []⟩,
        ⟨(some 56), .bin .add (.tmp 54) (.tmp 55), none, .still, [], []⟩,
        ⟨(some 57), .move (.tmp 0), none, .still, [], []⟩,
        ⟨(some 58), .move (.tmp 3), none, .still, [], []⟩,
        ⟨(some 59), .move (.tmp 9), none, .still, [], []⟩,
        ⟨(some 60), .bin .add (.tmp 58) (.tmp 59), none, .still, [], []⟩,
        ⟨(some 61), .move (.tmp 0), none, .still, [], []⟩,
        ⟨(some 62), .move (.tmp 3), none, .still, [], []⟩,
        ⟨(some 63), .move (.tmp 9), none, .still, [], []⟩,
        ⟨(some 64), .bin .add (.tmp 62) (.tmp 63), none, .still, [], []⟩,
        ⟨(some 65), .indexAddr none 1 (.tmp 61) (.tmp 64), none, .still, [], []⟩,
        ⟨(some 66), .load none (.tmp 65), none, .rd, [], []⟩,
        ⟨(some 67), .move (.tmp 0), none, .still, [], []⟩,
        ⟨(some 68), .move (.tmp 3), none, .still, [], []⟩,
        ⟨(some 69), .move (.tmp 8), none, .still, [], []⟩,
        ⟨(some 70), .bin .add (.tmp 68) (.tmp 69), none, .still, [], []⟩,
        ⟨(some 71), .indexAddr none 1 (.tmp 67) (.tmp 70), none, .still, [], []⟩,
        ⟨(some 72), .load none (.tmp 71), none, .rd, [], []⟩,
        ⟨(some 73), .indexAddr none 1 (.tmp 53) (.tmp 56), none, .still, [], []⟩,
        ⟨none, .store 1 (.tmp 73) (.tmp 66), none, .seq, [], []⟩,
        ⟨(some 74), .indexAddr none 1 (.tmp 57) (.tmp 60), none, .still, [], []⟩,
        ⟨none, .store 1 (.tmp 74) (.tmp 72), none, .seq, [], []⟩])
      (.region [⟨(some 75), .move (.tmp 9), none, .seq, [], []⟩,
       ⟨(some 8), .move (.tmp 75), none, .seq, [], []⟩]))))))))

/-- slices.siftDownOrdered[int64] -/
def f118 : AFunc := ⟨4, [],
  (.seq (.region [⟨(some 10), .move (.tmp 1), none, .seq, [], []⟩,
    ⟨(some 8), .move (.tmp 10), none, .seq, [], []⟩])
  (.block 0
   (.loop f118l0)))⟩

/-- slices.nextPowerOfTwo -/
def f119 : AFunc := ⟨1, [.tmp 2],
  (.seq (.region [⟨(some 2), .move (.const (.int .u64 0)), none, .seq, [], []⟩])
  (.seq (.region [⟨(some 3), .move (.tmp 0), none, .seq, [], []⟩,
    ⟨(some 4), .convInt .u64 (.tmp 3), none, .seq, [], []⟩,
    ⟨(some 5), .call 103 [(.tmp 4)], none, .seq, [], []⟩,
    ⟨(some 6), .bin .shl (.const (.int .u64 1)) (.tmp 5), none, .seq, [], []⟩,
    ⟨(some 2), .move (.tmp 6), none, .seq, [], []⟩])
  .ret))⟩

/-- (*slices.xorshift).Next -/
def f120 : AFunc := ⟨1, [.tmp 2],
  (.seq (.region [⟨(some 2), .move (.const (.int .u64 0)), none, .seq, [], []⟩])
  (.seq (.region [⟨(some 3), .move (.tmp 0), none, .still, [], []⟩,
    ⟨(some 4), .nilCheck (.tmp 3), none, .still, [], []⟩,
    ⟨(some 5), .load none (.tmp 4), none, .rd, [], []⟩,
    ⟨(some 6), .move (.tmp 0), none, .still, [], []⟩,
    ⟨(some 7), .nilCheck (.tmp 6), none, .still, [], []⟩,
    ⟨(some 8), .load none (.tmp 7), none, .rd, [], []⟩,
    ⟨(some 9), .bin .shl (.tmp 8) (.const (.int .u64 13)), none, .still, [], []⟩,
    ⟨(some 10), .bin .xor (.tmp 5) (.tmp 9), none, .still, [], []⟩,
    ⟨(some 11), .nilCheck (.tmp 3), none, .still, [], []⟩,
    ⟨none, .store 1 (.tmp 11) (.tmp 10), none, .seq, [], []⟩])
  (.seq (.region [⟨(some 12), .move (.tmp 0), none, .still, [], []⟩,
    ⟨(some 13), .nilCheck (.tmp 12), none, .still, [], []⟩,
    ⟨(some 14), .load none (.tmp 13), none, .rd, [], []⟩,
    ⟨(some 15), .move (.tmp 0), none, .still, [], []⟩,
    ⟨(some 16), .nilCheck (.tmp 15), none, .still, [], []⟩,
    ⟨(some 17), .load none (.tmp 16), none, .rd, [], []⟩,
    ⟨(some 18), .bin .shr (.tmp 17) (.const (.int .u64 7)), none, .still, [], []⟩,
    ⟨(some 19), .bin .xor (.tmp 14) (.tmp 18), none, .still, [], []⟩,
    ⟨(some 20), .nilCheck (.tmp 12), none, .still, [], []⟩,
    ⟨none, .store 1 (.tmp 20) (.tmp 19), none, .seq, [], []⟩])
  (.seq (.region [⟨(some 21), .move (.tmp 0), none, .still, [], []⟩,
    ⟨(some 22), .nilCheck (.tmp 21), none, .still, [], []⟩,
    ⟨(some 23), .load none (.tmp 22), none, .rd, [], []⟩,
    ⟨(some 24), .move (.tmp 0), none, .still, [], []⟩,
    ⟨(some 25), .nilCheck (.tmp 24), none, .still, [], []⟩,
    ⟨(some 26), .load none (.tmp 25), none, .rd, [], []⟩,
    ⟨(some 27), .bin .shl (.tmp 26) (.const (.int .u64 17)), none, .still, [], []⟩,
    ⟨(some 28), .bin .xor (.tmp 23) (.tmp 27), none, .still, [], []⟩,
    ⟨(some 29), .nilCheck (.tmp 21), none, .still, [], []⟩,
    ⟨none, .store 1 (.tmp 29) (.tmp 28), none, .seq, [], []⟩])
  (.seq (.region [⟨(some 30), .move (.tmp 0), none, .seq, [], []⟩,
    ⟨(some 31), .nilCheck (.tmp 30), none, .seq, [], []⟩,
    ⟨(some 32), .load none (.tmp 31), none, .seq, [], []⟩,
    ⟨(some 2), .move (.tmp 32), none, .seq, [], []⟩])
  .ret)))))⟩

/-- slices.medianAdjacentOrdered[int64] -/
def f121 : AFunc := ⟨3, [.tmp 6],
  (.seq (.region [⟨(some 6), .move (.const (.int .i64 0)), none, .seq, [], []⟩])
  (.seq (.region [⟨(some 7), .move (.tmp 0), none, .seq, [], []⟩,
    ⟨(some 8), .move (.tmp 1), none, .seq, [], []⟩,
    ⟨(some 9), .bin .sub (.tmp 8) (.const (.int .i64 1)), none, .seq, [], []⟩,
    ⟨(some 10), .move (.tmp 1), none, .seq, [], []⟩,
    ⟨(some 11), .move (.tmp 1), none, .seq, [], []⟩,
    ⟨(some 12), .bin .add (.tmp 11) (.const (.int .i64 1)), none, .seq, [], []⟩,
    ⟨(some 13), .move (.tmp 2), none, .seq, [], []⟩,
    ⟨(some 14), .call 122 [(.tmp 7), (.tmp 9), (.tmp 10), (.tmp 12), (.tmp 13)], none, .seq, [], []⟩,
    ⟨(some 6), .move (.tmp 14), none, .seq, [], []⟩])
  .ret))⟩

/-- slices.medianOrdered[int64] -/
def f122 : AFunc := ⟨5, [.tmp 10],
  (.seq (.region [⟨(some 10), .move (.const (.int .i64 0)), none, .seq, [], []⟩])
  (.seq (.region [⟨(some 12), .move (.tmp 0), none, .seq, [], []⟩,
    ⟨(some 13), .move (.tmp 1), none, .seq, [], []⟩,
    ⟨(some 14), .move (.tmp 2), none, .seq, [], []⟩,
    ⟨(some 15), .move (.tmp 4), none, .seq, [], []⟩,
    ⟨(some 16), .call 124 [(.tmp 12), (.tmp 13), (.tmp 14), (.tmp 15)], none, .seq, [], []⟩,
    ⟨(some 11), .move (.tmp 16), none, .seq, [], []⟩,
    ⟨(some 17), .extract (.tmp 11) 0, none, .seq, [], []⟩,
    ⟨(some 18), .extract (.tmp 11) 1, none, .seq, [], []⟩,
    ⟨(some 1), .move (.tmp 17), none, .seq, [], []⟩,
    ⟨(some 2), .move (.tmp 18), none, .seq, [], []⟩])
  (.seq (.region [⟨(some 20), .move (.tmp 0), none, .seq, [], []⟩,
    ⟨(some 21), .move (.tmp 2), none, .seq, [], []⟩,
    ⟨(some 22), .move (.tmp 3), none, .seq, [], []⟩,
    ⟨(some 23), .move (.tmp 4), none, .seq, [], []⟩,
    ⟨(some 24), .call 124 [(.tmp 20), (.tmp 21), (.tmp 22), (.tmp 23)], none, .seq, [], []⟩,
    ⟨(some 19), .move (.tmp 24), none, .seq, [], []⟩,
    ⟨(some 25), .extract (.tmp 19) 0, none, .seq, [], []⟩,
    ⟨(some 26), .extract (.tmp 19) 1, none, .seq, [], []⟩,
    ⟨(some 2), .move (.tmp 25), none, .seq, [], []⟩,
    ⟨(some 3), .move (.tmp 26), none, .seq, [], []⟩])
  (.seq (.region [⟨(some 28), .move (.tmp 0), none, .seq, [], []⟩,
    ⟨(some 29), .move (.tmp 1), none, .seq, [], []⟩,
    ⟨(some 30), .move (.tmp 2), none, .seq, [], []⟩,
    ⟨(some 31), .move (.tmp 4), none, .seq, [], []⟩,
    ⟨(some 32), .call 124 [(.tmp 28), (.tmp 29), (.tmp 30), (.tmp 31)], none, .seq, [], []⟩,
    ⟨(some 27), .move (.tmp 32), none, .seq, [], []⟩,
    ⟨(some 33), .extract (.tmp 27) 0, none, .seq, [], []⟩,
    ⟨(some 34), .extract (.tmp 27) 1, none, .seq, [], []⟩,
    ⟨(some 1), .move (.tmp 33), none, .seq, [], []⟩,
    ⟨(some 2), .move (.tmp 34), none, .seq, [], []⟩])
  (.seq (.region [⟨(some 35), .move (.tmp 2), none, .seq, [], []⟩,
    ⟨(some 10), .move (.tmp 35), none, .seq, [], []⟩])
  .ret)))))⟩

def f123l0 : ACode :=
  (.keep [0, 1, 2, 3, 10]
     (.seq (.seq (.region [⟨(some 11), .move (.tmp 10), none, .seq, [], []⟩,
        ⟨(some 12), .move (.tmp 3), none, .seq, [], []⟩,
        ⟨(some 13), .bin .lss (.tmp 11) (.tmp 12), none, .seq, [], []⟩])
      (.cond (.tmp 13)
       .skip
       (.exit 0)))
     (.seq (.block 1
       (.region [⟨(some 16), .move (.tmp 0), none, .still, [], []⟩,
        ⟨(some 17), .move (.tmp 1), none, .still, [], []⟩,
        ⟨(some 18), .move (.tmp 10), none, .still, [], []⟩,
        ⟨(some 19), .bin .add (.tmp 17) (.tmp 18), none, .still, [], []⟩,
        ⟨(some 20), .move (.tmp 0), none, .still, [], []⟩,
        ⟨(some 21), .move (.tmp 2), none, .still, [], []⟩,
        ⟨(some 22), .move (.tmp 10), none, .still, [], []⟩,
        ⟨(some 23), .bin .add (.tmp 21) (.tmp 22), none, .still, [], []⟩,
        ⟨(some 24), .move (.tmp 0), none, .still, [], []⟩,
        ⟨(some 25), .move (.tmp 2), none, .still, [], []⟩,
        ⟨(some 26), .move (.tmp 10), none, .still, [], []⟩,
        ⟨(some 27), .bin .add (.tmp 25) (.tmp 26), none, .still, [], []⟩,
        ⟨(some 28), .indexAddr none 1 (.tmp 24) (.tmp 27), none, .still, [], []⟩,
        ⟨(some 29), .load none (.tmp 28), none, .rd, [], []⟩,
        ⟨(some 30), .move (.tmp 0), none, .still, [], []⟩,
        ⟨(some 31), .move (.tmp 1), none, .still, [], []⟩,
        ⟨(some 32), .move (.tmp 10), none, .still, [], []⟩,
        ⟨(some 33), .bin .add (.tmp 31) (.tmp 32), none, .still, [], []⟩,
        ⟨(some 34), .indexAddr none 1 (.tmp 30) (.tmp 33), none, .still, [], []⟩,
        ⟨(some 35), .load none (.tmp 34), none, .rd, [], []⟩,
        ⟨(some 36), .indexAddr none 1 (.tmp 16) (.tmp 19), none, .still, [], []⟩,
        ⟨none, .store 1 (.tmp 36) (.tmp 29), none, .seq, [], []⟩,
        ⟨(some 37), .indexAddr none 1 (.tmp 20) (.tmp 23), none, .still, [], []⟩,
        ⟨none, .store 1 (.tmp 37) (.tmp 35), none, .seq, [], []⟩]))
     (.region [⟨(some 14), .move (.tmp 10), none, .seq, [], []⟩,
      ⟨(some 15), .bin .add (.tmp 14) (.const (.int .i64 1)), none, .seq, [], []⟩,
      ⟨(some 10), .move (.tmp 15), none, .seq, [], []⟩]))))

/-- slices.swapRangeCmpFunc[int] -/
def f123 : AFunc := ⟨5, [],
  (.seq (.region [⟨(some 10), .move (.const (.int .i64 0)), none, .seq, [], []⟩])
  (.block 0
   (.loop f123l0)))⟩

/-- slices.order2Ordered[int64] -/
def f124 : AFunc := ⟨4, [.tmp 8, .tmp 9],
  (.seq (.region [⟨(some 8), .move (.const (.int .i64 0)), none, .seq, [], []⟩,
    ⟨(some 9), .move (.const (.int .i64 0)), none, .seq, [], []⟩])
  (.seq (.seq (.region [⟨(some 10), .move (.tmp 0), none, .still, [], []⟩,
     ⟨(some 11), .move (.tmp 2), none, .still, [], []⟩,
     ⟨(some 12), .indexAddr none 1 (.tmp 10) (.tmp 11), none, .still, [], []⟩,
     ⟨(some 13), .load none (.tmp 12), none, .rd, [], []⟩,
     ⟨(some 14), .move (.tmp 0), none, .still, [], []⟩,
     ⟨(some 15), .move (.tmp 1), none, .still, [], []⟩,
     ⟨(some 16), .indexAddr none 1 (.tmp 14) (.tmp 15), none, .still, [], []⟩,
     ⟨(some 17), .load none (.tmp 16), none, .rd, [], []⟩,
     ⟨(some 18), .call 112 [(.tmp 13), (.tmp 17)], none, .seq, [], []⟩])
   (.cond (.tmp 18)
    (.seq (.region [⟨(some 19), .move (.tmp 3), none, .seq, [], []⟩,
      ⟨(some 20), .nilCheck (.tmp 19), none, .seq, [], []⟩,
      ⟨(some 21), .load none (.tmp 20), none, .seq, [], []⟩,
      ⟨(some 22), .bin .add (.tmp 21) (.const (.int .i64 1)), none, .seq, [], []⟩,
      ⟨(some 23), .nilCheck (.tmp 19), none, .seq, [], []⟩,
      ⟨none, .store 1 (.tmp 23) (.tmp 22), none, .seq, [], []⟩])
    (.seq (.region [⟨(some 24), .move (.tmp 2), none, .seq, [], []⟩,
      ⟨(some 25), .move (.tmp 1), none, .seq, [], []⟩,
      ⟨(some 8), .move (.tmp 24), none, .seq, [], []⟩,
      ⟨(some 9), .move (.tmp 25), none, .seq, [], []⟩])
    .ret))
    .skip))
  (.seq (.region [⟨(some 26), .move (.tmp 1), none, .seq, [], []⟩,
    ⟨(some 27), .move (.tmp 2), none, .seq, [], []⟩,
    ⟨(some 8), .move (.tmp 26), none, .seq, [], []⟩,
    ⟨(some 9), .move (.tmp 27), none, .seq, [], []⟩])
  .ret)))⟩

end Go.Proofs.Ytbhgncfbljkdgaa.Fn
