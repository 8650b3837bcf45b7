/-
  The abstract code of the functions that the laws reach, part 1. Printed by a program (Emit.lean).
-/
import Derived.Test.YtbhgncfbljkdgaaA1
namespace Go.Proofs.Ytbhgncfbljkdgaa.Fn
open Go Go.Proofs.Ytbhgncfbljkdgaa.AI

def f12l0 : ACode :=
  (.keep [2, 7, 24, 28, 34]
      (.seq (.seq (.region [⟨(some 230), .move (.tmp 34), none, .seq, [], []⟩,
         ⟨(some 231), .move (.tmp 7), none, .seq, [], []⟩,
         ⟨(some 232), .bin .lss (.tmp 230) (.tmp 231), none, .seq, [], []⟩])
       (.cond (.tmp 232)
        .skip
        (.exit 2)))
      (.seq (.block 3
        (.seq (.region [⟨(some 235), .move (.tmp 28), none, .still, [], []⟩,
          ⟨(some 236), .move (.tmp 34), none, .still, [], []⟩,
          ⟨(some 237), .indexAddr none 1 (.tmp 235) (.tmp 236), none, .still, [], []⟩,
          ⟨(some 238), .load none (.tmp 237), none, .rd, [], []⟩,
          ⟨(some 239), .move (.tmp 24), none, .still, [], []⟩,
          ⟨(some 240), .move (.tmp 34), none, .still, [], []⟩,
          ⟨(some 241), .move (.tmp 2), none, .still, [], []⟩,
          ⟨(some 242), .convInt .i64 (.tmp 241), none, .still, [], []⟩,
          ⟨(some 243), .bin .add (.tmp 240) (.tmp 242), none, .still, [], []⟩,
          ⟨(some 244), .move (.tmp 7), none, .still, [], []⟩,
          ⟨(some 245), .bin .rem (.tmp 243) (.tmp 244), none, .still, [], []⟩,
          ⟨(some 246), .indexAddr none 1 (.tmp 239) (.tmp 245), none, .still, [], []⟩,
          ⟨(some 247), .load none (.tmp 246), none, .rd, [], []⟩,
          ⟨(some 248), .bin .neq (.tmp 238) (.tmp 247), none, .still, [], []⟩])
        (.cond (.tmp 248)
         (.seq (.region [⟨(some 6), .move (.const (.bool false)), none, .seq, [], []⟩])
         .ret)
         .skip)))
      (.region [⟨(some 233), .move (.tmp 34), none, .seq, [], []⟩,
       ⟨(some 234), .bin .add (.tmp 233) (.const (.int .i64 1)), none, .seq, [], []⟩,
       ⟨(some 34), .move (.tmp 234), none, .seq, [], []⟩]))))

def f12l1 : ACode :=
  (.keep [2, 3, 7, 8, 9, 10, 11, 12]
      (.seq (.seq (.region [⟨(some 60), .move (.tmp 12), none, .seq, [], []⟩,
         ⟨(some 61), .move (.tmp 7), none, .seq, [], []⟩,
         ⟨(some 62), .bin .lss (.tmp 60) (.tmp 61), none, .seq, [], []⟩])
       (.cond (.tmp 62)
        .skip
        (.exit 0)))
      (.seq (.block 1
        (.seq (.region [⟨(some 65), .fieldAddr 2 (.tmp 3), none, .seq, [], []⟩,
          ⟨(some 66), .load none (.tmp 65), none, .seq, [], []⟩,
          ⟨(some 67), .move (.tmp 12), none, .seq, [], []⟩,
          ⟨(some 68), .indexAddr none 3 (.tmp 66) (.tmp 67), none, .seq, [], []⟩,
          ⟨(some 69), .load (some 3) (.tmp 68), none, .seq, [], []⟩,
          ⟨(some 13), .alloc [(.int .i64 0), (.int .i64 0), (.int .i64 0)], none, .seq, [], []⟩,
          ⟨none, .store 3 (.tmp 13) (.tmp 69), none, .seq, [], []⟩])
        (.seq (.region [⟨(some 70), .fieldAddr 2 (.tmp 8), none, .still, [], []⟩,
          ⟨(some 71), .load none (.tmp 70), none, .rd, [], []⟩,
          ⟨(some 72), .fieldAddr 0 (.tmp 3), none, .still, [], []⟩,
          ⟨(some 73), .load none (.tmp 72), none, .rd, [], []⟩,
          ⟨(some 74), .bin .sub (.tmp 73) (.const (.int .i64 1)), none, .still, [], []⟩,
          ⟨(some 75), .fieldAddr 1 (.tmp 13), none, .still, [], []⟩,
          ⟨(some 76), .load none (.tmp 75), none, .rd, [], []⟩,
          ⟨(some 77), .bin .sub (.tmp 74) (.tmp 76), none, .still, [], []⟩,
          ⟨(some 78), .fieldAddr 0 (.tmp 3), none, .still, [], []⟩,
          ⟨(some 79), .load none (.tmp 78), none, .rd, [], []⟩,
          ⟨(some 80), .bin .sub (.tmp 79) (.const (.int .i64 1)), none, .still, [], []⟩,
          ⟨(some 81), .fieldAddr 0 (.tmp 13), none, .still, [], []⟩,
          ⟨(some 82), .load none (.tmp 81), none, .rd, [], []⟩,
          ⟨(some 83), .bin .sub (.tmp 80) (.tmp 82), none, .still, [], []⟩,
          ⟨(some 84), .fieldAddr 2 (.tmp 13), none, .still, [], []⟩,
          ⟨(some 85), .load none (.tmp 84), none, .rd, [], []⟩,
          ⟨(some 86), .call 43 [(.tmp 77), (.tmp 83), (.tmp 85)], none, .ro, [], []⟩,
          ⟨(some 87), .buildSlice 3 [(.int .i64 0), (.int .i64 0), (.int .i64 0)] 1 [(0, (.tmp 86))], none, .mk, [], []⟩,
          ⟨(some 88), .append 3 24 (.tmp 71) (.tmp 87), none, .seq, [], []⟩,
          ⟨(some 89), .fieldAddr 2 (.tmp 8), none, .still, [], []⟩,
          ⟨none, .store 1 (.tmp 89) (.tmp 88), none, .seq, [], []⟩])
        (.seq (.region [⟨(some 90), .fieldAddr 2 (.tmp 9), none, .still, [], []⟩,
          ⟨(some 91), .load none (.tmp 90), none, .rd, [], []⟩,
          ⟨(some 92), .fieldAddr 2 (.tmp 3), none, .still, [], []⟩,
          ⟨(some 93), .load none (.tmp 92), none, .rd, [], []⟩,
          ⟨(some 94), .move (.tmp 12), none, .still, [], []⟩,
          ⟨(some 95), .move (.tmp 2), none, .still, [], []⟩,
          ⟨(some 96), .convInt .i64 (.tmp 95), none, .still, [], []⟩,
          ⟨(some 97), .bin .add (.tmp 94) (.tmp 96), none, .still, [], []⟩,
          ⟨(some 98), .move (.tmp 7), none, .still, [], []⟩,
          ⟨(some 99), .bin .rem (.tmp 97) (.tmp 98), none, .still, [], []⟩,
          ⟨(some 100), .indexAddr none 3 (.tmp 93) (.tmp 99), none, .still, [], []⟩,
          ⟨(some 101), .load (some 3) (.tmp 100), none, .rd, [], []⟩,
          ⟨(some 102), .buildSlice 3 [(.int .i64 0), (.int .i64 0), (.int .i64 0)] 1 [(0, (.tmp 101))], none, .mk, [], []⟩,
          ⟨(some 103), .append 3 24 (.tmp 91) (.tmp 102), none, .seq, [], []⟩,
          ⟨(some 104), .fieldAddr 2 (.tmp 9), none, .still, [], []⟩,
          ⟨none, .store 1 (.tmp 104) (.tmp 103), none, .seq, [], []⟩])
        (.seq (.region [⟨(some 14), .move (.const (.int .i64 (-1))), none, .seq, [], []⟩])
        (.seq (.seq (.region [⟨(some 105), .move (.tmp 10), none, .seq, [], []⟩,
           ⟨(some 106), .move (.tmp 12), none, .seq, [], []⟩,
           ⟨(some 107), .indexAddr none 1 (.tmp 105) (.tmp 106), none, .seq, [], []⟩,
           ⟨(some 108), .load none (.tmp 107), none, .seq, [], []⟩,
           ⟨(some 109), .bin .geq (.tmp 108) (.const (.int .i64 0)), none, .seq, [], []⟩])
         (.cond (.tmp 109)
          (.region [⟨(some 110), .fieldAddr 0 (.tmp 3), none, .still, [], []⟩,
           ⟨(some 111), .load none (.tmp 110), none, .rd, [], []⟩,
           ⟨(some 112), .bin .sub (.tmp 111) (.const (.int .i64 1)), none, .still, [], []⟩,
           ⟨(some 113), .move (.tmp 10), none, .still, [], []⟩,
           ⟨(some 114), .move (.tmp 12), none, .still, [], []⟩,
           ⟨(some 115), .indexAddr none 1 (.tmp 113) (.tmp 114), none, .still, [], []⟩,
           ⟨(some 116), .load none (.tmp 115), none, .rd, [], []⟩,
           ⟨(some 117), .bin .sub (.tmp 112) (.tmp 116), none, .still, [], []⟩,
           ⟨(some 14), .move (.tmp 117), none, .still, [], []⟩])
          .skip))
        (.region [⟨(some 118), .move (.tmp 11), none, .seq, [], []⟩,
         ⟨(some 119), .move (.tmp 14), none, .seq, [], []⟩,
         ⟨(some 120), .buildSlice 1 [(.int .i64 0)] 1 [(0, (.tmp 119))], none, .seq, [], []⟩,
         ⟨(some 121), .append 1 8 (.tmp 118) (.tmp 120), none, .seq, [], []⟩,
         ⟨(some 11), .move (.tmp 121), none, .seq, [], []⟩])))))))
      (.region [⟨(some 63), .move (.tmp 12), none, .seq, [], []⟩,
       ⟨(some 64), .bin .add (.tmp 63) (.const (.int .i64 1)), none, .seq, [], []⟩,
       ⟨(some 12), .move (.tmp 64), none, .seq, [], []⟩]))))

/-- forecourt/forecourtlaw11.ShopTurned -/
def f12 : AFunc := ⟨3, [.tmp 6],
  (.seq (.region [⟨(some 3), .box (.tmp 0), none, .seq, [], []⟩,
    ⟨(some 6), .move (.const (.bool false)), none, .seq, [], []⟩])
  (.seq (.seq (.region [⟨(some 35), .load (some 3) (.tmp 3), none, .seq, [], []⟩,
     ⟨(some 36), .call 40 [(.tmp 35)], none, .seq, [], []⟩,
     ⟨(some 37), .un .not (.tmp 36), none, .seq, [], []⟩,
     ⟨(some 38), .move (.tmp 37), none, .seq, [], []⟩,
     ⟨(some 39), .move (.tmp 1), some (38, false), .seq, [], []⟩,
     ⟨(some 40), .len .sl (.tmp 39), some (38, false), .seq, [], []⟩,
     ⟨(some 41), .bin .gtr (.tmp 40) (.const (.int .i64 40)), some (38, false), .seq, [], []⟩,
     ⟨(some 42), .pick (.tmp 38) (.const (.bool true)) (.tmp 41), none, .seq, [], []⟩])
   (.cond (.tmp 42)
    (.seq (.region [⟨(some 43), .call 17 [], none, .seq, [], []⟩,
      ⟨(some 6), .move (.tmp 43), none, .seq, [], []⟩])
    .ret)
    .skip))
  (.seq (.region [⟨(some 44), .fieldAddr 2 (.tmp 3), none, .seq, [], []⟩,
    ⟨(some 45), .load none (.tmp 44), none, .seq, [], []⟩,
    ⟨(some 46), .len .sl (.tmp 45), none, .seq, [], []⟩,
    ⟨(some 7), .move (.tmp 46), none, .seq, [], []⟩])
  (.seq (.region [⟨(some 47), .fieldAddr 0 (.tmp 3), none, .still, [], []⟩,
    ⟨(some 48), .load none (.tmp 47), none, .rd, [], []⟩,
    ⟨(some 49), .fieldAddr 1 (.tmp 3), none, .still, [], []⟩,
    ⟨(some 50), .load none (.tmp 49), none, .rd, [], []⟩,
    ⟨(some 51), .build [(.int .i64 0), (.int .i64 0), (.slice none 0 0)] (.list [(0, 1), (1, 1), (2, 1)]) [(0, (.tmp 48)), (1, (.tmp 50))], none, .still, [], []⟩,
    ⟨(some 52), .fieldAddr 0 (.tmp 3), none, .still, [], []⟩,
    ⟨(some 53), .load none (.tmp 52), none, .rd, [], []⟩,
    ⟨(some 54), .fieldAddr 1 (.tmp 3), none, .still, [], []⟩,
    ⟨(some 55), .load none (.tmp 54), none, .rd, [], []⟩,
    ⟨(some 56), .build [(.int .i64 0), (.int .i64 0), (.slice none 0 0)] (.list [(0, 1), (1, 1), (2, 1)]) [(0, (.tmp 53)), (1, (.tmp 55))], none, .still, [], []⟩,
    ⟨(some 8), .alloc [(.int .i64 0), (.int .i64 0), (.slice none 0 0)], none, .mk, [], []⟩,
    ⟨(some 9), .alloc [(.int .i64 0), (.int .i64 0), (.slice none 0 0)], none, .mk, [], []⟩,
    ⟨none, .store 3 (.tmp 8) (.tmp 51), none, .on, [5, 3], []⟩,
    ⟨none, .store 3 (.tmp 9) (.tmp 56), none, .seq, [], []⟩])
  (.seq (.region [⟨(some 57), .load (some 3) (.tmp 3), none, .seq, [], []⟩,
    ⟨(some 58), .move (.tmp 1), none, .seq, [], []⟩,
    ⟨(some 59), .call 41 [(.tmp 57), (.tmp 58)], none, .seq, [], []⟩,
    ⟨(some 10), .move (.tmp 59), none, .seq, [], []⟩])
  (.seq (.region [⟨(some 11), .move (.const (.slice none 0 0)), none, .seq, [], []⟩])
  (.seq (.seq (.region [⟨(some 12), .move (.const (.int .i64 0)), none, .seq, [], []⟩])
   (.block 0
    (.loop f12l1)))
  (.seq (.region [⟨(some 123), .load (some 3) (.tmp 3), none, .seq, [], []⟩,
    ⟨(some 124), .call 30 [(.tmp 123)], none, .seq, [], []⟩,
    ⟨(some 122), .move (.tmp 124), none, .seq, [], []⟩,
    ⟨(some 125), .extract (.tmp 122) 0, none, .seq, [], []⟩,
    ⟨(some 126), .extract (.tmp 122) 1, none, .seq, [], []⟩,
    ⟨(some 127), .extract (.tmp 122) 2, none, .seq, [], []⟩,
    ⟨(some 15), .move (.tmp 125), none, .seq, [], []⟩,
    ⟨(some 16), .move (.tmp 126), none, .seq, [], []⟩,
    ⟨(some 17), .move (.tmp 127), none, .seq, [], []⟩])
  (.seq (.region [⟨(some 129), .load (some 3) (.tmp 8), none, .seq, [], []⟩,
    ⟨(some 130), .call 30 [(.tmp 129)], none, .seq, [], []⟩,
    ⟨(some 128), .move (.tmp 130), none, .seq, [], []⟩,
    ⟨(some 131), .extract (.tmp 128) 0, none, .seq, [], []⟩,
    ⟨(some 132), .extract (.tmp 128) 1, none, .seq, [], []⟩,
    ⟨(some 133), .extract (.tmp 128) 2, none, .seq, [], []⟩,
    ⟨(some 18), .move (.tmp 131), none, .seq, [], []⟩,
    ⟨(some 19), .move (.tmp 132), none, .seq, [], []⟩,
    ⟨(some 20), .move (.tmp 133), none, .seq, [], []⟩])
  (.seq (.region [⟨(some 135), .load (some 3) (.tmp 9), none, .seq, [], []⟩,
    ⟨(some 136), .call 30 [(.tmp 135)], none, .seq, [], []⟩,
    ⟨(some 134), .move (.tmp 136), none, .seq, [], []⟩,
    ⟨(some 137), .extract (.tmp 134) 0, none, .seq, [], []⟩,
    ⟨(some 138), .extract (.tmp 134) 1, none, .seq, [], []⟩,
    ⟨(some 139), .extract (.tmp 134) 2, none, .seq, [], []⟩,
    ⟨(some 21), .move (.tmp 137), none, .seq, [], []⟩,
    ⟨(some 22), .move (.tmp 138), none, .seq, [], []⟩,
    ⟨(some 23), .move (.tmp 139), none, .seq, [], []⟩])
  (.seq (.region [⟨(some 141), .load (some 3) (.tmp 3), none, .seq, [], []⟩,
    ⟨(some 142), .call 28 [(.tmp 141)], none, .seq, [], []⟩,
    ⟨(some 140), .move (.tmp 142), none, .seq, [], []⟩,
    ⟨(some 143), .extract (.tmp 140) 0, none, .seq, [], []⟩,
    ⟨(some 144), .extract (.tmp 140) 1, none, .seq, [], []⟩,
    ⟨(some 24), .move (.tmp 143), none, .seq, [], []⟩,
    ⟨(some 25), .move (.tmp 144), none, .seq, [], []⟩])
  (.seq (.region [⟨(some 146), .load (some 3) (.tmp 8), none, .seq, [], []⟩,
    ⟨(some 147), .call 28 [(.tmp 146)], none, .seq, [], []⟩,
    ⟨(some 145), .move (.tmp 147), none, .seq, [], []⟩,
    ⟨(some 148), .extract (.tmp 145) 0, none, .seq, [], []⟩,
    ⟨(some 149), .extract (.tmp 145) 1, none, .seq, [], []⟩,
    ⟨(some 26), .move (.tmp 148), none, .seq, [], []⟩,
    ⟨(some 27), .move (.tmp 149), none, .seq, [], []⟩])
  (.seq (.region [⟨(some 151), .load (some 3) (.tmp 9), none, .seq, [], []⟩,
    ⟨(some 152), .call 28 [(.tmp 151)], none, .seq, [], []⟩,
    ⟨(some 150), .move (.tmp 152), none, .seq, [], []⟩,
    ⟨(some 153), .extract (.tmp 150) 0, none, .seq, [], []⟩,
    ⟨(some 154), .extract (.tmp 150) 1, none, .seq, [], []⟩,
    ⟨(some 28), .move (.tmp 153), none, .seq, [], []⟩,
    ⟨(some 29), .move (.tmp 154), none, .seq, [], []⟩])
  (.seq (.region [⟨(some 156), .load (some 3) (.tmp 3), none, .seq, [], []⟩,
    ⟨(some 157), .move (.tmp 10), none, .seq, [], []⟩,
    ⟨(some 158), .call 18 [(.tmp 156), (.tmp 157)], none, .seq, [], []⟩,
    ⟨(some 155), .move (.tmp 158), none, .seq, [], []⟩,
    ⟨(some 159), .extract (.tmp 155) 0, none, .seq, [], []⟩,
    ⟨(some 160), .extract (.tmp 155) 1, none, .seq, [], []⟩,
    ⟨(some 30), .move (.tmp 159), none, .seq, [], []⟩,
    ⟨(some 31), .move (.tmp 160), none, .seq, [], []⟩])
  (.seq (.region [⟨(some 162), .load (some 3) (.tmp 8), none, .seq, [], []⟩,
    ⟨(some 163), .move (.tmp 11), none, .seq, [], []⟩,
    ⟨(some 164), .call 18 [(.tmp 162), (.tmp 163)], none, .seq, [], []⟩,
    ⟨(some 161), .move (.tmp 164), none, .seq, [], []⟩,
    ⟨(some 165), .extract (.tmp 161) 0, none, .seq, [], []⟩,
    ⟨(some 166), .extract (.tmp 161) 1, none, .seq, [], []⟩,
    ⟨(some 32), .move (.tmp 165), none, .seq, [], []⟩,
    ⟨(some 33), .move (.tmp 166), none, .seq, [], []⟩])
  (.seq (.seq (.region [⟨(some 167), .move (.tmp 17), none, .seq, [], []⟩,
     ⟨(some 168), .bin .neq (.tmp 167) (.const (.int .i64 0)), none, .seq, [], []⟩,
     ⟨(some 169), .move (.tmp 168), none, .seq, [], []⟩,
     ⟨(some 170), .move (.tmp 20), some (169, false), .seq, [], []⟩,
     ⟨(some 171), .bin .neq (.tmp 170) (.const (.int .i64 0)), some (169, false), .seq, [], []⟩,
     ⟨(some 172), .pick (.tmp 169) (.const (.bool true)) (.tmp 171), none, .seq, [], []⟩,
     ⟨(some 173), .move (.tmp 172), none, .seq, [], []⟩,
     ⟨(some 174), .move (.tmp 23), some (173, false), .seq, [], []⟩,
     ⟨(some 175), .bin .neq (.tmp 174) (.const (.int .i64 0)), some (173, false), .seq, [], []⟩,
     ⟨(some 176), .pick (.tmp 173) (.const (.bool true)) (.tmp 175), none, .seq, [], []⟩,
     ⟨(some 177), .move (.tmp 176), none, .seq, [], []⟩,
     ⟨(some 178), .move (.tmp 25), some (177, false), .seq, [], []⟩,
     ⟨(some 179), .bin .neq (.tmp 178) (.const (.int .i64 0)), some (177, false), .seq, [], []⟩,
     ⟨(some 180), .pick (.tmp 177) (.const (.bool true)) (.tmp 179), none, .seq, [], []⟩,
     ⟨(some 181), .move (.tmp 180), none, .seq, [], []⟩,
     ⟨(some 182), .move (.tmp 27), some (181, false), .seq, [], []⟩,
     ⟨(some 183), .bin .neq (.tmp 182) (.const (.int .i64 0)), some (181, false), .seq, [], []⟩,
     ⟨(some 184), .pick (.tmp 181) (.const (.bool true)) (.tmp 183), none, .seq, [], []⟩,
     ⟨(some 185), .move (.tmp 184), none, .seq, [], []⟩,
     ⟨(some 186), .move (.tmp 29), some (185, false), .seq, [], []⟩,
     ⟨(some 187), .bin .neq (.tmp 186) (.const (.int .i64 0)), some (185, false), .seq, [], []⟩,
     ⟨(some 188), .pick (.tmp 185) (.const (.bool true)) (.tmp 187), none, .seq, [], []⟩,
     ⟨(some 189), .move (.tmp 188), none, .seq, [], []⟩,
     ⟨(some 190), .move (.tmp 31), some (189, false), .seq, [], []⟩,
     ⟨(some 191), .bin .neq (.tmp 190) (.const (.int .i64 0)), some (189, false), .seq, [], []⟩,
     ⟨(some 192), .pick (.tmp 189) (.const (.bool true)) (.tmp 191), none, .seq, [], []⟩,
     ⟨(some 193), .move (.tmp 192), none, .seq, [], []⟩,
     ⟨(some 194), .move (.tmp 33), some (193, false), .seq, [], []⟩,
     ⟨(some 195), .bin .neq (.tmp 194) (.const (.int .i64 0)), some (193, false), .seq, [], []⟩,
     ⟨(some 196), .pick (.tmp 193) (.const (.bool true)) (.tmp 195), none, .seq, [], []⟩,
     ⟨(some 197), .move (.tmp 196), none, .seq, [], []⟩,
     ⟨(some 198), .move (.tmp 16), some (197, false), .seq, [], []⟩,
     ⟨(some 199), .move (.tmp 19), some (197, false), .seq, [], []⟩,
     ⟨(some 200), .bin .neq (.tmp 198) (.tmp 199), some (197, false), .seq, [], []⟩,
     ⟨(some 201), .pick (.tmp 197) (.const (.bool true)) (.tmp 200), none, .seq, [], []⟩,
     ⟨(some 202), .move (.tmp 201), none, .seq, [], []⟩,
     ⟨(some 203), .move (.tmp 16), some (202, false), .seq, [], []⟩,
     ⟨(some 204), .move (.tmp 22), some (202, false), .seq, [], []⟩,
     ⟨(some 205), .bin .neq (.tmp 203) (.tmp 204), some (202, false), .seq, [], []⟩,
     ⟨(some 206), .pick (.tmp 202) (.const (.bool true)) (.tmp 205), none, .seq, [], []⟩,
     ⟨(some 207), .move (.tmp 206), none, .seq, [], []⟩,
     ⟨(some 208), .move (.tmp 30), some (207, false), .seq, [], []⟩,
     ⟨(some 209), .move (.tmp 32), some (207, false), .seq, [], []⟩,
     ⟨(some 210), .bin .neq (.tmp 208) (.tmp 209), some (207, false), .seq, [], []⟩,
     ⟨(some 211), .pick (.tmp 207) (.const (.bool true)) (.tmp 210), none, .seq, [], []⟩,
     ⟨(some 212), .move (.tmp 211), none, .seq, [], []⟩,
     ⟨(some 213), .move (.tmp 24), some (212, false), .seq, [], []⟩,
     ⟨(some 214), .move (.tmp 26), some (212, false), .seq, [], []⟩,
     ⟨(some 215), .call 31 [(.tmp 213), (.tmp 214)], some (212, false), .seq, [], []⟩,
     ⟨(some 216), .un .not (.tmp 215), some (212, false), .seq, [], []⟩,
     ⟨(some 217), .pick (.tmp 212) (.const (.bool true)) (.tmp 216), none, .seq, [], []⟩,
     ⟨(some 218), .move (.tmp 217), none, .seq, [], []⟩,
     ⟨(some 219), .move (.tmp 24), some (218, false), .seq, [], []⟩,
     ⟨(some 220), .len .sl (.tmp 219), some (218, false), .seq, [], []⟩,
     ⟨(some 221), .move (.tmp 7), some (218, false), .seq, [], []⟩,
     ⟨(some 222), .bin .neq (.tmp 220) (.tmp 221), some (218, false), .seq, [], []⟩,
     ⟨(some 223), .pick (.tmp 218) (.const (.bool true)) (.tmp 222), none, .seq, [], []⟩,
     ⟨(some 224), .move (.tmp 223), none, .seq, [], []⟩,
     ⟨(some 225), .move (.tmp 28), some (224, false), .seq, [], []⟩,
     ⟨(some 226), .len .sl (.tmp 225), some (224, false), .seq, [], []⟩,
     ⟨(some 227), .move (.tmp 7), some (224, false), .seq, [], []⟩,
     ⟨(some 228), .bin .neq (.tmp 226) (.tmp 227), some (224, false), .seq, [], []⟩,
     ⟨(some 229), .pick (.tmp 224) (.const (.bool true)) (.tmp 228), none, .seq, [], []⟩])
   (.cond (.tmp 229)
    (.seq (.region [⟨(some 6), .move (.const (.bool false)), none, .seq, [], []⟩])
    .ret)
    .skip))
  (.seq (.seq (.region [⟨(some 34), .move (.const (.int .i64 0)), none, .seq, [], []⟩])
   (.block 2
    (.loop f12l0)))
  (.seq (.region [⟨(some 249), .call 17 [], none, .seq, [], []⟩,
    ⟨(some 6), .move (.tmp 249), none, .seq, [], []⟩])
  .ret))))))))))))))))))⟩

def f13l0 : ACode :=
  (.keep [0, 1, 3, 4, 14, 15, 17, 19]
      (.seq (.seq (.region [⟨(some 115), .move (.tmp 19), none, .seq, [], []⟩,
         ⟨(some 116), .move (.tmp 15), none, .seq, [], []⟩,
         ⟨(some 117), .bin .leq (.tmp 115) (.tmp 116), none, .seq, [], []⟩])
       (.cond (.tmp 117)
        .skip
        (.exit 2)))
      (.seq (.block 3
        (.region [⟨(some 120), .move (.tmp 17), none, .seq, [], []⟩,
         ⟨(some 121), .move (.tmp 1), none, .seq, [], []⟩,
         ⟨(some 122), .move (.tmp 19), none, .seq, [], []⟩,
         ⟨(some 123), .indexAddr none 1 (.tmp 121) (.tmp 122), none, .seq, [], []⟩,
         ⟨(some 124), .load none (.tmp 123), none, .seq, [], []⟩,
         ⟨(some 125), .bin .sub (.tmp 120) (.tmp 124), none, .seq, [], []⟩,
         ⟨(some 17), .move (.tmp 125), none, .seq, [], []⟩]))
      (.region [⟨(some 118), .move (.tmp 19), none, .seq, [], []⟩,
       ⟨(some 119), .bin .add (.tmp 118) (.const (.int .i64 1)), none, .seq, [], []⟩,
       ⟨(some 19), .move (.tmp 119), none, .seq, [], []⟩]))))

def f13l1 : ACode :=
  (.keep [0, 1, 3, 4, 14, 15, 17, 18]
      (.seq (.seq (.region [⟨(some 95), .move (.tmp 18), none, .seq, [], []⟩,
         ⟨(some 96), .move (.tmp 0), none, .seq, [], []⟩,
         ⟨(some 97), .len .sl (.tmp 96), none, .seq, [], []⟩,
         ⟨(some 98), .bin .lss (.tmp 95) (.tmp 97), none, .seq, [], []⟩])
       (.cond (.tmp 98)
        .skip
        (.exit 0)))
      (.seq (.block 1
        (.seq (.region [⟨(some 101), .move (.tmp 0), none, .seq, [], []⟩,
          ⟨(some 102), .move (.tmp 18), none, .seq, [], []⟩,
          ⟨(some 103), .indexAddr none 2 (.tmp 101) (.tmp 102), none, .seq, [], []⟩,
          ⟨(some 104), .fieldAddr 0 (.tmp 103), none, .seq, [], []⟩,
          ⟨(some 105), .load none (.tmp 104), none, .seq, [], []⟩,
          ⟨(some 106), .move (.tmp 15), none, .seq, [], []⟩,
          ⟨(some 107), .bin .leq (.tmp 105) (.tmp 106), none, .seq, [], []⟩])
        (.cond (.tmp 107)
         (.region [⟨(some 108), .move (.tmp 17), none, .seq, [], []⟩,
          ⟨(some 109), .move (.tmp 0), none, .seq, [], []⟩,
          ⟨(some 110), .move (.tmp 18), none, .seq, [], []⟩,
          ⟨(some 111), .indexAddr none 2 (.tmp 109) (.tmp 110), none, .seq, [], []⟩,
          ⟨(some 112), .fieldAddr 1 (.tmp 111), none, .seq, [], []⟩,
          ⟨(some 113), .load none (.tmp 112), none, .seq, [], []⟩,
          ⟨(some 114), .bin .add (.tmp 108) (.tmp 113), none, .seq, [], []⟩,
          ⟨(some 17), .move (.tmp 114), none, .seq, [], []⟩])
         .skip)))
      (.region [⟨(some 99), .move (.tmp 18), none, .seq, [], []⟩,
       ⟨(some 100), .bin .add (.tmp 99) (.const (.int .i64 1)), none, .seq, [], []⟩,
       ⟨(some 18), .move (.tmp 100), none, .seq, [], []⟩]))))

/-- forecourt/forecourtlaw11.ShopThrown -/
def f13 : AFunc := ⟨5, [.tmp 10],
  (.seq (.region [⟨(some 10), .move (.const (.bool false)), none, .seq, [], []⟩])
  (.seq (.seq (.region [⟨(some 24), .move (.tmp 0), none, .seq, [], []⟩,
     ⟨(some 25), .len .sl (.tmp 24), none, .seq, [], []⟩,
     ⟨(some 26), .bin .gtr (.tmp 25) (.const (.int .i64 40)), none, .seq, [], []⟩,
     ⟨(some 27), .move (.tmp 26), none, .seq, [], []⟩,
     ⟨(some 28), .move (.tmp 1), some (27, false), .seq, [], []⟩,
     ⟨(some 29), .len .sl (.tmp 28), some (27, false), .seq, [], []⟩,
     ⟨(some 30), .bin .gtr (.tmp 29) (.const (.int .i64 40)), some (27, false), .seq, [], []⟩,
     ⟨(some 31), .pick (.tmp 27) (.const (.bool true)) (.tmp 30), none, .seq, [], []⟩,
     ⟨(some 32), .move (.tmp 31), none, .seq, [], []⟩,
     ⟨(some 33), .move (.tmp 2), some (32, false), .seq, [], []⟩,
     ⟨(some 34), .len .sl (.tmp 33), some (32, false), .seq, [], []⟩,
     ⟨(some 35), .bin .gtr (.tmp 34) (.const (.int .i64 60)), some (32, false), .seq, [], []⟩,
     ⟨(some 36), .pick (.tmp 32) (.const (.bool true)) (.tmp 35), none, .seq, [], []⟩])
   (.cond (.tmp 36)
    (.seq (.region [⟨(some 37), .call 17 [], none, .seq, [], []⟩,
      ⟨(some 10), .move (.tmp 37), none, .seq, [], []⟩])
    .ret)
    .skip))
  (.seq (.region [⟨(some 39), .move (.tmp 0), none, .seq, [], []⟩,
    ⟨(some 40), .move (.tmp 1), none, .seq, [], []⟩,
    ⟨(some 41), .call 39 [(.tmp 39), (.tmp 40)], none, .seq, [], []⟩,
    ⟨(some 38), .move (.tmp 41), none, .seq, [], []⟩,
    ⟨(some 42), .extract (.tmp 38) 0, none, .seq, [], []⟩,
    ⟨(some 43), .extract (.tmp 38) 1, none, .seq, [], []⟩,
    ⟨(some 44), .extract (.tmp 38) 2, none, .seq, [], []⟩,
    ⟨(some 11), .move (.tmp 42), none, .seq, [], []⟩,
    ⟨(some 12), .move (.tmp 43), none, .seq, [], []⟩,
    ⟨(some 13), .move (.tmp 44), none, .seq, [], []⟩])
  (.seq (.region [⟨(some 46), .move (.tmp 0), none, .seq, [], []⟩,
    ⟨(some 47), .move (.tmp 1), none, .seq, [], []⟩,
    ⟨(some 48), .call 38 [(.tmp 46), (.tmp 47)], none, .seq, [], []⟩,
    ⟨(some 45), .move (.tmp 48), none, .seq, [], []⟩,
    ⟨(some 49), .extract (.tmp 45) 0, none, .seq, [], []⟩,
    ⟨(some 50), .extract (.tmp 45) 1, none, .seq, [], []⟩,
    ⟨(some 51), .extract (.tmp 45) 2, none, .seq, [], []⟩,
    ⟨(some 14), .move (.tmp 49), none, .seq, [], []⟩,
    ⟨(some 15), .move (.tmp 50), none, .seq, [], []⟩,
    ⟨(some 16), .move (.tmp 51), none, .seq, [], []⟩])
  (.seq (.seq (.region [⟨(some 52), .move (.tmp 13), none, .seq, [], []⟩,
     ⟨(some 53), .bin .neq (.tmp 52) (.const (.int .i64 0)), none, .seq, [], []⟩])
   (.cond (.tmp 53)
    (.seq (.region [⟨(some 54), .move (.tmp 16), none, .seq, [], []⟩,
      ⟨(some 55), .move (.tmp 13), none, .seq, [], []⟩,
      ⟨(some 56), .bin .eql (.tmp 54) (.tmp 55), none, .seq, [], []⟩,
      ⟨(some 57), .move (.tmp 56), none, .seq, [], []⟩,
      ⟨(some 58), .move (.tmp 14), some (57, true), .seq, [], []⟩,
      ⟨(some 59), .bin .eql (.tmp 58) (.const (.int .i64 0)), some (57, true), .seq, [], []⟩,
      ⟨(some 60), .pick (.tmp 57) (.tmp 59) (.const (.bool false)), none, .seq, [], []⟩,
      ⟨(some 61), .move (.tmp 60), none, .seq, [], []⟩,
      ⟨(some 62), .move (.tmp 15), some (61, true), .seq, [], []⟩,
      ⟨(some 63), .bin .eql (.tmp 62) (.const (.int .i64 0)), some (61, true), .seq, [], []⟩,
      ⟨(some 64), .pick (.tmp 61) (.tmp 63) (.const (.bool false)), none, .seq, [], []⟩,
      ⟨(some 65), .move (.tmp 64), none, .seq, [], []⟩,
      ⟨(some 66), .call 17 [], some (65, true), .seq, [], []⟩,
      ⟨(some 67), .pick (.tmp 65) (.tmp 66) (.const (.bool false)), none, .seq, [], []⟩,
      ⟨(some 10), .move (.tmp 67), none, .seq, [], []⟩])
    .ret)
    .skip))
  (.seq (.seq (.region [⟨(some 68), .move (.tmp 16), none, .seq, [], []⟩,
     ⟨(some 69), .bin .neq (.tmp 68) (.const (.int .i64 0)), none, .seq, [], []⟩,
     ⟨(some 70), .move (.tmp 69), none, .seq, [], []⟩,
     ⟨(some 71), .move (.tmp 15), some (70, false), .seq, [], []⟩,
     ⟨(some 72), .bin .lss (.tmp 71) (.const (.int .i64 0)), some (70, false), .seq, [], []⟩,
     ⟨(some 73), .pick (.tmp 70) (.const (.bool true)) (.tmp 72), none, .seq, [], []⟩,
     ⟨(some 74), .move (.tmp 73), none, .seq, [], []⟩,
     ⟨(some 75), .move (.tmp 15), some (74, false), .seq, [], []⟩,
     ⟨(some 76), .move (.tmp 1), some (74, false), .seq, [], []⟩,
     ⟨(some 77), .len .sl (.tmp 76), some (74, false), .seq, [], []⟩,
     ⟨(some 78), .bin .geq (.tmp 75) (.tmp 77), some (74, false), .seq, [], []⟩,
     ⟨(some 79), .pick (.tmp 74) (.const (.bool true)) (.tmp 78), none, .seq, [], []⟩,
     ⟨(some 80), .move (.tmp 79), none, .seq, [], []⟩,
     ⟨(some 81), .move (.tmp 0), some (80, false), .seq, [], []⟩,
     ⟨(some 82), .move (.tmp 1), some (80, false), .seq, [], []⟩,
     ⟨(some 83), .call 44 [(.tmp 81), (.tmp 82), (.const (.slice none 0 0))], some (80, false), .seq, [], []⟩,
     ⟨(some 84), .move (.tmp 14), some (80, false), .seq, [], []⟩,
     ⟨(some 85), .bin .neq (.tmp 83) (.tmp 84), some (80, false), .seq, [], []⟩,
     ⟨(some 86), .pick (.tmp 80) (.const (.bool true)) (.tmp 85), none, .seq, [], []⟩,
     ⟨(some 87), .move (.tmp 86), none, .seq, [], []⟩,
     ⟨(some 88), .move (.tmp 0), some (87, false), .seq, [], []⟩,
     ⟨(some 89), .move (.tmp 1), some (87, false), .seq, [], []⟩,
     ⟨(some 90), .move (.tmp 2), some (87, false), .seq, [], []⟩,
     ⟨(some 91), .call 44 [(.tmp 88), (.tmp 89), (.tmp 90)], some (87, false), .seq, [], []⟩,
     ⟨(some 92), .move (.tmp 14), some (87, false), .seq, [], []⟩,
     ⟨(some 93), .bin .lss (.tmp 91) (.tmp 92), some (87, false), .seq, [], []⟩,
     ⟨(some 94), .pick (.tmp 87) (.const (.bool true)) (.tmp 93), none, .seq, [], []⟩])
   (.cond (.tmp 94)
    (.seq (.region [⟨(some 10), .move (.const (.bool false)), none, .seq, [], []⟩])
    .ret)
    .skip))
  (.seq (.region [⟨(some 17), .move (.const (.int .i64 0)), none, .seq, [], []⟩])
  (.seq (.seq (.region [⟨(some 18), .move (.const (.int .i64 0)), none, .seq, [], []⟩])
   (.block 0
    (.loop f13l1)))
  (.seq (.seq (.region [⟨(some 19), .move (.const (.int .i64 0)), none, .seq, [], []⟩])
   (.block 2
    (.loop f13l0)))
  (.seq (.seq (.region [⟨(some 126), .move (.tmp 17), none, .seq, [], []⟩,
     ⟨(some 127), .minmax true [(.const (.int .i64 0)), (.tmp 126)], none, .seq, [], []⟩,
     ⟨(some 128), .move (.tmp 14), none, .seq, [], []⟩,
     ⟨(some 129), .bin .neq (.tmp 127) (.tmp 128), none, .seq, [], []⟩])
   (.cond (.tmp 129)
    (.seq (.region [⟨(some 10), .move (.const (.bool false)), none, .seq, [], []⟩])
    .ret)
    .skip))
  (.seq (.region [⟨(some 130), .buildSlice 1 [(.int .i64 0)] 0 [], none, .seq, [], []⟩,
    ⟨(some 131), .move (.tmp 1), none, .seq, [], []⟩,
    ⟨(some 132), .append 1 8 (.tmp 130) (.tmp 131), none, .seq, [], []⟩,
    ⟨(some 20), .move (.tmp 132), none, .seq, [], []⟩])
  (.seq (.region [⟨(some 133), .move (.tmp 3), none, .seq, [], []⟩,
    ⟨(some 134), .convInt .i64 (.tmp 133), none, .seq, [], []⟩,
    ⟨(some 135), .move (.tmp 20), none, .seq, [], []⟩,
    ⟨(some 136), .len .sl (.tmp 135), none, .seq, [], []⟩,
    ⟨(some 137), .bin .rem (.tmp 134) (.tmp 136), none, .seq, [], []⟩,
    ⟨(some 21), .move (.tmp 137), none, .seq, [], []⟩])
  (.seq (.region [⟨(some 138), .move (.tmp 20), none, .seq, [], []⟩,
    ⟨(some 139), .move (.tmp 21), none, .seq, [], []⟩,
    ⟨(some 140), .move (.tmp 20), none, .seq, [], []⟩,
    ⟨(some 141), .move (.tmp 21), none, .seq, [], []⟩,
    ⟨(some 142), .indexAddr none 1 (.tmp 140) (.tmp 141), none, .seq, [], []⟩,
    ⟨(some 143), .load none (.tmp 142), none, .seq, [], []⟩,
    ⟨(some 144), .move (.tmp 4), none, .seq, [], []⟩,
    ⟨(some 145), .convInt .i64 (.tmp 144), none, .seq, [], []⟩,
    ⟨(some 146), .bin .add (.tmp 143) (.tmp 145), none, .seq, [], []⟩,
    ⟨(some 147), .minmax false [(.const (.int .i64 100000)), (.tmp 146)], none, .seq, [], []⟩,
    ⟨(some 148), .indexAddr none 1 (.tmp 138) (.tmp 139), none, .seq, [], []⟩,
    ⟨none, .store 1 (.tmp 148) (.tmp 147), none, .seq, [], []⟩])
  (.seq (.region [⟨(some 150), .move (.tmp 0), none, .seq, [], []⟩,
    ⟨(some 151), .move (.tmp 20), none, .seq, [], []⟩,
    ⟨(some 152), .call 38 [(.tmp 150), (.tmp 151)], none, .seq, [], []⟩,
    ⟨(some 149), .move (.tmp 152), none, .seq, [], []⟩,
    ⟨(some 153), .extract (.tmp 149) 0, none, .seq, [], []⟩,
    ⟨(some 154), .extract (.tmp 149) 1, none, .seq, [], []⟩,
    ⟨(some 155), .extract (.tmp 149) 2, none, .seq, [], []⟩,
    ⟨(some 22), .move (.tmp 153), none, .seq, [], []⟩,
    ⟨(some 23), .move (.tmp 154), none, .seq, [], []⟩,
    ⟨(some 13), .move (.tmp 155), none, .seq, [], []⟩])
  (.seq (.region [⟨(some 156), .move (.tmp 13), none, .seq, [], []⟩,
    ⟨(some 157), .bin .eql (.tmp 156) (.const (.int .i64 0)), none, .seq, [], []⟩,
    ⟨(some 158), .move (.tmp 157), none, .seq, [], []⟩,
    ⟨(some 159), .move (.tmp 22), some (158, true), .seq, [], []⟩,
    ⟨(some 160), .move (.tmp 14), some (158, true), .seq, [], []⟩,
    ⟨(some 161), .bin .leq (.tmp 159) (.tmp 160), some (158, true), .seq, [], []⟩,
    ⟨(some 162), .pick (.tmp 158) (.tmp 161) (.const (.bool false)), none, .seq, [], []⟩,
    ⟨(some 163), .move (.tmp 162), none, .seq, [], []⟩,
    ⟨(some 164), .call 17 [], some (163, true), .seq, [], []⟩,
    ⟨(some 165), .pick (.tmp 163) (.tmp 164) (.const (.bool false)), none, .seq, [], []⟩,
    ⟨(some 10), .move (.tmp 165), none, .seq, [], []⟩])
  .ret)))))))))))))))⟩

/-- forecourt/forecourtlaw11.ShopAge -/
def f14 : AFunc := ⟨2, [.tmp 4],
  (.seq (.region [⟨(some 2), .box (.tmp 0), none, .seq, [], []⟩,
    ⟨(some 3), .box (.tmp 1), none, .seq, [], []⟩,
    ⟨(some 4), .move (.const (.bool false)), none, .seq, [], []⟩])
  (.seq (.region [⟨(some 14), .load (some 3) (.tmp 2), none, .seq, [], []⟩,
    ⟨(some 15), .load (some 3) (.tmp 3), none, .seq, [], []⟩,
    ⟨(some 16), .call 36 [(.tmp 14), (.tmp 15)], none, .seq, [], []⟩,
    ⟨(some 13), .move (.tmp 16), none, .seq, [], []⟩,
    ⟨(some 17), .extract (.tmp 13) 0, none, .seq, [], []⟩,
    ⟨(some 18), .extract (.tmp 13) 1, none, .seq, [], []⟩,
    ⟨(some 5), .move (.tmp 17), none, .seq, [], []⟩,
    ⟨(some 6), .move (.tmp 18), none, .seq, [], []⟩])
  (.seq (.seq (.region [⟨(some 19), .load (some 3) (.tmp 2), none, .seq, [], []⟩,
     ⟨(some 20), .call 45 [(.tmp 19)], none, .seq, [], []⟩,
     ⟨(some 21), .un .not (.tmp 20), none, .seq, [], []⟩,
     ⟨(some 22), .move (.tmp 21), none, .seq, [], []⟩,
     ⟨(some 23), .load (some 3) (.tmp 3), some (22, false), .seq, [], []⟩,
     ⟨(some 24), .call 45 [(.tmp 23)], some (22, false), .seq, [], []⟩,
     ⟨(some 25), .un .not (.tmp 24), some (22, false), .seq, [], []⟩,
     ⟨(some 26), .pick (.tmp 22) (.const (.bool true)) (.tmp 25), none, .seq, [], []⟩])
   (.cond (.tmp 26)
    (.seq (.region [⟨(some 27), .move (.tmp 6), none, .seq, [], []⟩,
      ⟨(some 28), .bin .eql (.tmp 27) (.const (.int .i64 3)), none, .seq, [], []⟩,
      ⟨(some 29), .move (.tmp 28), none, .seq, [], []⟩,
      ⟨(some 30), .move (.tmp 5), some (29, true), .seq, [], []⟩,
      ⟨(some 31), .bin .eql (.tmp 30) (.const (.int .i64 0)), some (29, true), .seq, [], []⟩,
      ⟨(some 32), .pick (.tmp 29) (.tmp 31) (.const (.bool false)), none, .seq, [], []⟩,
      ⟨(some 33), .move (.tmp 32), none, .seq, [], []⟩,
      ⟨(some 34), .call 17 [], some (33, true), .seq, [], []⟩,
      ⟨(some 35), .pick (.tmp 33) (.tmp 34) (.const (.bool false)), none, .seq, [], []⟩,
      ⟨(some 4), .move (.tmp 35), none, .seq, [], []⟩])
    .ret)
    .skip))
  (.seq (.region [⟨(some 37), .load (some 3) (.tmp 2), none, .seq, [], []⟩,
    ⟨(some 38), .load (some 3) (.tmp 2), none, .seq, [], []⟩,
    ⟨(some 39), .call 36 [(.tmp 37), (.tmp 38)], none, .seq, [], []⟩,
    ⟨(some 36), .move (.tmp 39), none, .seq, [], []⟩,
    ⟨(some 40), .extract (.tmp 36) 0, none, .seq, [], []⟩,
    ⟨(some 41), .extract (.tmp 36) 1, none, .seq, [], []⟩,
    ⟨(some 7), .move (.tmp 40), none, .seq, [], []⟩,
    ⟨(some 8), .move (.tmp 41), none, .seq, [], []⟩])
  (.seq (.seq (.region [⟨(some 42), .move (.tmp 8), none, .seq, [], []⟩,
     ⟨(some 43), .bin .neq (.tmp 42) (.const (.int .i64 0)), none, .seq, [], []⟩,
     ⟨(some 44), .move (.tmp 43), none, .seq, [], []⟩,
     ⟨(some 45), .move (.tmp 7), some (44, false), .seq, [], []⟩,
     ⟨(some 46), .bin .neq (.tmp 45) (.const (.int .i64 0)), some (44, false), .seq, [], []⟩,
     ⟨(some 47), .pick (.tmp 44) (.const (.bool true)) (.tmp 46), none, .seq, [], []⟩])
   (.cond (.tmp 47)
    (.seq (.region [⟨(some 4), .move (.const (.bool false)), none, .seq, [], []⟩])
    .ret)
    .skip))
  (.seq (.region [⟨(some 48), .load (some 3) (.tmp 3), none, .seq, [], []⟩,
    ⟨(some 49), .call 46 [(.tmp 48)], none, .seq, [], []⟩,
    ⟨(some 9), .alloc [(.int .i64 0), (.int .i64 0), (.int .i64 0)], none, .seq, [], []⟩,
    ⟨none, .store 3 (.tmp 9) (.tmp 49), none, .seq, [], []⟩])
  (.seq (.seq (.region [⟨(some 50), .load (some 3) (.tmp 9), none, .seq, [], []⟩,
     ⟨(some 51), .call 45 [(.tmp 50)], none, .seq, [], []⟩,
     ⟨(some 52), .un .not (.tmp 51), none, .seq, [], []⟩])
   (.cond (.tmp 52)
    (.seq (.region [⟨(some 53), .call 17 [], none, .seq, [], []⟩,
      ⟨(some 4), .move (.tmp 53), none, .seq, [], []⟩])
    .ret)
    .skip))
  (.seq (.region [⟨(some 55), .load (some 3) (.tmp 2), none, .seq, [], []⟩,
    ⟨(some 56), .load (some 3) (.tmp 9), none, .seq, [], []⟩,
    ⟨(some 57), .call 36 [(.tmp 55), (.tmp 56)], none, .seq, [], []⟩,
    ⟨(some 54), .move (.tmp 57), none, .seq, [], []⟩,
    ⟨(some 58), .extract (.tmp 54) 0, none, .seq, [], []⟩,
    ⟨(some 59), .extract (.tmp 54) 1, none, .seq, [], []⟩,
    ⟨(some 10), .move (.tmp 58), none, .seq, [], []⟩,
    ⟨(some 11), .move (.tmp 59), none, .seq, [], []⟩])
  (.seq (.seq (.region [⟨(some 60), .move (.tmp 6), none, .seq, [], []⟩,
     ⟨(some 61), .bin .neq (.tmp 60) (.const (.int .i64 0)), none, .seq, [], []⟩])
   (.cond (.tmp 61)
    (.seq (.region [⟨(some 62), .move (.tmp 6), none, .seq, [], []⟩,
      ⟨(some 63), .bin .eql (.tmp 62) (.const (.int .i64 12)), none, .seq, [], []⟩,
      ⟨(some 64), .move (.tmp 63), none, .seq, [], []⟩,
      ⟨(some 65), .move (.tmp 11), some (64, true), .seq, [], []⟩,
      ⟨(some 66), .bin .eql (.tmp 65) (.const (.int .i64 12)), some (64, true), .seq, [], []⟩,
      ⟨(some 67), .move (.tmp 66), some (64, true), .seq, [], []⟩,
      ⟨(some 68), .load (some 3) (.tmp 9), some (67, false), .seq, [], []⟩,
      ⟨(some 69), .load (some 3) (.tmp 2), some (67, false), .seq, [], []⟩,
      ⟨(some 70), .eqFlat false [.int, .int, .int] (.tmp 68) (.tmp 69), some (67, false), .seq, [], []⟩,
      ⟨(some 71), .move (.tmp 70), some (67, false), .seq, [], []⟩,
      ⟨(some 72), .move (.tmp 11), some (71, true), .seq, [], []⟩,
      ⟨(some 73), .bin .eql (.tmp 72) (.const (.int .i64 0)), some (71, true), .seq, [], []⟩,
      ⟨(some 74), .pick (.tmp 71) (.tmp 73) (.const (.bool false)), some (67, false), .seq, [], []⟩,
      ⟨(some 75), .move (.tmp 74), some (67, false), .seq, [], []⟩,
      ⟨(some 76), .move (.tmp 10), some (75, true), .seq, [], []⟩,
      ⟨(some 77), .bin .eql (.tmp 76) (.const (.int .i64 0)), some (75, true), .seq, [], []⟩,
      ⟨(some 78), .pick (.tmp 75) (.tmp 77) (.const (.bool false)), some (67, false), .seq, [], []⟩,
      ⟨(some 79), .pick (.tmp 67) (.const (.bool true)) (.tmp 78), some (64, true), .seq, [], []⟩,
      ⟨(some 80), .pick (.tmp 64) (.tmp 79) (.const (.bool false)), none, .seq, [], []⟩,
      ⟨(some 81), .move (.tmp 80), none, .seq, [], []⟩,
      ⟨(some 82), .call 17 [], some (81, true), .seq, [], []⟩,
      ⟨(some 83), .pick (.tmp 81) (.tmp 82) (.const (.bool false)), none, .seq, [], []⟩,
      ⟨(some 4), .move (.tmp 83), none, .seq, [], []⟩])
    .ret)
    .skip))
  (.seq (.region [⟨(some 84), .fieldAddr 1 (.tmp 9), none, .seq, [], []⟩,
    ⟨(some 85), .load none (.tmp 84), none, .seq, [], []⟩,
    ⟨(some 86), .fieldAddr 1 (.tmp 2), none, .seq, [], []⟩,
    ⟨(some 87), .load none (.tmp 86), none, .seq, [], []⟩,
    ⟨(some 88), .bin .eql (.tmp 85) (.tmp 87), none, .seq, [], []⟩,
    ⟨(some 89), .move (.tmp 88), none, .seq, [], []⟩,
    ⟨(some 90), .fieldAddr 2 (.tmp 9), some (89, true), .seq, [], []⟩,
    ⟨(some 91), .load none (.tmp 90), some (89, true), .seq, [], []⟩,
    ⟨(some 92), .fieldAddr 2 (.tmp 2), some (89, true), .seq, [], []⟩,
    ⟨(some 93), .load none (.tmp 92), some (89, true), .seq, [], []⟩,
    ⟨(some 94), .bin .eql (.tmp 91) (.tmp 93), some (89, true), .seq, [], []⟩,
    ⟨(some 95), .pick (.tmp 89) (.tmp 94) (.const (.bool false)), none, .seq, [], []⟩,
    ⟨(some 96), .move (.tmp 95), none, .seq, [], []⟩,
    ⟨(some 97), .fieldAddr 1 (.tmp 2), some (96, false), .seq, [], []⟩,
    ⟨(some 98), .load none (.tmp 97), some (96, false), .seq, [], []⟩,
    ⟨(some 99), .bin .eql (.tmp 98) (.const (.int .i64 2)), some (96, false), .seq, [], []⟩,
    ⟨(some 100), .move (.tmp 99), some (96, false), .seq, [], []⟩,
    ⟨(some 101), .fieldAddr 2 (.tmp 2), some (100, true), .seq, [], []⟩,
    ⟨(some 102), .load none (.tmp 101), some (100, true), .seq, [], []⟩,
    ⟨(some 103), .bin .eql (.tmp 102) (.const (.int .i64 29)), some (100, true), .seq, [], []⟩,
    ⟨(some 104), .pick (.tmp 100) (.tmp 103) (.const (.bool false)), some (96, false), .seq, [], []⟩,
    ⟨(some 105), .move (.tmp 104), some (96, false), .seq, [], []⟩,
    ⟨(some 106), .fieldAddr 1 (.tmp 9), some (105, true), .seq, [], []⟩,
    ⟨(some 107), .load none (.tmp 106), some (105, true), .seq, [], []⟩,
    ⟨(some 108), .bin .eql (.tmp 107) (.const (.int .i64 3)), some (105, true), .seq, [], []⟩,
    ⟨(some 109), .pick (.tmp 105) (.tmp 108) (.const (.bool false)), some (96, false), .seq, [], []⟩,
    ⟨(some 110), .move (.tmp 109), some (96, false), .seq, [], []⟩,
    ⟨(some 111), .fieldAddr 2 (.tmp 9), some (110, true), .seq, [], []⟩,
    ⟨(some 112), .load none (.tmp 111), some (110, true), .seq, [], []⟩,
    ⟨(some 113), .bin .eql (.tmp 112) (.const (.int .i64 1)), some (110, true), .seq, [], []⟩,
    ⟨(some 114), .pick (.tmp 110) (.tmp 113) (.const (.bool false)), some (96, false), .seq, [], []⟩,
    ⟨(some 115), .move (.tmp 114), some (96, false), .seq, [], []⟩,
    ⟨(some 116), .fieldAddr 0 (.tmp 9), some (115, true), .seq, [], []⟩,
    ⟨(some 117), .load none (.tmp 116), some (115, true), .seq, [], []⟩,
    ⟨(some 118), .call 47 [(.tmp 117), (.const (.int .i64 2))], some (115, true), .seq, [], []⟩,
    ⟨(some 119), .bin .eql (.tmp 118) (.const (.int .i64 28)), some (115, true), .seq, [], []⟩,
    ⟨(some 120), .pick (.tmp 115) (.tmp 119) (.const (.bool false)), some (96, false), .seq, [], []⟩,
    ⟨(some 121), .pick (.tmp 96) (.const (.bool true)) (.tmp 120), none, .seq, [], []⟩,
    ⟨(some 12), .move (.tmp 121), none, .seq, [], []⟩])
  (.seq (.seq (.region [⟨(some 122), .move (.tmp 12), none, .seq, [], []⟩])
   (.cond (.tmp 122)
    (.seq (.region [⟨(some 123), .move (.tmp 11), none, .seq, [], []⟩,
      ⟨(some 124), .bin .eql (.tmp 123) (.const (.int .i64 0)), none, .seq, [], []⟩,
      ⟨(some 125), .move (.tmp 124), none, .seq, [], []⟩,
      ⟨(some 126), .move (.tmp 10), some (125, true), .seq, [], []⟩,
      ⟨(some 127), .move (.tmp 5), some (125, true), .seq, [], []⟩,
      ⟨(some 128), .bin .add (.tmp 127) (.const (.int .i64 1)), some (125, true), .seq, [], []⟩,
      ⟨(some 129), .bin .eql (.tmp 126) (.tmp 128), some (125, true), .seq, [], []⟩,
      ⟨(some 130), .pick (.tmp 125) (.tmp 129) (.const (.bool false)), none, .seq, [], []⟩,
      ⟨(some 131), .move (.tmp 130), none, .seq, [], []⟩,
      ⟨(some 132), .call 17 [], some (131, true), .seq, [], []⟩,
      ⟨(some 133), .pick (.tmp 131) (.tmp 132) (.const (.bool false)), none, .seq, [], []⟩,
      ⟨(some 4), .move (.tmp 133), none, .seq, [], []⟩])
    .ret)
    .skip))
  (.seq (.region [⟨(some 134), .move (.tmp 11), none, .seq, [], []⟩,
    ⟨(some 135), .bin .eql (.tmp 134) (.const (.int .i64 0)), none, .seq, [], []⟩,
    ⟨(some 136), .move (.tmp 135), none, .seq, [], []⟩,
    ⟨(some 137), .move (.tmp 10), some (136, true), .seq, [], []⟩,
    ⟨(some 138), .move (.tmp 5), some (136, true), .seq, [], []⟩,
    ⟨(some 139), .bin .eql (.tmp 137) (.tmp 138), some (136, true), .seq, [], []⟩,
    ⟨(some 140), .pick (.tmp 136) (.tmp 139) (.const (.bool false)), none, .seq, [], []⟩,
    ⟨(some 141), .move (.tmp 140), none, .seq, [], []⟩,
    ⟨(some 142), .call 17 [], some (141, true), .seq, [], []⟩,
    ⟨(some 143), .pick (.tmp 141) (.tmp 142) (.const (.bool false)), none, .seq, [], []⟩,
    ⟨(some 4), .move (.tmp 143), none, .seq, [], []⟩])
  .ret))))))))))))⟩

/-- forecourt/forecourtlaw11.ShopKnown -/
def f15 : AFunc := ⟨0, [.tmp 0],
  (.seq (.region [⟨(some 0), .move (.const (.bool false)), none, .seq, [], []⟩])
  (.seq (.region [⟨(some 10), .call 48 [], none, .seq, [], []⟩,
    ⟨(some 1), .alloc [(.int .i64 0), (.int .i64 0), (.slice none 0 0)], none, .seq, [], []⟩,
    ⟨none, .store 3 (.tmp 1) (.tmp 10), none, .seq, [], []⟩])
  (.seq (.region [⟨(some 12), .load (some 3) (.tmp 1), none, .seq, [], []⟩,
    ⟨(some 13), .buildSlice 1 [(.int .i64 0)] 5 [(0, (.const (.int .i64 0))), (1, (.const (.int .i64 (-1)))), (2, (.const (.int .i64 2))), (3, (.const (.int .i64 (-1)))), (4, (.const (.int .i64 (-1))))], none, .seq, [], []⟩,
    ⟨(some 14), .call 18 [(.tmp 12), (.tmp 13)], none, .seq, [], []⟩,
    ⟨(some 11), .move (.tmp 14), none, .seq, [], []⟩,
    ⟨(some 15), .extract (.tmp 11) 0, none, .seq, [], []⟩,
    ⟨(some 16), .extract (.tmp 11) 1, none, .seq, [], []⟩,
    ⟨(some 2), .move (.tmp 15), none, .seq, [], []⟩,
    ⟨(some 3), .move (.tmp 16), none, .seq, [], []⟩])
  (.seq (.region [⟨(some 18), .load (some 3) (.tmp 1), none, .rd, [], []⟩,
    ⟨(some 19), .call 49 [(.const (.int .i64 0)), (.const (.int .i64 1)), (.const (.int .i64 3))], none, .ro, [], []⟩,
    ⟨(some 20), .buildSlice 3 [(.int .i64 0), (.int .i64 0), (.int .i64 0)] 1 [(0, (.tmp 19))], none, .mk, [], []⟩,
    ⟨(some 21), .call 33 [(.tmp 18), (.tmp 20)], none, .seq, [], []⟩,
    ⟨(some 17), .move (.tmp 21), none, .still, [], []⟩,
    ⟨(some 22), .extract (.tmp 17) 0, none, .still, [], []⟩,
    ⟨(some 23), .extract (.tmp 17) 1, none, .still, [], []⟩,
    ⟨(some 4), .move (.tmp 22), none, .still, [], []⟩,
    ⟨(some 5), .move (.tmp 23), none, .still, [], []⟩])
  (.seq (.region [⟨(some 25), .load (some 3) (.tmp 1), none, .seq, [], []⟩,
    ⟨(some 26), .call 33 [(.tmp 25), (.const (.slice none 0 0))], none, .seq, [], []⟩,
    ⟨(some 24), .move (.tmp 26), none, .seq, [], []⟩,
    ⟨(some 27), .extract (.tmp 24) 0, none, .seq, [], []⟩,
    ⟨(some 28), .extract (.tmp 24) 1, none, .seq, [], []⟩,
    ⟨(some 6), .move (.tmp 27), none, .seq, [], []⟩,
    ⟨(some 7), .move (.tmp 28), none, .seq, [], []⟩])
  (.seq (.region [⟨(some 30), .call 50 [(.const (.int .i64 2000)), (.const (.int .i64 2)), (.const (.int .i64 29))], none, .seq, [], []⟩,
    ⟨(some 31), .call 50 [(.const (.int .i64 2018)), (.const (.int .i64 2)), (.const (.int .i64 28))], none, .seq, [], []⟩,
    ⟨(some 32), .call 36 [(.tmp 30), (.tmp 31)], none, .seq, [], []⟩,
    ⟨(some 29), .move (.tmp 32), none, .seq, [], []⟩,
    ⟨(some 33), .extract (.tmp 29) 0, none, .seq, [], []⟩,
    ⟨(some 34), .extract (.tmp 29) 1, none, .seq, [], []⟩,
    ⟨(some 8), .move (.tmp 33), none, .seq, [], []⟩,
    ⟨(some 9), .move (.tmp 34), none, .seq, [], []⟩])
  (.seq (.region [⟨(some 35), .move (.tmp 3), none, .seq, [], []⟩,
    ⟨(some 36), .bin .eql (.tmp 35) (.const (.int .i64 3)), none, .seq, [], []⟩,
    ⟨(some 37), .move (.tmp 36), none, .seq, [], []⟩,
    ⟨(some 38), .move (.tmp 5), some (37, true), .seq, [], []⟩,
    ⟨(some 39), .bin .eql (.tmp 38) (.const (.int .i64 0)), some (37, true), .seq, [], []⟩,
    ⟨(some 40), .pick (.tmp 37) (.tmp 39) (.const (.bool false)), none, .seq, [], []⟩,
    ⟨(some 41), .move (.tmp 40), none, .seq, [], []⟩,
    ⟨(some 42), .move (.tmp 7), some (41, true), .seq, [], []⟩,
    ⟨(some 43), .bin .eql (.tmp 42) (.const (.int .i64 0)), some (41, true), .seq, [], []⟩,
    ⟨(some 44), .pick (.tmp 41) (.tmp 43) (.const (.bool false)), none, .seq, [], []⟩,
    ⟨(some 45), .move (.tmp 44), none, .seq, [], []⟩,
    ⟨(some 46), .move (.tmp 9), some (45, true), .seq, [], []⟩,
    ⟨(some 47), .bin .eql (.tmp 46) (.const (.int .i64 0)), some (45, true), .seq, [], []⟩,
    ⟨(some 48), .pick (.tmp 45) (.tmp 47) (.const (.bool false)), none, .seq, [], []⟩,
    ⟨(some 49), .move (.tmp 48), none, .seq, [], []⟩,
    ⟨(some 50), .move (.tmp 4), some (49, true), .seq, [], []⟩,
    ⟨(some 51), .bin .eql (.tmp 50) (.const (.int .i64 16)), some (49, true), .seq, [], []⟩,
    ⟨(some 52), .pick (.tmp 49) (.tmp 51) (.const (.bool false)), none, .seq, [], []⟩,
    ⟨(some 53), .move (.tmp 52), none, .seq, [], []⟩,
    ⟨(some 54), .move (.tmp 6), some (53, true), .seq, [], []⟩,
    ⟨(some 55), .bin .eql (.tmp 54) (.const (.int .i64 19)), some (53, true), .seq, [], []⟩,
    ⟨(some 56), .pick (.tmp 53) (.tmp 55) (.const (.bool false)), none, .seq, [], []⟩,
    ⟨(some 57), .move (.tmp 56), none, .seq, [], []⟩,
    ⟨(some 58), .move (.tmp 8), some (57, true), .seq, [], []⟩,
    ⟨(some 59), .bin .eql (.tmp 58) (.const (.int .i64 17)), some (57, true), .seq, [], []⟩,
    ⟨(some 60), .pick (.tmp 57) (.tmp 59) (.const (.bool false)), none, .seq, [], []⟩,
    ⟨(some 61), .move (.tmp 60), none, .seq, [], []⟩,
    ⟨(some 62), .call 17 [], some (61, true), .seq, [], []⟩,
    ⟨(some 63), .pick (.tmp 61) (.tmp 62) (.const (.bool false)), none, .seq, [], []⟩,
    ⟨(some 0), .move (.tmp 63), none, .seq, [], []⟩])
  .ret)))))))⟩

/-- forecourt/forecourtlaw11.great -/
def f16 : AFunc := ⟨1, [.tmp 2],
  (.seq (.region [⟨(some 1), .box (.tmp 0), none, .seq, [], []⟩,
    ⟨(some 2), .move (.const (.bool false)), none, .seq, [], []⟩])
  (.seq (.region [⟨(some 3), .fieldAddr 2 (.tmp 1), none, .seq, [], []⟩,
    ⟨(some 4), .load none (.tmp 3), none, .seq, [], []⟩,
    ⟨(some 5), .len .sl (.tmp 4), none, .seq, [], []⟩,
    ⟨(some 6), .bin .gtr (.tmp 5) (.const (.int .i64 30)), none, .seq, [], []⟩,
    ⟨(some 2), .move (.tmp 6), none, .seq, [], []⟩])
  .ret))⟩

def f18l0 : ACode :=
  (.keep [2, 9, 10, 54, 55, 56]
      (.seq (.region [⟨(some 57), .bin .lss (.tmp 56) (.tmp 55), none, .seq, [], []⟩])
      (.seq (.cond (.tmp 57)
        .skip
        (.exit 2))
      (.seq (.block 3
        (.seq (.region [⟨(some 58), .move (.tmp 56), none, .seq, [], []⟩,
          ⟨(some 59), .indexAddr none 1 (.tmp 54) (.tmp 56), none, .seq, [], []⟩,
          ⟨(some 60), .load none (.tmp 59), none, .seq, [], []⟩,
          ⟨(some 11), .move (.tmp 58), none, .seq, [], []⟩,
          ⟨(some 12), .move (.tmp 60), none, .seq, [], []⟩])
        (.seq (.region [⟨(some 61), .move (.tmp 12), none, .seq, [], []⟩,
          ⟨(some 62), .bin .geq (.tmp 61) (.const (.int .i64 0)), none, .seq, [], []⟩])
        (.cond (.tmp 62)
         (.seq (.region [⟨(some 63), .move (.tmp 9), none, .seq, [], []⟩,
           ⟨(some 64), .fieldAddr 2 (.tmp 2), none, .seq, [], []⟩,
           ⟨(some 65), .load none (.tmp 64), none, .seq, [], []⟩,
           ⟨(some 66), .move (.tmp 11), none, .seq, [], []⟩,
           ⟨(some 67), .indexAddr none 3 (.tmp 65) (.tmp 66), none, .seq, [], []⟩,
           ⟨(some 68), .fieldAddr 2 (.tmp 67), none, .seq, [], []⟩,
           ⟨(some 69), .load none (.tmp 68), none, .seq, [], []⟩,
           ⟨(some 70), .bin .add (.tmp 63) (.tmp 69), none, .seq, [], []⟩,
           ⟨(some 9), .move (.tmp 70), none, .seq, [], []⟩])
         (.region [⟨(some 71), .move (.tmp 12), none, .seq, [], []⟩,
          ⟨(some 72), .indexAddr (some 24) 1 (.tmp 10) (.tmp 71), none, .seq, [], []⟩,
          ⟨(some 73), .load none (.tmp 72), none, .seq, [], []⟩,
          ⟨(some 74), .bin .add (.tmp 73) (.const (.int .i64 1)), none, .seq, [], []⟩,
          ⟨(some 75), .indexAddr (some 24) 1 (.tmp 10) (.tmp 71), none, .seq, [], []⟩,
          ⟨none, .store 1 (.tmp 75) (.tmp 74), none, .seq, [], []⟩]))
         .skip))))
      (.region [⟨(some 76), .bin .add (.tmp 56) (.const (.int .i64 1)), none, .seq, [], []⟩,
       ⟨(some 56), .move (.tmp 76), none, .seq, [], []⟩])))))

def f18l1 : ACode :=
  (.keep [1, 2, 24, 25, 26]
      (.seq (.region [⟨(some 27), .bin .lss (.tmp 26) (.tmp 25), none, .seq, [], []⟩])
      (.seq (.cond (.tmp 27)
        .skip
        (.exit 0))
      (.seq (.block 1
        (.seq (.region [⟨(some 28), .move (.tmp 26), none, .seq, [], []⟩,
          ⟨(some 29), .indexAddr none 1 (.tmp 24) (.tmp 26), none, .seq, [], []⟩,
          ⟨(some 30), .load none (.tmp 29), none, .seq, [], []⟩,
          ⟨(some 7), .move (.tmp 28), none, .seq, [], []⟩,
          ⟨(some 8), .move (.tmp 30), none, .seq, [], []⟩])
        (.seq (.region [⟨(some 31), .move (.tmp 8), none, .seq, [], []⟩,
          ⟨(some 32), .bin .neq (.tmp 31) (.const (.int .i64 (-1))), none, .seq, [], []⟩,
          ⟨(some 33), .move (.tmp 32), none, .seq, [], []⟩,
          ⟨(some 34), .move (.tmp 8), some (33, true), .seq, [], []⟩,
          ⟨(some 35), .fieldAddr 2 (.tmp 2), some (33, true), .seq, [], []⟩,
          ⟨(some 36), .load none (.tmp 35), some (33, true), .seq, [], []⟩,
          ⟨(some 37), .move (.tmp 7), some (33, true), .seq, [], []⟩,
          ⟨(some 38), .indexAddr none 3 (.tmp 36) (.tmp 37), some (33, true), .seq, [], []⟩,
          ⟨(some 39), .fieldAddr 0 (.tmp 38), some (33, true), .seq, [], []⟩,
          ⟨(some 40), .load none (.tmp 39), some (33, true), .seq, [], []⟩,
          ⟨(some 41), .bin .lss (.tmp 34) (.tmp 40), some (33, true), .seq, [], []⟩,
          ⟨(some 42), .move (.tmp 41), some (33, true), .seq, [], []⟩,
          ⟨(some 43), .move (.tmp 8), some (42, false), .seq, [], []⟩,
          ⟨(some 44), .fieldAddr 2 (.tmp 2), some (42, false), .seq, [], []⟩,
          ⟨(some 45), .load none (.tmp 44), some (42, false), .seq, [], []⟩,
          ⟨(some 46), .move (.tmp 7), some (42, false), .seq, [], []⟩,
          ⟨(some 47), .indexAddr none 3 (.tmp 45) (.tmp 46), some (42, false), .seq, [], []⟩,
          ⟨(some 48), .fieldAddr 1 (.tmp 47), some (42, false), .seq, [], []⟩,
          ⟨(some 49), .load none (.tmp 48), some (42, false), .seq, [], []⟩,
          ⟨(some 50), .bin .gtr (.tmp 43) (.tmp 49), some (42, false), .seq, [], []⟩,
          ⟨(some 51), .pick (.tmp 42) (.const (.bool true)) (.tmp 50), some (33, true), .seq, [], []⟩,
          ⟨(some 52), .pick (.tmp 33) (.tmp 51) (.const (.bool false)), none, .seq, [], []⟩])
        (.cond (.tmp 52)
         (.seq (.region [⟨(some 4), .move (.const (.int .i64 0)), none, .seq, [], []⟩,
           ⟨(some 5), .move (.const (.int .i64 3)), none, .seq, [], []⟩])
         .ret)
         .skip))))
      (.region [⟨(some 53), .bin .add (.tmp 26) (.const (.int .i64 1)), none, .seq, [], []⟩,
       ⟨(some 26), .move (.tmp 53), none, .seq, [], []⟩])))))

/-- forecourt/shop.CheckPlan -/
def f18 : AFunc := ⟨2, [.tmp 4, .tmp 5],
  (.seq (.region [⟨(some 2), .box (.tmp 0), none, .seq, [], []⟩,
    ⟨(some 4), .move (.const (.int .i64 0)), none, .seq, [], []⟩,
    ⟨(some 5), .move (.const (.int .i64 0)), none, .seq, [], []⟩])
  (.seq (.seq (.region [⟨(some 13), .load (some 3) (.tmp 2), none, .seq, [], []⟩,
     ⟨(some 14), .call 20 [(.tmp 13)], none, .seq, [], []⟩,
     ⟨(some 6), .move (.tmp 14), none, .seq, [], []⟩])
   (.seq (.region [⟨(some 15), .move (.tmp 6), none, .seq, [], []⟩,
     ⟨(some 16), .bin .neq (.tmp 15) (.const (.int .i64 0)), none, .seq, [], []⟩])
   (.cond (.tmp 16)
    (.seq (.region [⟨(some 17), .move (.tmp 6), none, .seq, [], []⟩,
      ⟨(some 4), .move (.const (.int .i64 0)), none, .seq, [], []⟩,
      ⟨(some 5), .move (.tmp 17), none, .seq, [], []⟩])
    .ret)
    .skip)))
  (.seq (.seq (.region [⟨(some 18), .move (.tmp 1), none, .seq, [], []⟩,
     ⟨(some 19), .len .sl (.tmp 18), none, .seq, [], []⟩,
     ⟨(some 20), .fieldAddr 2 (.tmp 2), none, .seq, [], []⟩,
     ⟨(some 21), .load none (.tmp 20), none, .seq, [], []⟩,
     ⟨(some 22), .len .sl (.tmp 21), none, .seq, [], []⟩,
     ⟨(some 23), .bin .neq (.tmp 19) (.tmp 22), none, .seq, [], []⟩])
   (.cond (.tmp 23)
    (.seq (.region [⟨(some 4), .move (.const (.int .i64 0)), none, .seq, [], []⟩,
      ⟨(some 5), .move (.const (.int .i64 15)), none, .seq, [], []⟩])
    .ret)
    .skip))
  (.seq (.seq (.region [⟨(some 24), .move (.tmp 1), none, .seq, [], []⟩,
     ⟨(some 25), .len .sl (.tmp 24), none, .seq, [], []⟩,
     ⟨(some 26), .move (.const (.int .i64 0)), none, .seq, [], []⟩])
   (.block 0
    (.loop f18l1)))
  (.seq (.region [⟨(some 9), .move (.const (.int .i64 0)), none, .seq, [], []⟩])
  (.seq (.region [⟨(some 10), .alloc [(.int .i64 0), (.int .i64 0), (.int .i64 0), (.int .i64 0), (.int .i64 0), (.int .i64 0), (.int .i64 0), (.int .i64 0), (.int .i64 0), (.int .i64 0), (.int .i64 0), (.int .i64 0), (.int .i64 0), (.int .i64 0), (.int .i64 0), (.int .i64 0), (.int .i64 0), (.int .i64 0), (.int .i64 0), (.int .i64 0), (.int .i64 0), (.int .i64 0), (.int .i64 0), (.int .i64 0)], none, .seq, [], []⟩])
  (.seq (.seq (.region [⟨(some 54), .move (.tmp 1), none, .seq, [], []⟩,
     ⟨(some 55), .len .sl (.tmp 54), none, .seq, [], []⟩,
     ⟨(some 56), .move (.const (.int .i64 0)), none, .seq, [], []⟩])
   (.block 2
    (.loop f18l0)))
  (.seq (.seq (.region [⟨(some 77), .load (some 24) (.tmp 10), none, .seq, [], []⟩,
     ⟨(some 78), .build [(.int .i64 0), (.int .i64 0), (.int .i64 0), (.int .i64 0), (.int .i64 0), (.int .i64 0), (.int .i64 0), (.int .i64 0), (.int .i64 0), (.int .i64 0), (.int .i64 0), (.int .i64 0), (.int .i64 0), (.int .i64 0), (.int .i64 0), (.int .i64 0), (.int .i64 0), (.int .i64 0), (.int .i64 0), (.int .i64 0), (.int .i64 0), (.int .i64 0), (.int .i64 0), (.int .i64 0)] (.arr 1) [], none, .still, [], []⟩,
     ⟨(some 79), .eqFlat true [.int, .int, .int, .int, .int, .int, .int, .int, .int, .int, .int, .int, .int, .int, .int, .int, .int, .int, .int, .int, .int, .int, .int, .int] (.tmp 77) (.tmp 78), none, .still, [], []⟩,
     ⟨(some 80), .move (.tmp 79), none, .still, [], []⟩,
     ⟨(some 81), .slice (.arr 24 1) (.tmp 10) none none none, some (80, true), .mk, [], []⟩,
     ⟨(some 82), .call 51 [(.tmp 81)], some (80, true), .ro, [], []⟩,
     ⟨(some 83), .fieldAddr 1 (.tmp 2), some (80, true), .still, [], []⟩,
     ⟨(some 84), .load none (.tmp 83), some (80, true), .rd, [2, 1], []⟩,
     ⟨(some 85), .bin .gtr (.tmp 82) (.tmp 84), some (80, true), .still, [], []⟩,
     ⟨(some 86), .pick (.tmp 80) (.tmp 85) (.const (.bool false)), none, .still, [], []⟩])
   (.cond (.tmp 86)
    (.seq (.region [⟨(some 4), .move (.const (.int .i64 0)), none, .seq, [], []⟩,
      ⟨(some 5), .move (.const (.int .i64 10)), none, .seq, [], []⟩])
    .ret)
    .skip))
  (.seq (.region [⟨(some 87), .move (.tmp 9), none, .seq, [], []⟩,
    ⟨(some 4), .move (.tmp 87), none, .seq, [], []⟩,
    ⟨(some 5), .move (.const (.int .i64 0)), none, .seq, [], []⟩])
  .ret)))))))))⟩

def f19l0 : ACode :=
  (.keep [2, 7, 8, 10]
      (.seq (.seq (.region [⟨(some 90), .move (.tmp 10), none, .seq, [], []⟩,
         ⟨(some 91), .fieldAddr 0 (.tmp 2), none, .seq, [], []⟩,
         ⟨(some 92), .load none (.tmp 91), none, .seq, [], []⟩,
         ⟨(some 93), .bin .lss (.tmp 90) (.tmp 92), none, .seq, [], []⟩])
       (.cond (.tmp 93)
        .skip
        (.exit 4)))
      (.seq (.block 5
        (.seq (.region [⟨(some 96), .move (.tmp 8), none, .still, [], []⟩,
          ⟨(some 97), .move (.tmp 10), none, .still, [], []⟩,
          ⟨(some 98), .indexAddr none 1 (.tmp 96) (.tmp 97), none, .still, [], []⟩,
          ⟨(some 99), .load none (.tmp 98), none, .rd, [], []⟩,
          ⟨(some 100), .fieldAddr 1 (.tmp 2), none, .still, [], []⟩,
          ⟨(some 101), .load none (.tmp 100), none, .rd, [], []⟩,
          ⟨(some 102), .bin .gtr (.tmp 99) (.tmp 101), none, .still, [], []⟩])
        (.cond (.tmp 102)
         (.seq (.region [⟨(some 4), .move (.const (.int .i64 0)), none, .seq, [], []⟩,
           ⟨(some 5), .move (.const (.int .i64 10)), none, .seq, [], []⟩])
         .ret)
         .skip)))
      (.region [⟨(some 94), .move (.tmp 10), none, .seq, [], []⟩,
       ⟨(some 95), .bin .add (.tmp 94) (.const (.int .i64 1)), none, .seq, [], []⟩,
       ⟨(some 10), .move (.tmp 95), none, .seq, [], []⟩]))))

def f19l1 : ACode :=
  (.keep [1, 2, 7, 8, 9]
      (.seq (.seq (.region [⟨(some 62), .move (.tmp 9), none, .seq, [], []⟩,
         ⟨(some 63), .move (.tmp 1), none, .seq, [], []⟩,
         ⟨(some 64), .len .sl (.tmp 63), none, .seq, [], []⟩,
         ⟨(some 65), .bin .lss (.tmp 62) (.tmp 64), none, .seq, [], []⟩])
       (.cond (.tmp 65)
        .skip
        (.exit 2)))
      (.seq (.block 3
        (.seq (.region [⟨(some 68), .move (.tmp 1), none, .seq, [], []⟩,
          ⟨(some 69), .move (.tmp 9), none, .seq, [], []⟩,
          ⟨(some 70), .indexAddr none 1 (.tmp 68) (.tmp 69), none, .seq, [], []⟩,
          ⟨(some 71), .load none (.tmp 70), none, .seq, [], []⟩,
          ⟨(some 72), .bin .geq (.tmp 71) (.const (.int .i64 0)), none, .seq, [], []⟩])
        (.cond (.tmp 72)
         (.seq (.region [⟨(some 73), .move (.tmp 7), none, .seq, [], []⟩,
           ⟨(some 74), .fieldAddr 2 (.tmp 2), none, .seq, [], []⟩,
           ⟨(some 75), .load none (.tmp 74), none, .seq, [], []⟩,
           ⟨(some 76), .move (.tmp 9), none, .seq, [], []⟩,
           ⟨(some 77), .indexAddr none 3 (.tmp 75) (.tmp 76), none, .seq, [], []⟩,
           ⟨(some 78), .fieldAddr 2 (.tmp 77), none, .seq, [], []⟩,
           ⟨(some 79), .load none (.tmp 78), none, .seq, [], []⟩,
           ⟨(some 80), .bin .add (.tmp 73) (.tmp 79), none, .seq, [], []⟩,
           ⟨(some 7), .move (.tmp 80), none, .seq, [], []⟩])
         (.region [⟨(some 81), .move (.tmp 8), none, .seq, [], []⟩,
          ⟨(some 82), .move (.tmp 1), none, .seq, [], []⟩,
          ⟨(some 83), .move (.tmp 9), none, .seq, [], []⟩,
          ⟨(some 84), .indexAddr none 1 (.tmp 82) (.tmp 83), none, .seq, [], []⟩,
          ⟨(some 85), .load none (.tmp 84), none, .seq, [], []⟩,
          ⟨(some 86), .indexAddr none 1 (.tmp 81) (.tmp 85), none, .seq, [], []⟩,
          ⟨(some 87), .load none (.tmp 86), none, .seq, [], []⟩,
          ⟨(some 88), .bin .add (.tmp 87) (.const (.int .i64 1)), none, .seq, [], []⟩,
          ⟨(some 89), .indexAddr none 1 (.tmp 81) (.tmp 85), none, .seq, [], []⟩,
          ⟨none, .store 1 (.tmp 89) (.tmp 88), none, .seq, [], []⟩]))
         .skip)))
      (.region [⟨(some 66), .move (.tmp 9), none, .seq, [], []⟩,
       ⟨(some 67), .bin .add (.tmp 66) (.const (.int .i64 1)), none, .seq, [], []⟩,
       ⟨(some 9), .move (.tmp 67), none, .seq, [], []⟩]))))

def f19l2 : ACode :=
  (.keep [1, 2, 6]
      (.seq (.seq (.region [⟨(some 22), .move (.tmp 6), none, .seq, [], []⟩,
         ⟨(some 23), .move (.tmp 1), none, .seq, [], []⟩,
         ⟨(some 24), .len .sl (.tmp 23), none, .seq, [], []⟩,
         ⟨(some 25), .bin .lss (.tmp 22) (.tmp 24), none, .seq, [], []⟩])
       (.cond (.tmp 25)
        .skip
        (.exit 0)))
      (.seq (.block 1
        (.seq (.region [⟨(some 28), .move (.tmp 1), none, .still, [], []⟩,
          ⟨(some 29), .move (.tmp 6), none, .still, [], []⟩,
          ⟨(some 30), .indexAddr none 1 (.tmp 28) (.tmp 29), none, .still, [], []⟩,
          ⟨(some 31), .load none (.tmp 30), none, .seq, [], []⟩,
          ⟨(some 32), .bin .neq (.tmp 31) (.const (.int .i64 (-1))), none, .still, [], []⟩,
          ⟨(some 33), .move (.tmp 32), none, .still, [], []⟩,
          ⟨(some 34), .move (.tmp 1), some (33, true), .still, [], []⟩,
          ⟨(some 35), .move (.tmp 6), some (33, true), .still, [], []⟩,
          ⟨(some 36), .indexAddr none 1 (.tmp 34) (.tmp 35), some (33, true), .still, [], []⟩,
          ⟨(some 37), .load none (.tmp 36), some (33, true), .rd, [], []⟩,
          ⟨(some 38), .fieldAddr 2 (.tmp 2), some (33, true), .still, [], []⟩,
          ⟨(some 39), .load none (.tmp 38), some (33, true), .rd, [], []⟩,
          ⟨(some 40), .move (.tmp 6), some (33, true), .still, [], []⟩,
          ⟨(some 41), .indexAddr none 3 (.tmp 39) (.tmp 40), some (33, true), .still, [], []⟩,
          ⟨(some 42), .fieldAddr 0 (.tmp 41), some (33, true), .still, [], []⟩,
          ⟨(some 43), .load none (.tmp 42), some (33, true), .rd, [], []⟩,
          ⟨(some 44), .bin .lss (.tmp 37) (.tmp 43), some (33, true), .still, [], []⟩,
          ⟨(some 45), .move (.tmp 44), some (33, true), .still, [], []⟩,
          ⟨(some 46), .move (.tmp 1), some (45, false), .still, [], []⟩,
          ⟨(some 47), .move (.tmp 6), some (45, false), .still, [], []⟩,
          ⟨(some 48), .indexAddr none 1 (.tmp 46) (.tmp 47), some (45, false), .still, [], []⟩,
          ⟨(some 49), .load none (.tmp 48), some (45, false), .rd, [], []⟩,
          ⟨(some 50), .fieldAddr 2 (.tmp 2), some (45, false), .still, [], []⟩,
          ⟨(some 51), .load none (.tmp 50), some (45, false), .rd, [], []⟩,
          ⟨(some 52), .move (.tmp 6), some (45, false), .still, [], []⟩,
          ⟨(some 53), .indexAddr none 3 (.tmp 51) (.tmp 52), some (45, false), .still, [], []⟩,
          ⟨(some 54), .fieldAddr 1 (.tmp 53), some (45, false), .still, [], []⟩,
          ⟨(some 55), .load none (.tmp 54), some (45, false), .rd, [], []⟩,
          ⟨(some 56), .bin .gtr (.tmp 49) (.tmp 55), some (45, false), .still, [], []⟩,
          ⟨(some 57), .pick (.tmp 45) (.const (.bool true)) (.tmp 56), some (33, true), .still, [], []⟩,
          ⟨(some 58), .pick (.tmp 33) (.tmp 57) (.const (.bool false)), none, .still, [], []⟩])
        (.cond (.tmp 58)
         (.seq (.region [⟨(some 4), .move (.const (.int .i64 0)), none, .seq, [], []⟩,
           ⟨(some 5), .move (.const (.int .i64 3)), none, .seq, [], []⟩])
         .ret)
         .skip)))
      (.region [⟨(some 26), .move (.tmp 6), none, .seq, [], []⟩,
       ⟨(some 27), .bin .add (.tmp 26) (.const (.int .i64 1)), none, .seq, [], []⟩,
       ⟨(some 6), .move (.tmp 27), none, .seq, [], []⟩]))))

/-- forecourt/forecourtref11.CheckPlan -/
def f19 : AFunc := ⟨2, [.tmp 4, .tmp 5],
  (.seq (.region [⟨(some 2), .box (.tmp 0), none, .seq, [], []⟩,
    ⟨(some 4), .move (.const (.int .i64 0)), none, .seq, [], []⟩,
    ⟨(some 5), .move (.const (.int .i64 0)), none, .seq, [], []⟩])
  (.seq (.seq (.region [⟨(some 11), .load (some 3) (.tmp 2), none, .seq, [], []⟩,
     ⟨(some 12), .call 21 [(.tmp 11)], none, .seq, [], []⟩,
     ⟨(some 13), .bin .neq (.tmp 12) (.const (.int .i64 0)), none, .seq, [], []⟩])
   (.cond (.tmp 13)
    (.seq (.region [⟨(some 14), .load (some 3) (.tmp 2), none, .seq, [], []⟩,
      ⟨(some 15), .call 21 [(.tmp 14)], none, .seq, [], []⟩,
      ⟨(some 4), .move (.const (.int .i64 0)), none, .seq, [], []⟩,
      ⟨(some 5), .move (.tmp 15), none, .seq, [], []⟩])
    .ret)
    .skip))
  (.seq (.seq (.region [⟨(some 16), .move (.tmp 1), none, .seq, [], []⟩,
     ⟨(some 17), .len .sl (.tmp 16), none, .seq, [], []⟩,
     ⟨(some 18), .fieldAddr 2 (.tmp 2), none, .seq, [], []⟩,
     ⟨(some 19), .load none (.tmp 18), none, .seq, [], []⟩,
     ⟨(some 20), .len .sl (.tmp 19), none, .seq, [], []⟩,
     ⟨(some 21), .bin .neq (.tmp 17) (.tmp 20), none, .seq, [], []⟩])
   (.cond (.tmp 21)
    (.seq (.region [⟨(some 4), .move (.const (.int .i64 0)), none, .seq, [], []⟩,
      ⟨(some 5), .move (.const (.int .i64 15)), none, .seq, [], []⟩])
    .ret)
    .skip))
  (.seq (.seq (.region [⟨(some 6), .move (.const (.int .i64 0)), none, .seq, [], []⟩])
   (.block 0
    (.loop f19l2)))
  (.seq (.region [⟨(some 7), .move (.const (.int .i64 0)), none, .seq, [], []⟩])
  (.seq (.region [⟨(some 59), .fieldAddr 0 (.tmp 2), none, .seq, [], []⟩,
    ⟨(some 60), .load none (.tmp 59), none, .seq, [], []⟩,
    ⟨(some 61), .makeSlice 1 8 [(.int .i64 0)] (.tmp 60) (.tmp 60), none, .seq, [], []⟩,
    ⟨(some 8), .move (.tmp 61), none, .seq, [], []⟩])
  (.seq (.seq (.region [⟨(some 9), .move (.const (.int .i64 0)), none, .seq, [], []⟩])
   (.block 2
    (.loop f19l1)))
  (.seq (.seq (.region [⟨(some 10), .move (.const (.int .i64 0)), none, .seq, [], []⟩])
   (.block 4
    (.loop f19l0)))
  (.seq (.region [⟨(some 103), .move (.tmp 7), none, .seq, [], []⟩,
    ⟨(some 4), .move (.tmp 103), none, .seq, [], []⟩,
    ⟨(some 5), .move (.const (.int .i64 0)), none, .seq, [], []⟩])
  .ret)))))))))⟩

/-- forecourt/shop.CheckDay -/
def f20 : AFunc := ⟨1, [.tmp 2],
  (.seq (.region [⟨(some 1), .box (.tmp 0), none, .seq, [], []⟩,
    ⟨(some 2), .move (.const (.int .i64 0)), none, .seq, [], []⟩])
  (.seq (.block 0
    (.seq (.region [⟨(some 4), .fieldAddr 0 (.tmp 1), none, .seq, [], []⟩,
      ⟨(some 5), .load none (.tmp 4), none, .seq, [], []⟩,
      ⟨(some 6), .bin .lss (.tmp 5) (.const (.int .i64 1)), none, .seq, [], []⟩,
      ⟨(some 7), .move (.tmp 6), none, .seq, [], []⟩,
      ⟨(some 8), .fieldAddr 0 (.tmp 1), some (7, false), .seq, [], []⟩,
      ⟨(some 9), .load none (.tmp 8), some (7, false), .seq, [], []⟩,
      ⟨(some 10), .bin .gtr (.tmp 9) (.const (.int .i64 24)), some (7, false), .seq, [], []⟩,
      ⟨(some 11), .pick (.tmp 7) (.const (.bool true)) (.tmp 10), none, .seq, [], []⟩,
      ⟨(some 12), .move (.tmp 11), none, .seq, [], []⟩,
      ⟨(some 13), .fieldAddr 1 (.tmp 1), some (12, false), .seq, [], []⟩,
      ⟨(some 14), .load none (.tmp 13), some (12, false), .seq, [], []⟩,
      ⟨(some 15), .bin .lss (.tmp 14) (.const (.int .i64 0)), some (12, false), .seq, [], []⟩,
      ⟨(some 16), .pick (.tmp 12) (.const (.bool true)) (.tmp 15), none, .seq, [], []⟩,
      ⟨(some 17), .move (.tmp 16), none, .seq, [], []⟩,
      ⟨(some 18), .fieldAddr 1 (.tmp 1), some (17, false), .seq, [], []⟩,
      ⟨(some 19), .load none (.tmp 18), some (17, false), .seq, [], []⟩,
      ⟨(some 20), .bin .gtr (.tmp 19) (.const (.int .i64 4)), some (17, false), .seq, [], []⟩,
      ⟨(some 21), .pick (.tmp 17) (.const (.bool true)) (.tmp 20), none, .seq, [], []⟩,
      ⟨(some 3), .move (.tmp 21), none, .seq, [], []⟩])
    (.cond (.tmp 3)
     (.seq (.region [⟨(some 2), .move (.const (.int .i64 2)), none, .seq, [], []⟩])
     .ret)
     (.seq (.region [⟨(some 23), .fieldAddr 2 (.tmp 1), none, .seq, [], []⟩,
       ⟨(some 24), .load none (.tmp 23), none, .seq, [], []⟩,
       ⟨(some 25), .len .sl (.tmp 24), none, .seq, [], []⟩,
       ⟨(some 26), .bin .gtr (.tmp 25) (.const (.int .i64 20)), none, .seq, [], []⟩,
       ⟨(some 22), .move (.tmp 26), none, .seq, [], []⟩])
     (.cond (.tmp 22)
      (.seq (.region [⟨(some 2), .move (.const (.int .i64 6)), none, .seq, [], []⟩])
      .ret)
      (.seq (.region [⟨(some 28), .fieldAddr 2 (.tmp 1), none, .seq, [], []⟩,
        ⟨(some 29), .load none (.tmp 28), none, .seq, [], []⟩,
        ⟨(some 30), .makeFunc 53 [] [(.tmp 1)], none, .seq, [], []⟩,
        ⟨(some 31), .call 52 [(.tmp 29), (.tmp 30)], none, .seq, [], []⟩,
        ⟨(some 27), .move (.tmp 31), none, .seq, [], []⟩])
      (.cond (.tmp 27)
       (.seq (.region [⟨(some 2), .move (.const (.int .i64 3)), none, .seq, [], []⟩])
       .ret)
       .skip)))))))
  (.seq (.region [⟨(some 2), .move (.const (.int .i64 0)), none, .seq, [], []⟩])
  .ret)))⟩

def f21l0 : ACode :=
  (.keep [1, 3]
      (.seq (.seq (.region [⟨(some 27), .move (.tmp 3), none, .seq, [], []⟩,
         ⟨(some 28), .fieldAddr 2 (.tmp 1), none, .seq, [], []⟩,
         ⟨(some 29), .load none (.tmp 28), none, .seq, [], []⟩,
         ⟨(some 30), .len .sl (.tmp 29), none, .seq, [], []⟩,
         ⟨(some 31), .bin .lss (.tmp 27) (.tmp 30), none, .seq, [], []⟩])
       (.cond (.tmp 31)
        .skip
        (.exit 0)))
      (.seq (.block 1
        (.seq (.region [⟨(some 34), .fieldAddr 2 (.tmp 1), none, .seq, [], []⟩,
          ⟨(some 35), .load none (.tmp 34), none, .seq, [], []⟩,
          ⟨(some 36), .move (.tmp 3), none, .seq, [], []⟩,
          ⟨(some 37), .indexAddr none 3 (.tmp 35) (.tmp 36), none, .seq, [], []⟩,
          ⟨(some 38), .load (some 3) (.tmp 37), none, .seq, [], []⟩,
          ⟨(some 4), .alloc [(.int .i64 0), (.int .i64 0), (.int .i64 0)], none, .seq, [], []⟩,
          ⟨none, .store 3 (.tmp 4) (.tmp 38), none, .seq, [], []⟩])
        (.seq (.region [⟨(some 39), .load (some 3) (.tmp 1), none, .seq, [], []⟩,
          ⟨(some 40), .fieldAddr 0 (.tmp 4), none, .seq, [], []⟩,
          ⟨(some 41), .load none (.tmp 40), none, .seq, [], []⟩,
          ⟨(some 42), .fieldAddr 1 (.tmp 4), none, .seq, [], []⟩,
          ⟨(some 43), .load none (.tmp 42), none, .seq, [], []⟩,
          ⟨(some 44), .call 56 [(.tmp 39), (.tmp 41), (.tmp 43)], none, .seq, [], []⟩,
          ⟨(some 45), .un .not (.tmp 44), none, .seq, [], []⟩,
          ⟨(some 46), .move (.tmp 45), none, .seq, [], []⟩,
          ⟨(some 47), .fieldAddr 2 (.tmp 4), some (46, false), .seq, [], []⟩,
          ⟨(some 48), .load none (.tmp 47), some (46, false), .seq, [], []⟩,
          ⟨(some 49), .bin .lss (.tmp 48) (.const (.int .i64 0)), some (46, false), .seq, [], []⟩,
          ⟨(some 50), .pick (.tmp 46) (.const (.bool true)) (.tmp 49), none, .seq, [], []⟩,
          ⟨(some 51), .move (.tmp 50), none, .seq, [], []⟩,
          ⟨(some 52), .fieldAddr 2 (.tmp 4), some (51, false), .seq, [], []⟩,
          ⟨(some 53), .load none (.tmp 52), some (51, false), .seq, [], []⟩,
          ⟨(some 54), .bin .gtr (.tmp 53) (.const (.int .i64 1000)), some (51, false), .seq, [], []⟩,
          ⟨(some 55), .pick (.tmp 51) (.const (.bool true)) (.tmp 54), none, .seq, [], []⟩])
        (.cond (.tmp 55)
         (.seq (.region [⟨(some 2), .move (.const (.int .i64 3)), none, .seq, [], []⟩])
         .ret)
         .skip))))
      (.region [⟨(some 32), .move (.tmp 3), none, .seq, [], []⟩,
       ⟨(some 33), .bin .add (.tmp 32) (.const (.int .i64 1)), none, .seq, [], []⟩,
       ⟨(some 3), .move (.tmp 33), none, .seq, [], []⟩]))))

/-- forecourt/forecourtref11.CheckDay -/
def f21 : AFunc := ⟨1, [.tmp 2],
  (.seq (.region [⟨(some 1), .box (.tmp 0), none, .seq, [], []⟩,
    ⟨(some 2), .move (.const (.int .i64 0)), none, .seq, [], []⟩])
  (.seq (.seq (.region [⟨(some 5), .fieldAddr 0 (.tmp 1), none, .seq, [], []⟩,
     ⟨(some 6), .load none (.tmp 5), none, .seq, [], []⟩,
     ⟨(some 7), .bin .lss (.tmp 6) (.const (.int .i64 1)), none, .seq, [], []⟩,
     ⟨(some 8), .move (.tmp 7), none, .seq, [], []⟩,
     ⟨(some 9), .fieldAddr 0 (.tmp 1), some (8, false), .seq, [], []⟩,
     ⟨(some 10), .load none (.tmp 9), some (8, false), .seq, [], []⟩,
     ⟨(some 11), .bin .gtr (.tmp 10) (.const (.int .i64 24)), some (8, false), .seq, [], []⟩,
     ⟨(some 12), .pick (.tmp 8) (.const (.bool true)) (.tmp 11), none, .seq, [], []⟩,
     ⟨(some 13), .move (.tmp 12), none, .seq, [], []⟩,
     ⟨(some 14), .fieldAddr 1 (.tmp 1), some (13, false), .seq, [], []⟩,
     ⟨(some 15), .load none (.tmp 14), some (13, false), .seq, [], []⟩,
     ⟨(some 16), .bin .lss (.tmp 15) (.const (.int .i64 0)), some (13, false), .seq, [], []⟩,
     ⟨(some 17), .pick (.tmp 13) (.const (.bool true)) (.tmp 16), none, .seq, [], []⟩,
     ⟨(some 18), .move (.tmp 17), none, .seq, [], []⟩,
     ⟨(some 19), .fieldAddr 1 (.tmp 1), some (18, false), .seq, [], []⟩,
     ⟨(some 20), .load none (.tmp 19), some (18, false), .seq, [], []⟩,
     ⟨(some 21), .bin .gtr (.tmp 20) (.const (.int .i64 4)), some (18, false), .seq, [], []⟩,
     ⟨(some 22), .pick (.tmp 18) (.const (.bool true)) (.tmp 21), none, .seq, [], []⟩])
   (.cond (.tmp 22)
    (.seq (.region [⟨(some 2), .move (.const (.int .i64 2)), none, .seq, [], []⟩])
    .ret)
    .skip))
  (.seq (.seq (.region [⟨(some 23), .fieldAddr 2 (.tmp 1), none, .seq, [], []⟩,
     ⟨(some 24), .load none (.tmp 23), none, .seq, [], []⟩,
     ⟨(some 25), .len .sl (.tmp 24), none, .seq, [], []⟩,
     ⟨(some 26), .bin .gtr (.tmp 25) (.const (.int .i64 20)), none, .seq, [], []⟩])
   (.cond (.tmp 26)
    (.seq (.region [⟨(some 2), .move (.const (.int .i64 6)), none, .seq, [], []⟩])
    .ret)
    .skip))
  (.seq (.seq (.region [⟨(some 3), .move (.const (.int .i64 0)), none, .seq, [], []⟩])
   (.block 0
    (.loop f21l0)))
  (.seq (.region [⟨(some 2), .move (.const (.int .i64 0)), none, .seq, [], []⟩])
  .ret)))))⟩

def f22l0 : ACode :=
  (.keep [2, 8, 9, 10, 11, 24, 25, 26]
           (.seq (.region [⟨(some 27), .bin .lss (.tmp 26) (.tmp 25), none, .seq, [], []⟩])
           (.seq (.cond (.tmp 27)
             .skip
             (.exit 2))
           (.seq (.block 3
             (.seq (.region [⟨(some 28), .indexAddr none 1 (.tmp 24) (.tmp 26), none, .seq, [], []⟩,
               ⟨(some 29), .load none (.tmp 28), none, .seq, [], []⟩,
               ⟨(some 13), .move (.tmp 29), none, .seq, [], []⟩])
             (.seq (.region [⟨(some 30), .load (some 2) (.tmp 10), none, .rd, [], []⟩,
               ⟨(some 31), .fieldAddr 2 (.tmp 2), none, .still, [], []⟩,
               ⟨(some 32), .load none (.tmp 31), none, .rd, [], []⟩,
               ⟨(some 33), .move (.tmp 13), none, .still, [], []⟩,
               ⟨(some 34), .indexAddr none 3 (.tmp 32) (.tmp 33), none, .still, [], []⟩,
               ⟨(some 35), .load (some 3) (.tmp 34), none, .rd, [], []⟩,
               ⟨(some 36), .call 59 [(.tmp 30), (.tmp 35)], none, .seq, [], []⟩])
             (.cond (.tmp 36)
              (.region [⟨(some 37), .move (.tmp 11), none, .seq, [], []⟩,
               ⟨(some 38), .bin .add (.tmp 37) (.const (.int .i64 1)), none, .seq, [], []⟩,
               ⟨(some 11), .move (.tmp 38), none, .seq, [], []⟩])
              .skip))))
           (.region [⟨(some 39), .bin .add (.tmp 26) (.const (.int .i64 1)), none, .seq, [], []⟩,
            ⟨(some 26), .move (.tmp 39), none, .seq, [], []⟩])))))

/-- forecourt/shop.Crowd -/
def f22 : AFunc := ⟨2, [.tmp 4, .tmp 5, .tmp 6],
  (.seq (.region [⟨(some 2), .box (.tmp 0), none, .seq, [], []⟩,
    ⟨(some 3), .box (.tmp 1), none, .seq, [], []⟩,
    ⟨(some 4), .move (.const (.int .i64 0)), none, .seq, [], []⟩,
    ⟨(some 5), .move (.const (.int .i64 0)), none, .seq, [], []⟩,
    ⟨(some 6), .move (.const (.int .i64 0)), none, .seq, [], []⟩])
  (.scope
   (.seq (.seq (.region [⟨(some 14), .load (some 3) (.tmp 2), none, .seq, [], []⟩,
      ⟨(some 15), .load none (.tmp 3), none, .seq, [], []⟩,
      ⟨(some 16), .call 57 [(.tmp 14), (.tmp 15)], none, .seq, [], []⟩,
      ⟨(some 7), .move (.tmp 16), none, .seq, [], []⟩])
    (.seq (.region [⟨(some 17), .move (.tmp 7), none, .seq, [], []⟩,
      ⟨(some 18), .bin .neq (.tmp 17) (.const (.int .i64 0)), none, .seq, [], []⟩])
    (.cond (.tmp 18)
     (.seq (.region [⟨(some 19), .move (.tmp 7), none, .seq, [], []⟩,
       ⟨(some 4), .move (.const (.int .i64 0)), none, .seq, [], []⟩,
       ⟨(some 5), .move (.const (.int .i64 0)), none, .seq, [], []⟩,
       ⟨(some 6), .move (.tmp 19), none, .seq, [], []⟩])
     .ret)
     .skip)))
   (.seq (.region [⟨(some 8), .alloc [(.int .i64 0)], none, .seq, [], []⟩,
     ⟨(some 9), .alloc [(.int .i64 0)], none, .seq, [], []⟩,
     ⟨none, .store 1 (.tmp 8) (.const (.int .i64 0)), none, .seq, [], []⟩,
     ⟨none, .store 1 (.tmp 9) (.const (.int .i64 (-1))), none, .seq, [], []⟩])
   (.seq .skip
   (.seq (.seq (.region [⟨(some 20), .fieldAddr 0 (.tmp 2), none, .seq, [], []⟩,
      ⟨(some 21), .load none (.tmp 20), none, .seq, [], []⟩,
      ⟨(some 22), .call 58 [(.tmp 21)], none, .seq, [], []⟩])
    (.block 0
     (.rangeFunc (.tmp 22) [23]
      (.region [⟨(some 10), .alloc [(.int .i64 0), (.int .i64 0)], none, .seq, [], []⟩,
       ⟨none, .store 2 (.tmp 10) (.tmp 23), none, .seq, [], []⟩])
      (.block 1
       (.seq (.region [⟨(some 11), .move (.const (.int .i64 0)), none, .seq, [], []⟩])
       (.seq (.seq (.region [⟨(some 24), .load none (.tmp 3), none, .seq, [], []⟩,
          ⟨(some 25), .len .sl (.tmp 24), none, .seq, [], []⟩,
          ⟨(some 26), .move (.const (.int .i64 0)), none, .seq, [], []⟩])
        (.block 2
         (.loop f22l0)))
       (.seq (.region [⟨(some 40), .move (.tmp 11), none, .seq, [], []⟩,
         ⟨(some 41), .load (some 2) (.tmp 10), none, .seq, [], []⟩,
         ⟨(some 42), .load (some 3) (.tmp 2), none, .seq, [], []⟩,
         ⟨(some 43), .call 60 [(.tmp 41), (.tmp 42)], none, .seq, [], []⟩,
         ⟨(some 44), .bin .gtr (.tmp 40) (.tmp 43), none, .seq, [], []⟩])
       (.cond (.tmp 44)
        (.seq (.region [⟨(some 45), .fieldAddr 0 (.tmp 10), none, .still, [], []⟩,
          ⟨(some 46), .load none (.tmp 45), none, .rd, [], []⟩,
          ⟨(some 47), .fieldAddr 1 (.tmp 10), none, .still, [], []⟩,
          ⟨(some 48), .load none (.tmp 47), none, .rd, [], []⟩,
          ⟨none, .store 1 (.tmp 8) (.tmp 46), none, .on, [0], []⟩,
          ⟨none, .store 1 (.tmp 9) (.tmp 48), none, .seq, [], []⟩])
        (.exit 0))
        .skip))))))))
   (.seq (.seq (.region [⟨(some 49), .load none (.tmp 9), none, .seq, [], []⟩,
      ⟨(some 50), .bin .lss (.tmp 49) (.const (.int .i64 0)), none, .seq, [], []⟩])
    (.cond (.tmp 50)
     (.seq (.region [⟨(some 4), .move (.const (.int .i64 0)), none, .seq, [], []⟩,
       ⟨(some 5), .move (.const (.int .i64 0)), none, .seq, [], []⟩,
       ⟨(some 6), .move (.const (.int .i64 5)), none, .seq, [], []⟩])
     .ret)
     .skip))
   (.seq (.region [⟨(some 51), .load none (.tmp 8), none, .rd, [], []⟩,
     ⟨(some 52), .load none (.tmp 9), none, .rd, [], []⟩,
     ⟨(some 4), .move (.tmp 51), none, .still, [], []⟩,
     ⟨(some 5), .move (.tmp 52), none, .still, [], []⟩,
     ⟨(some 6), .move (.const (.int .i64 0)), none, .still, [], []⟩])
   .ret))))))))⟩

def f23l0 : ACode :=
  (.keep [1, 2, 7, 8, 9, 10]
                 (.seq (.seq (.region [⟨(some 31), .move (.tmp 10), none, .seq, [], []⟩,
                    ⟨(some 32), .move (.tmp 1), none, .seq, [], []⟩,
                    ⟨(some 33), .len .sl (.tmp 32), none, .seq, [], []⟩,
                    ⟨(some 34), .bin .lss (.tmp 31) (.tmp 33), none, .seq, [], []⟩])
                  (.cond (.tmp 34)
                   .skip
                   (.exit 4)))
                 (.seq (.block 5
                   (.seq (.region [⟨(some 37), .fieldAddr 2 (.tmp 2), none, .still, [], []⟩,
                     ⟨(some 38), .load none (.tmp 37), none, .rd, [], []⟩,
                     ⟨(some 39), .move (.tmp 1), none, .still, [], []⟩,
                     ⟨(some 40), .move (.tmp 10), none, .still, [], []⟩,
                     ⟨(some 41), .indexAddr none 1 (.tmp 39) (.tmp 40), none, .still, [], []⟩,
                     ⟨(some 42), .load none (.tmp 41), none, .rd, [], []⟩,
                     ⟨(some 43), .indexAddr none 3 (.tmp 38) (.tmp 42), none, .still, [], []⟩,
                     ⟨(some 44), .fieldAddr 0 (.tmp 43), none, .still, [], []⟩,
                     ⟨(some 45), .load none (.tmp 44), none, .seq, [], []⟩,
                     ⟨(some 46), .move (.tmp 7), none, .still, [], []⟩,
                     ⟨(some 47), .bin .geq (.tmp 45) (.tmp 46), none, .still, [], []⟩,
                     ⟨(some 48), .move (.tmp 47), none, .still, [], []⟩,
                     ⟨(some 49), .fieldAddr 2 (.tmp 2), some (48, true), .still, [], []⟩,
                     ⟨(some 50), .load none (.tmp 49), some (48, true), .rd, [], []⟩,
                     ⟨(some 51), .move (.tmp 1), some (48, true), .still, [], []⟩,
                     ⟨(some 52), .move (.tmp 10), some (48, true), .still, [], []⟩,
                     ⟨(some 53), .indexAddr none 1 (.tmp 51) (.tmp 52), some (48, true), .still, [], []⟩,
                     ⟨(some 54), .load none (.tmp 53), some (48, true), .rd, [], []⟩,
                     ⟨(some 55), .indexAddr none 3 (.tmp 50) (.tmp 54), some (48, true), .still, [], []⟩,
                     ⟨(some 56), .fieldAddr 1 (.tmp 55), some (48, true), .still, [], []⟩,
                     ⟨(some 57), .load none (.tmp 56), some (48, true), .seq, [], []⟩,
                     ⟨(some 58), .move (.tmp 8), some (48, true), .still, [], []⟩,
                     ⟨(some 59), .bin .leq (.tmp 57) (.tmp 58), some (48, true), .still, [], []⟩,
                     ⟨(some 60), .pick (.tmp 48) (.tmp 59) (.const (.bool false)), none, .still, [], []⟩])
                   (.cond (.tmp 60)
                    (.region [⟨(some 61), .move (.tmp 9), none, .seq, [], []⟩,
                     ⟨(some 62), .bin .add (.tmp 61) (.const (.int .i64 1)), none, .seq, [], []⟩,
                     ⟨(some 9), .move (.tmp 62), none, .seq, [], []⟩])
                    .skip)))
                 (.region [⟨(some 35), .move (.tmp 10), none, .seq, [], []⟩,
                  ⟨(some 36), .bin .add (.tmp 35) (.const (.int .i64 1)), none, .seq, [], []⟩,
                  ⟨(some 10), .move (.tmp 36), none, .seq, [], []⟩]))))

def f23l1 : ACode :=
  (.keep [1, 2, 7, 8]
           (.seq (.seq (.region [⟨(some 25), .move (.tmp 8), none, .seq, [], []⟩,
              ⟨(some 26), .fieldAddr 0 (.tmp 2), none, .seq, [], []⟩,
              ⟨(some 27), .load none (.tmp 26), none, .seq, [], []⟩,
              ⟨(some 28), .bin .lss (.tmp 25) (.tmp 27), none, .seq, [], []⟩])
            (.cond (.tmp 28)
             .skip
             (.exit 2)))
           (.seq (.block 3
             (.seq (.region [⟨(some 9), .move (.const (.int .i64 0)), none, .seq, [], []⟩])
             (.seq (.seq (.region [⟨(some 10), .move (.const (.int .i64 0)), none, .seq, [], []⟩])
              (.block 4
               (.loop f23l0)))
             (.seq (.region [⟨(some 63), .move (.tmp 9), none, .seq, [], []⟩,
               ⟨(some 64), .fieldAddr 1 (.tmp 2), none, .seq, [], []⟩,
               ⟨(some 65), .load none (.tmp 64), none, .seq, [], []⟩,
               ⟨(some 66), .move (.tmp 8), none, .seq, [], []⟩,
               ⟨(some 67), .move (.tmp 7), none, .seq, [], []⟩,
               ⟨(some 68), .bin .sub (.tmp 66) (.tmp 67), none, .seq, [], []⟩,
               ⟨(some 69), .bin .add (.tmp 68) (.const (.int .i64 1)), none, .seq, [], []⟩,
               ⟨(some 70), .bin .mul (.tmp 65) (.tmp 69), none, .seq, [], []⟩,
               ⟨(some 71), .bin .gtr (.tmp 63) (.tmp 70), none, .seq, [], []⟩])
             (.cond (.tmp 71)
              (.seq (.region [⟨(some 72), .move (.tmp 7), none, .seq, [], []⟩,
                ⟨(some 73), .move (.tmp 8), none, .seq, [], []⟩,
                ⟨(some 4), .move (.tmp 72), none, .seq, [], []⟩,
                ⟨(some 5), .move (.tmp 73), none, .seq, [], []⟩,
                ⟨(some 6), .move (.const (.int .i64 0)), none, .seq, [], []⟩])
              .ret)
              .skip)))))
           (.region [⟨(some 29), .move (.tmp 8), none, .seq, [], []⟩,
            ⟨(some 30), .bin .add (.tmp 29) (.const (.int .i64 1)), none, .seq, [], []⟩,
            ⟨(some 8), .move (.tmp 30), none, .seq, [], []⟩]))))

def f23l2 : ACode :=
  (.keep [1, 2, 7]
      (.seq (.seq (.region [⟨(some 18), .move (.tmp 7), none, .seq, [], []⟩,
         ⟨(some 19), .fieldAddr 0 (.tmp 2), none, .seq, [], []⟩,
         ⟨(some 20), .load none (.tmp 19), none, .seq, [], []⟩,
         ⟨(some 21), .bin .lss (.tmp 18) (.tmp 20), none, .seq, [], []⟩])
       (.cond (.tmp 21)
        .skip
        (.exit 0)))
      (.seq (.block 1
        (.seq (.region [⟨(some 24), .move (.tmp 7), none, .seq, [], []⟩,
          ⟨(some 8), .move (.tmp 24), none, .seq, [], []⟩])
        (.block 2
         (.loop f23l1))))
      (.region [⟨(some 22), .move (.tmp 7), none, .seq, [], []⟩,
       ⟨(some 23), .bin .add (.tmp 22) (.const (.int .i64 1)), none, .seq, [], []⟩,
       ⟨(some 7), .move (.tmp 23), none, .seq, [], []⟩]))))

/-- forecourt/forecourtref11.Crowd -/
def f23 : AFunc := ⟨2, [.tmp 4, .tmp 5, .tmp 6],
  (.seq (.region [⟨(some 2), .box (.tmp 0), none, .seq, [], []⟩,
    ⟨(some 4), .move (.const (.int .i64 0)), none, .seq, [], []⟩,
    ⟨(some 5), .move (.const (.int .i64 0)), none, .seq, [], []⟩,
    ⟨(some 6), .move (.const (.int .i64 0)), none, .seq, [], []⟩])
  (.seq (.seq (.region [⟨(some 11), .load (some 3) (.tmp 2), none, .seq, [], []⟩,
     ⟨(some 12), .move (.tmp 1), none, .seq, [], []⟩,
     ⟨(some 13), .call 61 [(.tmp 11), (.tmp 12)], none, .seq, [], []⟩,
     ⟨(some 14), .bin .neq (.tmp 13) (.const (.int .i64 0)), none, .seq, [], []⟩])
   (.cond (.tmp 14)
    (.seq (.region [⟨(some 15), .load (some 3) (.tmp 2), none, .seq, [], []⟩,
      ⟨(some 16), .move (.tmp 1), none, .seq, [], []⟩,
      ⟨(some 17), .call 61 [(.tmp 15), (.tmp 16)], none, .seq, [], []⟩,
      ⟨(some 4), .move (.const (.int .i64 0)), none, .seq, [], []⟩,
      ⟨(some 5), .move (.const (.int .i64 0)), none, .seq, [], []⟩,
      ⟨(some 6), .move (.tmp 17), none, .seq, [], []⟩])
    .ret)
    .skip))
  (.seq (.seq (.region [⟨(some 7), .move (.const (.int .i64 0)), none, .seq, [], []⟩])
   (.block 0
    (.loop f23l2)))
  (.seq (.region [⟨(some 4), .move (.const (.int .i64 0)), none, .seq, [], []⟩,
    ⟨(some 5), .move (.const (.int .i64 0)), none, .seq, [], []⟩,
    ⟨(some 6), .move (.const (.int .i64 5)), none, .seq, [], []⟩])
  .ret))))⟩

/-- forecourt/shop.Charge -/
def f24 : AFunc := ⟨2, [.tmp 4, .tmp 5],
  (.seq (.region [⟨(some 2), .box (.tmp 0), none, .seq, [], []⟩,
    ⟨(some 4), .move (.const (.slice none 0 0)), none, .seq, [], []⟩,
    ⟨(some 5), .move (.const (.int .i64 0)), none, .seq, [], []⟩])
  (.seq (.seq (.region [⟨(some 10), .load (some 3) (.tmp 2), none, .seq, [], []⟩,
     ⟨(some 11), .move (.tmp 1), none, .seq, [], []⟩,
     ⟨(some 12), .call 57 [(.tmp 10), (.tmp 11)], none, .seq, [], []⟩,
     ⟨(some 6), .move (.tmp 12), none, .seq, [], []⟩])
   (.seq (.region [⟨(some 13), .move (.tmp 6), none, .seq, [], []⟩,
     ⟨(some 14), .bin .neq (.tmp 13) (.const (.int .i64 0)), none, .seq, [], []⟩])
   (.cond (.tmp 14)
    (.seq (.region [⟨(some 15), .move (.tmp 6), none, .seq, [], []⟩,
      ⟨(some 4), .move (.const (.slice none 0 0)), none, .seq, [], []⟩,
      ⟨(some 5), .move (.tmp 15), none, .seq, [], []⟩])
    .ret)
    .skip)))
  (.seq (.region [⟨(some 17), .load (some 3) (.tmp 2), none, .seq, [], []⟩,
    ⟨(some 18), .call 62 [(.tmp 17)], none, .seq, [], []⟩,
    ⟨(some 19), .move (.tmp 1), none, .seq, [], []⟩,
    ⟨(some 20), .call 63 [(.tmp 18), (.tmp 19)], none, .seq, [], []⟩,
    ⟨(some 16), .move (.tmp 20), none, .seq, [], []⟩,
    ⟨(some 21), .extract (.tmp 16) 0, none, .seq, [], []⟩,
    ⟨(some 22), .extract (.tmp 16) 1, none, .seq, [], []⟩,
    ⟨(some 7), .move (.tmp 21), none, .seq, [], []⟩,
    ⟨(some 8), .move (.tmp 22), none, .seq, [], []⟩])
  (.seq (.seq (.region [⟨(some 23), .move (.tmp 8), none, .seq, [], []⟩,
     ⟨(some 24), .un .not (.tmp 23), none, .seq, [], []⟩])
   (.cond (.tmp 24)
    (.seq (.region [⟨(some 4), .move (.const (.slice none 0 0)), none, .seq, [], []⟩,
      ⟨(some 5), .move (.const (.int .i64 10)), none, .seq, [], []⟩])
    .ret)
    .skip))
  (.seq (.region [⟨(some 25), .move (.tmp 7), none, .seq, [], []⟩,
    ⟨(some 26), .len .sl (.tmp 25), none, .seq, [], []⟩,
    ⟨(some 27), .makeSlice 1 8 [(.int .i64 0)] (.tmp 26) (.tmp 26), none, .seq, [], []⟩,
    ⟨(some 9), .move (.tmp 27), none, .seq, [], []⟩])
  (.seq (.region [⟨(some 28), .move (.tmp 9), none, .seq, [], []⟩,
    ⟨(some 29), .move (.tmp 7), none, .seq, [], []⟩,
    ⟨(some 30), .copy 1 (.tmp 28) (.tmp 29), none, .seq, [], []⟩])
  (.seq (.region [⟨(some 31), .move (.tmp 9), none, .seq, [], []⟩,
    ⟨(some 4), .move (.tmp 31), none, .seq, [], []⟩,
    ⟨(some 5), .move (.const (.int .i64 0)), none, .seq, [], []⟩])
  .ret)))))))⟩

/-- forecourt/forecourtref11.ChargeError -/
def f25 : AFunc := ⟨2, [.tmp 4],
  (.seq (.region [⟨(some 2), .box (.tmp 0), none, .seq, [], []⟩,
    ⟨(some 4), .move (.const (.int .i64 0)), none, .seq, [], []⟩])
  (.seq (.seq (.region [⟨(some 5), .load (some 3) (.tmp 2), none, .seq, [], []⟩,
     ⟨(some 6), .move (.tmp 1), none, .seq, [], []⟩,
     ⟨(some 7), .call 61 [(.tmp 5), (.tmp 6)], none, .seq, [], []⟩,
     ⟨(some 8), .bin .neq (.tmp 7) (.const (.int .i64 0)), none, .seq, [], []⟩])
   (.cond (.tmp 8)
    (.seq (.region [⟨(some 9), .load (some 3) (.tmp 2), none, .seq, [], []⟩,
      ⟨(some 10), .move (.tmp 1), none, .seq, [], []⟩,
      ⟨(some 11), .call 61 [(.tmp 9), (.tmp 10)], none, .seq, [], []⟩,
      ⟨(some 4), .move (.tmp 11), none, .seq, [], []⟩])
    .ret)
    .skip))
  (.seq (.seq (.region [⟨(some 12), .load (some 3) (.tmp 2), none, .seq, [], []⟩,
     ⟨(some 13), .move (.tmp 1), none, .seq, [], []⟩,
     ⟨(some 14), .call 64 [(.tmp 12), (.tmp 13)], none, .seq, [], []⟩,
     ⟨(some 15), .un .not (.tmp 14), none, .seq, [], []⟩])
   (.cond (.tmp 15)
    (.seq (.region [⟨(some 4), .move (.const (.int .i64 10)), none, .seq, [], []⟩])
    .ret)
    .skip))
  (.seq (.region [⟨(some 4), .move (.const (.int .i64 0)), none, .seq, [], []⟩])
  .ret))))⟩

def f26l0 : ACode :=
  (.keep [1, 2, 9, 10]
      (.seq (.seq (.region [⟨(some 20), .move (.tmp 10), none, .seq, [], []⟩,
         ⟨(some 21), .move (.tmp 1), none, .seq, [], []⟩,
         ⟨(some 22), .len .sl (.tmp 21), none, .seq, [], []⟩,
         ⟨(some 23), .bin .lss (.tmp 20) (.tmp 22), none, .seq, [], []⟩])
       (.cond (.tmp 23)
        .skip
        (.exit 0)))
      (.seq (.block 1
        (.seq (.region [⟨(some 26), .move (.tmp 9), none, .seq, [], []⟩,
          ⟨(some 27), .move (.tmp 2), none, .seq, [], []⟩,
          ⟨(some 28), .len .sl (.tmp 27), none, .seq, [], []⟩,
          ⟨(some 29), .bin .lss (.tmp 26) (.tmp 28), none, .seq, [], []⟩,
          ⟨(some 30), .move (.tmp 29), none, .seq, [], []⟩,
          ⟨(some 31), .move (.tmp 2), some (30, true), .seq, [], []⟩,
          ⟨(some 32), .move (.tmp 9), some (30, true), .seq, [], []⟩,
          ⟨(some 33), .indexAddr none 1 (.tmp 31) (.tmp 32), some (30, true), .seq, [], []⟩,
          ⟨(some 34), .load none (.tmp 33), some (30, true), .seq, [], []⟩,
          ⟨(some 35), .move (.tmp 10), some (30, true), .seq, [], []⟩,
          ⟨(some 36), .bin .eql (.tmp 34) (.tmp 35), some (30, true), .seq, [], []⟩,
          ⟨(some 37), .pick (.tmp 30) (.tmp 36) (.const (.bool false)), none, .seq, [], []⟩,
          ⟨(some 11), .move (.tmp 37), none, .seq, [], []⟩])
        (.seq (.seq (.region [⟨(some 38), .move (.tmp 11), none, .seq, [], []⟩])
         (.cond (.tmp 38)
          (.region [⟨(some 39), .move (.tmp 9), none, .seq, [], []⟩,
           ⟨(some 40), .bin .add (.tmp 39) (.const (.int .i64 1)), none, .seq, [], []⟩,
           ⟨(some 9), .move (.tmp 40), none, .seq, [], []⟩])
          .skip))
        (.seq (.region [⟨(some 41), .move (.tmp 11), none, .seq, [], []⟩,
          ⟨(some 42), .move (.tmp 1), none, .seq, [], []⟩,
          ⟨(some 43), .move (.tmp 10), none, .seq, [], []⟩,
          ⟨(some 44), .indexAddr none 1 (.tmp 42) (.tmp 43), none, .seq, [], []⟩,
          ⟨(some 45), .load none (.tmp 44), none, .seq, [], []⟩,
          ⟨(some 46), .bin .geq (.tmp 45) (.const (.int .i64 0)), none, .seq, [], []⟩,
          ⟨(some 47), .nilEq true .bool (.tmp 41) (.tmp 46), none, .seq, [], []⟩])
        (.cond (.tmp 47)
         (.seq (.region [⟨(some 6), .move (.const (.bool false)), none, .seq, [], []⟩])
         .ret)
         .skip)))))
      (.region [⟨(some 24), .move (.tmp 10), none, .seq, [], []⟩,
       ⟨(some 25), .bin .add (.tmp 24) (.const (.int .i64 1)), none, .seq, [], []⟩,
       ⟨(some 10), .move (.tmp 25), none, .seq, [], []⟩]))))

/-- forecourt/forecourtlaw11.charges -/
def f26 : AFunc := ⟨3, [.tmp 6],
  (.seq (.region [⟨(some 3), .box (.tmp 0), none, .seq, [], []⟩,
    ⟨(some 6), .move (.const (.bool false)), none, .seq, [], []⟩])
  (.seq (.region [⟨(some 13), .load (some 3) (.tmp 3), none, .seq, [], []⟩,
    ⟨(some 14), .move (.tmp 1), none, .seq, [], []⟩,
    ⟨(some 15), .call 19 [(.tmp 13), (.tmp 14)], none, .seq, [], []⟩,
    ⟨(some 12), .move (.tmp 15), none, .seq, [], []⟩,
    ⟨(some 16), .extract (.tmp 12) 0, none, .seq, [], []⟩,
    ⟨(some 17), .extract (.tmp 12) 1, none, .seq, [], []⟩,
    ⟨(some 7), .move (.tmp 16), none, .seq, [], []⟩,
    ⟨(some 8), .move (.tmp 17), none, .seq, [], []⟩])
  (.seq (.seq (.region [⟨(some 18), .move (.tmp 8), none, .seq, [], []⟩,
     ⟨(some 19), .bin .neq (.tmp 18) (.const (.int .i64 0)), none, .seq, [], []⟩])
   (.cond (.tmp 19)
    (.seq (.region [⟨(some 6), .move (.const (.bool false)), none, .seq, [], []⟩])
    .ret)
    .skip))
  (.seq (.region [⟨(some 9), .move (.const (.int .i64 0)), none, .seq, [], []⟩])
  (.seq (.seq (.region [⟨(some 10), .move (.const (.int .i64 0)), none, .seq, [], []⟩])
   (.block 0
    (.loop f26l0)))
  (.seq (.region [⟨(some 48), .move (.tmp 9), none, .seq, [], []⟩,
    ⟨(some 49), .move (.tmp 2), none, .seq, [], []⟩,
    ⟨(some 50), .len .sl (.tmp 49), none, .seq, [], []⟩,
    ⟨(some 51), .bin .eql (.tmp 48) (.tmp 50), none, .seq, [], []⟩,
    ⟨(some 6), .move (.tmp 51), none, .seq, [], []⟩])
  .ret))))))⟩

/-- forecourt/forecourtlaw11.full -/
def f27 : AFunc := ⟨1, [.tmp 2],
  (.seq (.region [⟨(some 1), .box (.tmp 0), none, .seq, [], []⟩,
    ⟨(some 2), .move (.const (.bool false)), none, .seq, [], []⟩])
  (.seq (.region [⟨(some 3), .load (some 3) (.tmp 1), none, .seq, [], []⟩,
    ⟨(some 4), .call 21 [(.tmp 3)], none, .seq, [], []⟩,
    ⟨(some 5), .bin .eql (.tmp 4) (.const (.int .i64 0)), none, .seq, [], []⟩,
    ⟨(some 6), .move (.tmp 5), none, .seq, [], []⟩,
    ⟨(some 7), .fieldAddr 2 (.tmp 1), some (6, true), .seq, [], []⟩,
    ⟨(some 8), .load none (.tmp 7), some (6, true), .seq, [], []⟩,
    ⟨(some 9), .len .sl (.tmp 8), some (6, true), .seq, [], []⟩,
    ⟨(some 10), .bin .gtr (.tmp 9) (.const (.int .i64 8)), some (6, true), .seq, [], []⟩,
    ⟨(some 11), .pick (.tmp 6) (.tmp 10) (.const (.bool false)), none, .seq, [], []⟩,
    ⟨(some 2), .move (.tmp 11), none, .seq, [], []⟩])
  .ret))⟩

end Go.Proofs.Ytbhgncfbljkdgaa.Fn
