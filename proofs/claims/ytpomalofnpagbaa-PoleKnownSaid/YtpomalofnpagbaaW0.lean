/-
  The function that runs the chapter's examples, its abstract code in pieces. Printed by a program (Cut.main).
-/
import Derived.Test.YtpomalofnpagbaaA27
namespace Go.Proofs.Ytpomalofnpagbaa.Fn
open Go Go.Proofs.Ytpomalofnpagbaa.AI

def f15s1 : ACode :=
  (.region [⟨(some 0), .move (.const (.bool false)), none, .seq, [], []⟩])

def f15s2 : ACode :=
  (.region [⟨(some 24), .call 6 [], none, .seq, [], []⟩,
   ⟨(some 25), .call 7 [], none, .seq, [], []⟩,
   ⟨(some 26), .call 10 [(.const (.int .i64 (-5))), (.const (.int .i64 5))], none, .seq, [], []⟩,
   ⟨(some 2), .alloc [(.int .i64 0), (.slice none 0 0)], none, .seq, [], []⟩,
   ⟨(some 3), .alloc [(.int .i64 0), (.int .i64 0)], none, .seq, [], []⟩,
   ⟨(some 1), .move (.tmp 24), none, .seq, [], []⟩,
   ⟨none, .store 2 (.tmp 2) (.tmp 25), none, .seq, [], []⟩,
   ⟨none, .store 2 (.tmp 3) (.tmp 26), none, .seq, [], []⟩])

def f15s3 : ACode :=
  (.region [⟨(some 28), .move (.tmp 1), none, .seq, [], []⟩,
   ⟨(some 29), .call 8 [(.tmp 28), (.const (.int .i64 59))], none, .seq, [], []⟩,
   ⟨(some 27), .move (.tmp 29), none, .seq, [], []⟩,
   ⟨(some 30), .extract (.tmp 27) 0, none, .seq, [], []⟩,
   ⟨(some 31), .extract (.tmp 27) 1, none, .seq, [], []⟩,
   ⟨(some 4), .move (.tmp 30), none, .seq, [], []⟩,
   ⟨(some 5), .move (.tmp 31), none, .seq, [], []⟩])

def f15s4 : ACode :=
  (.region [⟨(some 33), .move (.tmp 1), none, .seq, [], []⟩,
   ⟨(some 34), .load (some 2) (.tmp 3), none, .seq, [], []⟩,
   ⟨(some 35), .call 9 [(.tmp 33), (.tmp 34), (.const (.int .i64 104))], none, .seq, [], []⟩,
   ⟨(some 32), .move (.tmp 35), none, .seq, [], []⟩,
   ⟨(some 36), .extract (.tmp 32) 0, none, .seq, [], []⟩,
   ⟨(some 37), .extract (.tmp 32) 1, none, .seq, [], []⟩,
   ⟨(some 6), .move (.tmp 36), none, .seq, [], []⟩,
   ⟨(some 7), .move (.tmp 37), none, .seq, [], []⟩])

def f15s5 : ACode :=
  (.region [⟨(some 39), .move (.tmp 1), none, .seq, [], []⟩,
   ⟨(some 40), .load (some 2) (.tmp 3), none, .seq, [], []⟩,
   ⟨(some 41), .call 11 [(.tmp 39), (.tmp 40)], none, .seq, [], []⟩,
   ⟨(some 38), .move (.tmp 41), none, .seq, [], []⟩,
   ⟨(some 42), .extract (.tmp 38) 0, none, .seq, [], []⟩,
   ⟨(some 43), .extract (.tmp 38) 1, none, .seq, [], []⟩,
   ⟨(some 8), .move (.tmp 42), none, .seq, [], []⟩,
   ⟨(some 9), .move (.tmp 43), none, .seq, [], []⟩])

def f15s6 : ACode :=
  (.region [⟨(some 45), .move (.tmp 1), none, .seq, [], []⟩,
   ⟨(some 46), .move (.tmp 1), none, .seq, [], []⟩,
   ⟨(some 47), .load (some 2) (.tmp 3), none, .seq, [], []⟩,
   ⟨(some 48), .call 37 [(.tmp 45), (.tmp 46), (.tmp 47)], none, .seq, [], []⟩,
   ⟨(some 44), .move (.tmp 48), none, .seq, [], []⟩,
   ⟨(some 49), .extract (.tmp 44) 0, none, .seq, [], []⟩,
   ⟨(some 50), .extract (.tmp 44) 1, none, .seq, [], []⟩,
   ⟨(some 10), .move (.tmp 49), none, .seq, [], []⟩,
   ⟨(some 11), .move (.tmp 50), none, .seq, [], []⟩])

def f15s7 : ACode :=
  (.region [⟨(some 52), .move (.tmp 1), none, .seq, [], []⟩,
   ⟨(some 53), .move (.tmp 1), none, .seq, [], []⟩,
   ⟨(some 54), .call 10 [(.const (.int .i64 0)), (.const (.int .i64 0))], none, .seq, [], []⟩,
   ⟨(some 55), .call 37 [(.tmp 52), (.tmp 53), (.tmp 54)], none, .seq, [], []⟩,
   ⟨(some 51), .move (.tmp 55), none, .seq, [], []⟩,
   ⟨(some 56), .extract (.tmp 51) 0, none, .seq, [], []⟩,
   ⟨(some 57), .extract (.tmp 51) 1, none, .seq, [], []⟩,
   ⟨(some 12), .move (.tmp 56), none, .seq, [], []⟩,
   ⟨(some 13), .move (.tmp 57), none, .seq, [], []⟩])

def f15s8 : ACode :=
  (.region [⟨(some 58), .load (some 2) (.tmp 2), none, .seq, [], []⟩,
   ⟨(some 59), .buildSlice 1 [(.int .i64 0)] 3 [(0, (.const (.int .i64 0))), (1, (.const (.int .i64 1))), (2, (.const (.int .i64 0)))], none, .seq, [], []⟩,
   ⟨(some 60), .buildSlice 1 [(.int .i64 0)] 3 [(0, (.const (.int .i64 1))), (1, (.const (.int .i64 0))), (2, (.const (.int .i64 0)))], none, .seq, [], []⟩,
   ⟨(some 61), .buildSlice 1 [(.slice none 0 0)] 2 [(0, (.tmp 59)), (1, (.tmp 60))], none, .seq, [], []⟩,
   ⟨(some 62), .call 12 [(.tmp 58), (.tmp 61)], none, .seq, [], []⟩,
   ⟨(some 14), .move (.tmp 62), none, .seq, [], []⟩])

def f15s9 : ACode :=
  (.region [⟨(some 63), .load (some 2) (.tmp 2), none, .seq, [], []⟩,
   ⟨(some 64), .buildSlice 1 [(.int .i64 0)] 3 [(0, (.const (.int .i64 1))), (1, (.const (.int .i64 1))), (2, (.const (.int .i64 0)))], none, .seq, [], []⟩,
   ⟨(some 65), .buildSlice 1 [(.int .i64 0)] 3 [(0, (.const (.int .i64 0))), (1, (.const (.int .i64 0))), (2, (.const (.int .i64 0)))], none, .seq, [], []⟩,
   ⟨(some 66), .buildSlice 1 [(.slice none 0 0)] 2 [(0, (.tmp 64)), (1, (.tmp 65))], none, .seq, [], []⟩,
   ⟨(some 67), .call 12 [(.tmp 63), (.tmp 66)], none, .seq, [], []⟩,
   ⟨(some 15), .move (.tmp 67), none, .seq, [], []⟩])

def f15s10 : ACode :=
  (.region [⟨(some 69), .load (some 2) (.tmp 2), none, .seq, [], []⟩,
   ⟨(some 70), .call 23 [(.tmp 69)], none, .seq, [], []⟩,
   ⟨(some 68), .move (.tmp 70), none, .seq, [], []⟩,
   ⟨(some 71), .extract (.tmp 68) 0, none, .seq, [], []⟩,
   ⟨(some 72), .extract (.tmp 68) 1, none, .seq, [], []⟩,
   ⟨(some 16), .move (.tmp 71), none, .seq, [], []⟩,
   ⟨(some 17), .move (.tmp 72), none, .seq, [], []⟩])

def f15s11 : ACode :=
  (.region [⟨(some 74), .load (some 2) (.tmp 2), none, .seq, [], []⟩,
   ⟨(some 75), .call 38 [(.tmp 74), (.const (.int .i64 0)), (.const (.int .i64 2)), (.const (.bool true))], none, .seq, [], []⟩,
   ⟨(some 73), .move (.tmp 75), none, .seq, [], []⟩,
   ⟨(some 76), .extract (.tmp 73) 0, none, .seq, [], []⟩,
   ⟨(some 77), .extract (.tmp 73) 1, none, .seq, [], []⟩,
   ⟨(some 18), .move (.tmp 76), none, .seq, [], []⟩,
   ⟨(some 19), .move (.tmp 77), none, .seq, [], []⟩])

def f15s12 : ACode :=
  (.region [⟨(some 79), .load (some 2) (.tmp 2), none, .seq, [], []⟩,
   ⟨(some 80), .call 38 [(.tmp 79), (.const (.int .i64 1)), (.const (.int .i64 2)), (.const (.bool true))], none, .seq, [], []⟩,
   ⟨(some 78), .move (.tmp 80), none, .seq, [], []⟩,
   ⟨(some 81), .extract (.tmp 78) 0, none, .seq, [], []⟩,
   ⟨(some 82), .extract (.tmp 78) 1, none, .seq, [], []⟩,
   ⟨(some 20), .move (.tmp 81), none, .seq, [], []⟩,
   ⟨(some 21), .move (.tmp 82), none, .seq, [], []⟩])

def f15s13 : ACode :=
  (.region [⟨(some 84), .load (some 2) (.tmp 2), none, .seq, [], []⟩,
   ⟨(some 85), .call 19 [(.tmp 84)], none, .seq, [], []⟩,
   ⟨(some 83), .move (.tmp 85), none, .seq, [], []⟩,
   ⟨(some 86), .extract (.tmp 83) 0, none, .seq, [], []⟩,
   ⟨(some 87), .extract (.tmp 83) 1, none, .seq, [], []⟩,
   ⟨(some 22), .move (.tmp 86), none, .seq, [], []⟩,
   ⟨(some 23), .move (.tmp 87), none, .seq, [], []⟩])

def f15s14 : ACode :=
  (.region [⟨(some 88), .move (.tmp 5), none, .seq, [], []⟩,
   ⟨(some 89), .bin .eql (.tmp 88) (.const (.int .i64 0)), none, .seq, [], []⟩,
   ⟨(some 90), .move (.tmp 89), none, .seq, [], []⟩,
   ⟨(some 91), .move (.tmp 7), some (90, true), .seq, [], []⟩,
   ⟨(some 92), .bin .eql (.tmp 91) (.const (.int .i64 0)), some (90, true), .seq, [], []⟩,
   ⟨(some 93), .pick (.tmp 90) (.tmp 92) (.const (.bool false)), none, .seq, [], []⟩,
   ⟨(some 94), .move (.tmp 93), none, .seq, [], []⟩,
   ⟨(some 95), .move (.tmp 9), some (94, true), .seq, [], []⟩,
   ⟨(some 96), .bin .eql (.tmp 95) (.const (.int .i64 0)), some (94, true), .seq, [], []⟩,
   ⟨(some 97), .pick (.tmp 94) (.tmp 96) (.const (.bool false)), none, .seq, [], []⟩,
   ⟨(some 98), .move (.tmp 97), none, .seq, [], []⟩,
   ⟨(some 99), .move (.tmp 11), some (98, true), .seq, [], []⟩,
   ⟨(some 100), .bin .eql (.tmp 99) (.const (.int .i64 0)), some (98, true), .seq, [], []⟩,
   ⟨(some 101), .pick (.tmp 98) (.tmp 100) (.const (.bool false)), none, .seq, [], []⟩,
   ⟨(some 102), .move (.tmp 101), none, .seq, [], []⟩,
   ⟨(some 103), .move (.tmp 13), some (102, true), .seq, [], []⟩,
   ⟨(some 104), .bin .eql (.tmp 103) (.const (.int .i64 5)), some (102, true), .seq, [], []⟩,
   ⟨(some 105), .pick (.tmp 102) (.tmp 104) (.const (.bool false)), none, .seq, [], []⟩,
   ⟨(some 106), .move (.tmp 105), none, .seq, [], []⟩,
   ⟨(some 107), .move (.tmp 14), some (106, true), .seq, [], []⟩,
   ⟨(some 108), .bin .eql (.tmp 107) (.const (.int .i64 0)), some (106, true), .seq, [], []⟩,
   ⟨(some 109), .pick (.tmp 106) (.tmp 108) (.const (.bool false)), none, .seq, [], []⟩,
   ⟨(some 110), .move (.tmp 109), none, .seq, [], []⟩,
   ⟨(some 111), .move (.tmp 15), some (110, true), .seq, [], []⟩,
   ⟨(some 112), .bin .eql (.tmp 111) (.const (.int .i64 16)), some (110, true), .seq, [], []⟩,
   ⟨(some 113), .pick (.tmp 110) (.tmp 112) (.const (.bool false)), none, .seq, [], []⟩,
   ⟨(some 114), .move (.tmp 113), none, .seq, [], []⟩,
   ⟨(some 115), .move (.tmp 17), some (114, true), .seq, [], []⟩,
   ⟨(some 116), .bin .eql (.tmp 115) (.const (.int .i64 0)), some (114, true), .seq, [], []⟩,
   ⟨(some 117), .pick (.tmp 114) (.tmp 116) (.const (.bool false)), none, .seq, [], []⟩,
   ⟨(some 118), .move (.tmp 117), none, .seq, [], []⟩,
   ⟨(some 119), .move (.tmp 19), some (118, true), .seq, [], []⟩,
   ⟨(some 120), .bin .eql (.tmp 119) (.const (.int .i64 0)), some (118, true), .seq, [], []⟩,
   ⟨(some 121), .pick (.tmp 118) (.tmp 120) (.const (.bool false)), none, .seq, [], []⟩,
   ⟨(some 122), .move (.tmp 121), none, .seq, [], []⟩,
   ⟨(some 123), .move (.tmp 21), some (122, true), .seq, [], []⟩,
   ⟨(some 124), .bin .eql (.tmp 123) (.const (.int .i64 5)), some (122, true), .seq, [], []⟩,
   ⟨(some 125), .pick (.tmp 122) (.tmp 124) (.const (.bool false)), none, .seq, [], []⟩,
   ⟨(some 126), .move (.tmp 125), none, .seq, [], []⟩,
   ⟨(some 127), .move (.tmp 23), some (126, true), .seq, [], []⟩,
   ⟨(some 128), .bin .eql (.tmp 127) (.const (.int .i64 0)), some (126, true), .seq, [], []⟩,
   ⟨(some 129), .pick (.tmp 126) (.tmp 128) (.const (.bool false)), none, .seq, [], []⟩,
   ⟨(some 130), .move (.tmp 129), none, .seq, [], []⟩,
   ⟨(some 131), .move (.tmp 4), some (130, true), .seq, [], []⟩,
   ⟨(some 132), .bin .eql (.tmp 131) (.const (.int .i64 180)), some (130, true), .seq, [], []⟩,
   ⟨(some 133), .pick (.tmp 130) (.tmp 132) (.const (.bool false)), none, .seq, [], []⟩,
   ⟨(some 134), .move (.tmp 133), none, .seq, [], []⟩,
   ⟨(some 135), .move (.tmp 6), some (134, true), .seq, [], []⟩,
   ⟨(some 136), .bin .eql (.tmp 135) (.const (.int .i64 170)), some (134, true), .seq, [], []⟩,
   ⟨(some 137), .pick (.tmp 134) (.tmp 136) (.const (.bool false)), none, .seq, [], []⟩,
   ⟨(some 138), .move (.tmp 137), none, .seq, [], []⟩,
   ⟨(some 139), .move (.tmp 8), some (138, true), .seq, [], []⟩,
   ⟨(some 140), .call 14 [(.const (.int .i64 0)), (.const (.int .i64 180))], some (138, true), .seq, [], []⟩,
   ⟨(some 141), .call 14 [(.const (.int .i64 55)), (.const (.int .i64 170))], some (138, true), .seq, [], []⟩,
   ⟨(some 142), .call 14 [(.const (.int .i64 105)), (.const (.int .i64 185))], some (138, true), .seq, [], []⟩,
   ⟨(some 143), .buildSlice 2 [(.int .i64 0), (.int .i64 0)] 3 [(0, (.tmp 140)), (1, (.tmp 141)), (2, (.tmp 142))], some (138, true), .seq, [], []⟩,
   ⟨(some 144), .call 13 [(.tmp 139), (.tmp 143)], some (138, true), .seq, [], []⟩,
   ⟨(some 145), .pick (.tmp 138) (.tmp 144) (.const (.bool false)), none, .seq, [], []⟩,
   ⟨(some 146), .move (.tmp 145), none, .seq, [], []⟩,
   ⟨(some 147), .move (.tmp 10), some (146, true), .seq, [], []⟩,
   ⟨(some 148), .bin .eql (.tmp 147) (.const (.int .i64 55)), some (146, true), .seq, [], []⟩,
   ⟨(some 149), .pick (.tmp 146) (.tmp 148) (.const (.bool false)), none, .seq, [], []⟩,
   ⟨(some 150), .move (.tmp 149), none, .seq, [], []⟩,
   ⟨(some 151), .load (some 2) (.tmp 2), some (150, true), .seq, [], []⟩,
   ⟨(some 152), .move (.tmp 16), some (150, true), .seq, [], []⟩,
   ⟨(some 153), .call 24 [(.tmp 151), (.tmp 152)], some (150, true), .seq, [], []⟩,
   ⟨(some 154), .bin .eql (.tmp 153) (.const (.int .i64 0)), some (150, true), .seq, [], []⟩,
   ⟨(some 155), .pick (.tmp 150) (.tmp 154) (.const (.bool false)), none, .seq, [], []⟩,
   ⟨(some 156), .move (.tmp 155), none, .seq, [], []⟩,
   ⟨(some 157), .move (.tmp 18), some (156, true), .seq, [], []⟩,
   ⟨(some 158), .buildSlice 1 [(.int .i64 0)] 3 [(0, (.const (.int .i64 0))), (1, (.const (.int .i64 0))), (2, (.const (.int .i64 1)))], some (156, true), .seq, [], []⟩,
   ⟨(some 159), .buildSlice 1 [(.int .i64 0)] 3 [(0, (.const (.int .i64 1))), (1, (.const (.int .i64 0))), (2, (.const (.int .i64 0)))], some (156, true), .seq, [], []⟩,
   ⟨(some 160), .buildSlice 1 [(.slice none 0 0)] 2 [(0, (.tmp 158)), (1, (.tmp 159))], some (156, true), .seq, [], []⟩,
   ⟨(some 161), .call 25 [(.tmp 157), (.tmp 160)], some (156, true), .seq, [], []⟩,
   ⟨(some 162), .pick (.tmp 156) (.tmp 161) (.const (.bool false)), none, .seq, [], []⟩,
   ⟨(some 163), .move (.tmp 162), none, .seq, [], []⟩,
   ⟨(some 164), .load (some 2) (.tmp 2), some (163, true), .seq, [], []⟩,
   ⟨(some 165), .move (.tmp 22), some (163, true), .seq, [], []⟩,
   ⟨(some 166), .call 18 [(.tmp 164), (.tmp 165)], some (163, true), .seq, [], []⟩,
   ⟨(some 167), .bin .eql (.tmp 166) (.const (.int .i64 0)), some (163, true), .seq, [], []⟩,
   ⟨(some 168), .pick (.tmp 163) (.tmp 167) (.const (.bool false)), none, .seq, [], []⟩,
   ⟨(some 0), .move (.tmp 168), none, .seq, [], []⟩])

def f15body : ACode := seqL [f15s1, f15s2] (.gc [3, 5, 6, 7, 9, 10] (.keep [1, 2, 3] (seqL [f15s3, f15s4, f15s5] (.gc [3, 5, 6, 7, 9, 10, 135] (.keep [1, 2, 3, 4, 5, 6, 7, 8, 9] (seqL [f15s6, f15s7] (.gc [5, 6, 7, 9, 135] (.keep [2, 4, 5, 6, 7, 8, 9, 10, 11, 13] (seqL [f15s8, f15s9] (.gc [5, 6, 7, 9, 135] (.keep [2, 4, 5, 6, 7, 8, 9, 10, 11, 13, 14, 15] (seqL [f15s10] (.gc [5, 6, 7, 9, 135, 978, 986, 988] (.keep [2, 4, 5, 6, 7, 8, 9, 10, 11, 13, 14, 15, 16, 17] (seqL [f15s11] (.gc [5, 6, 7, 9, 135, 978, 986, 988, 1373, 1381, 1383] (.keep [2, 4, 5, 6, 7, 8, 9, 10, 11, 13, 14, 15, 16, 17, 18, 19] (seqL [f15s12] (.gc [5, 6, 7, 9, 135, 978, 986, 988, 1373, 1381, 1383] (.keep [2, 4, 5, 6, 7, 8, 9, 10, 11, 13, 14, 15, 16, 17, 18, 19, 21] (seqL [f15s13] (.gc [5, 6, 7, 9, 135, 978, 986, 988, 1373, 1381, 1383, 1915, 1923, 1925, 2183, 2191, 2193, 2310, 2318, 2320, 2390] (.keep [2, 4, 5, 6, 7, 8, 9, 10, 11, 13, 14, 15, 16, 17, 18, 19, 21, 22, 23] (seqL [f15s14] (.ret)))))))))))))))))))))))))

def f15 : AFunc := ⟨0, [.tmp 0], f15body⟩
end Go.Proofs.Ytpomalofnpagbaa.Fn
