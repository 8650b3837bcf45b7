/-
  The function that runs the chapter's examples, its abstract code in pieces. Printed by a program (Cut.main).
-/
import Derived.Test.YtbhgncfbljkdgaaA27
namespace Go.Proofs.Ytbhgncfbljkdgaa.Fn
open Go Go.Proofs.Ytbhgncfbljkdgaa.AI

def f17s1 : ACode :=
  (.region [⟨(some 0), .move (.const (.bool false)), none, .seq, [], []⟩])

def f17s2 : ACode :=
  (.region [⟨(some 31), .call 48 [], none, .seq, [], []⟩,
   ⟨(some 1), .alloc [(.int .i64 0), (.int .i64 0), (.slice none 0 0)], none, .seq, [], []⟩,
   ⟨none, .store 3 (.tmp 1) (.tmp 31), none, .seq, [], []⟩])

def f17s3 : ACode :=
  (.region [⟨(some 33), .load (some 3) (.tmp 1), none, .seq, [], []⟩,
   ⟨(some 34), .buildSlice 1 [(.int .i64 0)] 5 [(0, (.const (.int .i64 0))), (1, (.const (.int .i64 (-1)))), (2, (.const (.int .i64 1))), (3, (.const (.int .i64 2))), (4, (.const (.int .i64 3)))], none, .seq, [], []⟩,
   ⟨(some 35), .call 18 [(.tmp 33), (.tmp 34)], none, .seq, [], []⟩,
   ⟨(some 32), .move (.tmp 35), none, .seq, [], []⟩,
   ⟨(some 36), .extract (.tmp 32) 0, none, .seq, [], []⟩,
   ⟨(some 37), .extract (.tmp 32) 1, none, .seq, [], []⟩,
   ⟨(some 2), .move (.tmp 36), none, .seq, [], []⟩,
   ⟨(some 3), .move (.tmp 37), none, .seq, [], []⟩])

def f17s4 : ACode :=
  (.region [⟨(some 39), .load (some 3) (.tmp 1), none, .seq, [], []⟩,
   ⟨(some 40), .buildSlice 1 [(.int .i64 0)] 5 [(0, (.const (.int .i64 1))), (1, (.const (.int .i64 0))), (2, (.const (.int .i64 1))), (3, (.const (.int .i64 (-1)))), (4, (.const (.int .i64 (-1))))], none, .seq, [], []⟩,
   ⟨(some 41), .call 18 [(.tmp 39), (.tmp 40)], none, .seq, [], []⟩,
   ⟨(some 38), .move (.tmp 41), none, .seq, [], []⟩,
   ⟨(some 42), .extract (.tmp 38) 0, none, .seq, [], []⟩,
   ⟨(some 43), .extract (.tmp 38) 1, none, .seq, [], []⟩,
   ⟨(some 4), .move (.tmp 42), none, .seq, [], []⟩,
   ⟨(some 5), .move (.tmp 43), none, .seq, [], []⟩])

def f17s5 : ACode :=
  (.region [⟨(some 45), .load (some 3) (.tmp 1), none, .seq, [], []⟩,
   ⟨(some 46), .buildSlice 1 [(.int .i64 0)] 4 [(0, (.const (.int .i64 0))), (1, (.const (.int .i64 2))), (2, (.const (.int .i64 3))), (3, (.const (.int .i64 4)))], none, .seq, [], []⟩,
   ⟨(some 47), .call 24 [(.tmp 45), (.tmp 46)], none, .seq, [], []⟩,
   ⟨(some 44), .move (.tmp 47), none, .seq, [], []⟩,
   ⟨(some 48), .extract (.tmp 44) 0, none, .seq, [], []⟩,
   ⟨(some 49), .extract (.tmp 44) 1, none, .seq, [], []⟩,
   ⟨(some 6), .move (.tmp 48), none, .seq, [], []⟩,
   ⟨(some 7), .move (.tmp 49), none, .seq, [], []⟩])

def f17s6 : ACode :=
  (.region [⟨(some 51), .load (some 3) (.tmp 1), none, .seq, [], []⟩,
   ⟨(some 52), .buildSlice 1 [(.int .i64 0)] 3 [(0, (.const (.int .i64 0))), (1, (.const (.int .i64 1))), (2, (.const (.int .i64 2)))], none, .seq, [], []⟩,
   ⟨(some 53), .call 24 [(.tmp 51), (.tmp 52)], none, .seq, [], []⟩,
   ⟨(some 50), .move (.tmp 53), none, .seq, [], []⟩,
   ⟨(some 54), .extract (.tmp 50) 0, none, .seq, [], []⟩,
   ⟨(some 55), .extract (.tmp 50) 1, none, .seq, [], []⟩,
   ⟨(some 8), .move (.tmp 54), none, .seq, [], []⟩,
   ⟨(some 9), .move (.tmp 55), none, .seq, [], []⟩])

def f17s7 : ACode :=
  (.region [⟨(some 57), .load (some 3) (.tmp 1), none, .seq, [], []⟩,
   ⟨(some 58), .buildSlice 1 [(.int .i64 0)] 3 [(0, (.const (.int .i64 0))), (1, (.const (.int .i64 1))), (2, (.const (.int .i64 2)))], none, .seq, [], []⟩,
   ⟨(some 59), .call 22 [(.tmp 57), (.tmp 58)], none, .seq, [], []⟩,
   ⟨(some 56), .move (.tmp 59), none, .seq, [], []⟩,
   ⟨(some 60), .extract (.tmp 56) 0, none, .seq, [], []⟩,
   ⟨(some 61), .extract (.tmp 56) 1, none, .seq, [], []⟩,
   ⟨(some 62), .extract (.tmp 56) 2, none, .seq, [], []⟩,
   ⟨(some 10), .move (.tmp 60), none, .seq, [], []⟩,
   ⟨(some 11), .move (.tmp 61), none, .seq, [], []⟩,
   ⟨(some 12), .move (.tmp 62), none, .seq, [], []⟩])

def f17s8 : ACode :=
  (.region [⟨(some 64), .load (some 3) (.tmp 1), none, .seq, [], []⟩,
   ⟨(some 65), .call 30 [(.tmp 64)], none, .seq, [], []⟩,
   ⟨(some 63), .move (.tmp 65), none, .seq, [], []⟩,
   ⟨(some 66), .extract (.tmp 63) 0, none, .seq, [], []⟩,
   ⟨(some 67), .extract (.tmp 63) 1, none, .seq, [], []⟩,
   ⟨(some 68), .extract (.tmp 63) 2, none, .seq, [], []⟩,
   ⟨(some 13), .move (.tmp 66), none, .seq, [], []⟩,
   ⟨(some 14), .move (.tmp 67), none, .seq, [], []⟩,
   ⟨(some 15), .move (.tmp 68), none, .seq, [], []⟩])

def f17s9 : ACode :=
  (.region [⟨(some 70), .load (some 3) (.tmp 1), none, .seq, [], []⟩,
   ⟨(some 71), .call 28 [(.tmp 70)], none, .seq, [], []⟩,
   ⟨(some 69), .move (.tmp 71), none, .seq, [], []⟩,
   ⟨(some 72), .extract (.tmp 69) 0, none, .seq, [], []⟩,
   ⟨(some 73), .extract (.tmp 69) 1, none, .seq, [], []⟩,
   ⟨(some 16), .move (.tmp 72), none, .seq, [], []⟩,
   ⟨(some 17), .move (.tmp 73), none, .seq, [], []⟩])

def f17s10 : ACode :=
  (.region [⟨(some 75), .load (some 3) (.tmp 1), none, .rd, [], []⟩,
   ⟨(some 76), .call 49 [(.const (.int .i64 0)), (.const (.int .i64 1)), (.const (.int .i64 4))], none, .ro, [], []⟩,
   ⟨(some 77), .buildSlice 3 [(.int .i64 0), (.int .i64 0), (.int .i64 0)] 1 [(0, (.tmp 76))], none, .mk, [], []⟩,
   ⟨(some 78), .call 33 [(.tmp 75), (.tmp 77)], none, .seq, [], []⟩,
   ⟨(some 74), .move (.tmp 78), none, .still, [], []⟩,
   ⟨(some 79), .extract (.tmp 74) 0, none, .still, [], []⟩,
   ⟨(some 80), .extract (.tmp 74) 1, none, .still, [], []⟩,
   ⟨(some 18), .move (.tmp 79), none, .still, [], []⟩,
   ⟨(some 19), .move (.tmp 80), none, .still, [], []⟩])

def f17s11 : ACode :=
  (.region [⟨(some 82), .load (some 3) (.tmp 1), none, .seq, [], []⟩,
   ⟨(some 83), .call 35 [(.tmp 82)], none, .seq, [], []⟩,
   ⟨(some 81), .move (.tmp 83), none, .seq, [], []⟩,
   ⟨(some 84), .extract (.tmp 81) 0, none, .seq, [], []⟩,
   ⟨(some 85), .extract (.tmp 81) 1, none, .seq, [], []⟩,
   ⟨(some 20), .move (.tmp 84), none, .seq, [], []⟩,
   ⟨(some 21), .move (.tmp 85), none, .seq, [], []⟩])

def f17s12 : ACode :=
  (.region [⟨(some 87), .call 50 [(.const (.int .i64 2000)), (.const (.int .i64 2)), (.const (.int .i64 29))], none, .seq, [], []⟩,
   ⟨(some 88), .call 50 [(.const (.int .i64 2018)), (.const (.int .i64 3)), (.const (.int .i64 1))], none, .seq, [], []⟩,
   ⟨(some 89), .call 36 [(.tmp 87), (.tmp 88)], none, .seq, [], []⟩,
   ⟨(some 86), .move (.tmp 89), none, .seq, [], []⟩,
   ⟨(some 90), .extract (.tmp 86) 0, none, .seq, [], []⟩,
   ⟨(some 91), .extract (.tmp 86) 1, none, .seq, [], []⟩,
   ⟨(some 22), .move (.tmp 90), none, .seq, [], []⟩,
   ⟨(some 23), .move (.tmp 91), none, .seq, [], []⟩])

def f17s13 : ACode :=
  (.region [⟨(some 93), .build [(.int .i64 0), (.int .i64 0)] (.list [(0, 1), (1, 1)]) [(1, (.const (.int .i64 5)))], none, .seq, [], []⟩,
   ⟨(some 94), .build [(.int .i64 0), (.int .i64 0)] (.list [(0, 1), (1, 1)]) [(0, (.const (.int .i64 2))), (1, (.const (.int .i64 10)))], none, .seq, [], []⟩,
   ⟨(some 95), .buildSlice 2 [(.int .i64 0), (.int .i64 0)] 2 [(0, (.tmp 93)), (1, (.tmp 94))], none, .seq, [], []⟩,
   ⟨(some 96), .buildSlice 1 [(.int .i64 0)] 3 [(0, (.const (.int .i64 3))), (1, (.const (.int .i64 4))), (2, (.const (.int .i64 4)))], none, .seq, [], []⟩,
   ⟨(some 97), .call 38 [(.tmp 95), (.tmp 96)], none, .seq, [], []⟩,
   ⟨(some 92), .move (.tmp 97), none, .seq, [], []⟩,
   ⟨(some 98), .extract (.tmp 92) 0, none, .seq, [], []⟩,
   ⟨(some 99), .extract (.tmp 92) 1, none, .seq, [], []⟩,
   ⟨(some 100), .extract (.tmp 92) 2, none, .seq, [], []⟩,
   ⟨(some 24), .move (.tmp 98), none, .seq, [], []⟩,
   ⟨(some 25), .move (.tmp 99), none, .seq, [], []⟩,
   ⟨(some 26), .move (.tmp 100), none, .seq, [], []⟩])

def f17s14 : ACode :=
  (.seq (.region [⟨(some 101), .move (.tmp 3), none, .seq, [], []⟩,
    ⟨(some 102), .bin .neq (.tmp 101) (.const (.int .i64 0)), none, .seq, [], []⟩,
    ⟨(some 103), .move (.tmp 102), none, .seq, [], []⟩,
    ⟨(some 104), .move (.tmp 5), some (103, false), .seq, [], []⟩,
    ⟨(some 105), .bin .neq (.tmp 104) (.const (.int .i64 10)), some (103, false), .seq, [], []⟩,
    ⟨(some 106), .pick (.tmp 103) (.const (.bool true)) (.tmp 105), none, .seq, [], []⟩,
    ⟨(some 107), .move (.tmp 106), none, .seq, [], []⟩,
    ⟨(some 108), .move (.tmp 7), some (107, false), .seq, [], []⟩,
    ⟨(some 109), .bin .neq (.tmp 108) (.const (.int .i64 0)), some (107, false), .seq, [], []⟩,
    ⟨(some 110), .pick (.tmp 107) (.const (.bool true)) (.tmp 109), none, .seq, [], []⟩,
    ⟨(some 111), .move (.tmp 110), none, .seq, [], []⟩,
    ⟨(some 112), .move (.tmp 9), some (111, false), .seq, [], []⟩,
    ⟨(some 113), .bin .neq (.tmp 112) (.const (.int .i64 10)), some (111, false), .seq, [], []⟩,
    ⟨(some 114), .pick (.tmp 111) (.const (.bool true)) (.tmp 113), none, .seq, [], []⟩,
    ⟨(some 115), .move (.tmp 114), none, .seq, [], []⟩,
    ⟨(some 116), .move (.tmp 12), some (115, false), .seq, [], []⟩,
    ⟨(some 117), .bin .neq (.tmp 116) (.const (.int .i64 0)), some (115, false), .seq, [], []⟩,
    ⟨(some 118), .pick (.tmp 115) (.const (.bool true)) (.tmp 117), none, .seq, [], []⟩,
    ⟨(some 119), .move (.tmp 118), none, .seq, [], []⟩,
    ⟨(some 120), .move (.tmp 15), some (119, false), .seq, [], []⟩,
    ⟨(some 121), .bin .neq (.tmp 120) (.const (.int .i64 0)), some (119, false), .seq, [], []⟩,
    ⟨(some 122), .pick (.tmp 119) (.const (.bool true)) (.tmp 121), none, .seq, [], []⟩,
    ⟨(some 123), .move (.tmp 122), none, .seq, [], []⟩,
    ⟨(some 124), .move (.tmp 17), some (123, false), .seq, [], []⟩,
    ⟨(some 125), .bin .neq (.tmp 124) (.const (.int .i64 0)), some (123, false), .seq, [], []⟩,
    ⟨(some 126), .pick (.tmp 123) (.const (.bool true)) (.tmp 125), none, .seq, [], []⟩,
    ⟨(some 127), .move (.tmp 126), none, .seq, [], []⟩,
    ⟨(some 128), .move (.tmp 19), some (127, false), .seq, [], []⟩,
    ⟨(some 129), .bin .neq (.tmp 128) (.const (.int .i64 0)), some (127, false), .seq, [], []⟩,
    ⟨(some 130), .pick (.tmp 127) (.const (.bool true)) (.tmp 129), none, .seq, [], []⟩,
    ⟨(some 131), .move (.tmp 130), none, .seq, [], []⟩,
    ⟨(some 132), .move (.tmp 21), some (131, false), .seq, [], []⟩,
    ⟨(some 133), .bin .neq (.tmp 132) (.const (.int .i64 0)), some (131, false), .seq, [], []⟩,
    ⟨(some 134), .pick (.tmp 131) (.const (.bool true)) (.tmp 133), none, .seq, [], []⟩,
    ⟨(some 135), .move (.tmp 134), none, .seq, [], []⟩,
    ⟨(some 136), .move (.tmp 23), some (135, false), .seq, [], []⟩,
    ⟨(some 137), .bin .neq (.tmp 136) (.const (.int .i64 0)), some (135, false), .seq, [], []⟩,
    ⟨(some 138), .pick (.tmp 135) (.const (.bool true)) (.tmp 137), none, .seq, [], []⟩,
    ⟨(some 139), .move (.tmp 138), none, .seq, [], []⟩,
    ⟨(some 140), .move (.tmp 26), some (139, false), .seq, [], []⟩,
    ⟨(some 141), .bin .neq (.tmp 140) (.const (.int .i64 0)), some (139, false), .seq, [], []⟩,
    ⟨(some 142), .pick (.tmp 139) (.const (.bool true)) (.tmp 141), none, .seq, [], []⟩])
  (.cond (.tmp 142)
   (.seq (.region [⟨(some 0), .move (.const (.bool false)), none, .seq, [], []⟩])
   .ret)
   .skip))

def f17s15 : ACode :=
  (.region [⟨(some 144), .load (some 3) (.tmp 1), none, .seq, [], []⟩,
   ⟨(some 145), .move (.tmp 13), none, .seq, [], []⟩,
   ⟨(some 146), .call 19 [(.tmp 144), (.tmp 145)], none, .seq, [], []⟩,
   ⟨(some 143), .move (.tmp 146), none, .seq, [], []⟩,
   ⟨(some 147), .extract (.tmp 143) 0, none, .seq, [], []⟩,
   ⟨(some 148), .extract (.tmp 143) 1, none, .seq, [], []⟩,
   ⟨(some 27), .move (.tmp 147), none, .seq, [], []⟩,
   ⟨(some 28), .move (.tmp 148), none, .seq, [], []⟩])

def f17s16 : ACode :=
  (.region [⟨(some 150), .load (some 3) (.tmp 1), none, .seq, [], []⟩,
   ⟨(some 151), .move (.tmp 20), none, .seq, [], []⟩,
   ⟨(some 152), .call 34 [(.tmp 150), (.tmp 151)], none, .seq, [], []⟩,
   ⟨(some 149), .move (.tmp 152), none, .seq, [], []⟩,
   ⟨(some 153), .extract (.tmp 149) 0, none, .seq, [], []⟩,
   ⟨(some 154), .extract (.tmp 149) 1, none, .seq, [], []⟩,
   ⟨(some 29), .move (.tmp 153), none, .seq, [], []⟩,
   ⟨(some 30), .move (.tmp 154), none, .seq, [], []⟩])

def f17s17 : ACode :=
  (.region [⟨(some 155), .move (.tmp 28), none, .seq, [], []⟩,
   ⟨(some 156), .bin .eql (.tmp 155) (.const (.int .i64 0)), none, .seq, [], []⟩,
   ⟨(some 157), .move (.tmp 156), none, .seq, [], []⟩,
   ⟨(some 158), .move (.tmp 30), some (157, true), .seq, [], []⟩,
   ⟨(some 159), .bin .eql (.tmp 158) (.const (.int .i64 0)), some (157, true), .seq, [], []⟩,
   ⟨(some 160), .pick (.tmp 157) (.tmp 159) (.const (.bool false)), none, .seq, [], []⟩,
   ⟨(some 161), .move (.tmp 160), none, .seq, [], []⟩,
   ⟨(some 162), .move (.tmp 27), some (161, true), .seq, [], []⟩,
   ⟨(some 163), .bin .eql (.tmp 162) (.const (.int .i64 15)), some (161, true), .seq, [], []⟩,
   ⟨(some 164), .pick (.tmp 161) (.tmp 163) (.const (.bool false)), none, .seq, [], []⟩,
   ⟨(some 165), .move (.tmp 164), none, .seq, [], []⟩,
   ⟨(some 166), .move (.tmp 29), some (165, true), .seq, [], []⟩,
   ⟨(some 167), .bin .eql (.tmp 166) (.const (.int .i64 15)), some (165, true), .seq, [], []⟩,
   ⟨(some 168), .pick (.tmp 165) (.tmp 167) (.const (.bool false)), none, .seq, [], []⟩,
   ⟨(some 169), .move (.tmp 168), none, .seq, [], []⟩,
   ⟨(some 170), .move (.tmp 2), some (169, true), .seq, [], []⟩,
   ⟨(some 171), .bin .eql (.tmp 170) (.const (.int .i64 15)), some (169, true), .seq, [], []⟩,
   ⟨(some 172), .pick (.tmp 169) (.tmp 171) (.const (.bool false)), none, .seq, [], []⟩,
   ⟨(some 173), .move (.tmp 172), none, .seq, [], []⟩,
   ⟨(some 174), .move (.tmp 6), some (173, true), .seq, [], []⟩,
   ⟨(some 175), .buildSlice 1 [(.int .i64 0)] 5 [(0, (.const (.int .i64 0))), (1, (.const (.int .i64 (-1)))), (2, (.const (.int .i64 1))), (3, (.const (.int .i64 2))), (4, (.const (.int .i64 3)))], some (173, true), .seq, [], []⟩,
   ⟨(some 176), .call 31 [(.tmp 174), (.tmp 175)], some (173, true), .seq, [], []⟩,
   ⟨(some 177), .pick (.tmp 173) (.tmp 176) (.const (.bool false)), none, .seq, [], []⟩,
   ⟨(some 178), .move (.tmp 177), none, .seq, [], []⟩,
   ⟨(some 179), .move (.tmp 10), some (178, true), .seq, [], []⟩,
   ⟨(some 180), .bin .eql (.tmp 179) (.const (.int .i64 0)), some (178, true), .seq, [], []⟩,
   ⟨(some 181), .pick (.tmp 178) (.tmp 180) (.const (.bool false)), none, .seq, [], []⟩,
   ⟨(some 182), .move (.tmp 181), none, .seq, [], []⟩,
   ⟨(some 183), .move (.tmp 11), some (182, true), .seq, [], []⟩,
   ⟨(some 184), .bin .eql (.tmp 183) (.const (.int .i64 1)), some (182, true), .seq, [], []⟩,
   ⟨(some 185), .pick (.tmp 182) (.tmp 184) (.const (.bool false)), none, .seq, [], []⟩,
   ⟨(some 186), .move (.tmp 185), none, .seq, [], []⟩,
   ⟨(some 187), .move (.tmp 14), some (186, true), .seq, [], []⟩,
   ⟨(some 188), .bin .eql (.tmp 187) (.const (.int .i64 15)), some (186, true), .seq, [], []⟩,
   ⟨(some 189), .pick (.tmp 186) (.tmp 188) (.const (.bool false)), none, .seq, [], []⟩,
   ⟨(some 190), .move (.tmp 189), none, .seq, [], []⟩,
   ⟨(some 191), .move (.tmp 16), some (190, true), .seq, [], []⟩,
   ⟨(some 192), .buildSlice 1 [(.int .i64 0)] 5 [(0, (.const (.int .i64 2))), (1, (.const (.int .i64 0))), (2, (.const (.int .i64 2))), (3, (.const (.int .i64 2))), (4, (.const (.int .i64 2)))], some (190, true), .seq, [], []⟩,
   ⟨(some 193), .call 31 [(.tmp 191), (.tmp 192)], some (190, true), .seq, [], []⟩,
   ⟨(some 194), .pick (.tmp 190) (.tmp 193) (.const (.bool false)), none, .seq, [], []⟩,
   ⟨(some 195), .move (.tmp 194), none, .seq, [], []⟩,
   ⟨(some 196), .move (.tmp 18), some (195, true), .seq, [], []⟩,
   ⟨(some 197), .bin .eql (.tmp 196) (.const (.int .i64 15)), some (195, true), .seq, [], []⟩,
   ⟨(some 198), .pick (.tmp 195) (.tmp 197) (.const (.bool false)), none, .seq, [], []⟩,
   ⟨(some 199), .move (.tmp 198), none, .seq, [], []⟩,
   ⟨(some 200), .move (.tmp 22), some (199, true), .seq, [], []⟩,
   ⟨(some 201), .bin .eql (.tmp 200) (.const (.int .i64 18)), some (199, true), .seq, [], []⟩,
   ⟨(some 202), .pick (.tmp 199) (.tmp 201) (.const (.bool false)), none, .seq, [], []⟩,
   ⟨(some 203), .move (.tmp 202), none, .seq, [], []⟩,
   ⟨(some 204), .move (.tmp 24), some (203, true), .seq, [], []⟩,
   ⟨(some 205), .bin .eql (.tmp 204) (.const (.int .i64 4)), some (203, true), .seq, [], []⟩,
   ⟨(some 206), .pick (.tmp 203) (.tmp 205) (.const (.bool false)), none, .seq, [], []⟩,
   ⟨(some 207), .move (.tmp 206), none, .seq, [], []⟩,
   ⟨(some 208), .move (.tmp 25), some (207, true), .seq, [], []⟩,
   ⟨(some 209), .bin .eql (.tmp 208) (.const (.int .i64 2)), some (207, true), .seq, [], []⟩,
   ⟨(some 210), .pick (.tmp 207) (.tmp 209) (.const (.bool false)), none, .seq, [], []⟩,
   ⟨(some 0), .move (.tmp 210), none, .seq, [], []⟩])

def f17body : ACode := seqL [f17s1, f17s2, f17s3] (.gc [6, 7] (.keep [1, 2, 3] (seqL [f17s4, f17s5] (.gc [6, 7, 162] (.keep [1, 2, 3, 5, 6, 7] (seqL [f17s6, f17s7] (.gc [6, 7, 162] (.keep [1, 2, 3, 5, 6, 7, 9, 10, 11, 12] (seqL [f17s8] (.gc [6, 7, 162, 421] (.keep [1, 2, 3, 5, 6, 7, 9, 10, 11, 12, 13, 14, 15] (seqL [f17s9] (.gc [6, 7, 162, 421, 1548] (.keep [1, 2, 3, 5, 6, 7, 9, 10, 11, 12, 13, 14, 15, 16, 17] (seqL [f17s10, f17s11] (.gc [6, 7, 162, 421, 1548, 2489] (.keep [1, 2, 3, 5, 6, 7, 9, 10, 11, 12, 13, 14, 15, 16, 17, 18, 19, 20, 21] (seqL [f17s12, f17s13, f17s14, f17s15, f17s16, f17s17] (.ret)))))))))))))))))))

def f17 : AFunc := ⟨0, [.tmp 0], f17body⟩
end Go.Proofs.Ytbhgncfbljkdgaa.Fn
