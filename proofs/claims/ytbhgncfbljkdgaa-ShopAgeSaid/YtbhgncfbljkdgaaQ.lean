/-
  The abstract code is the program's: checked by the kernel. The table. Printed by a program (Emit.lean).
-/
import Derived.Test.YtbhgncfbljkdgaaA27
import Derived.Test.YtbhgncfbljkdgaaW0
import Derived.Test.YtbhgncfbljkdgaaProg
import Derived.KernelRfl
import Derived.Test.YtbhgncfbljkdgaaP0
import Derived.Test.YtbhgncfbljkdgaaP1
import Derived.Test.YtbhgncfbljkdgaaP2
import Derived.Test.YtbhgncfbljkdgaaP3
import Derived.Test.YtbhgncfbljkdgaaP4
import Derived.Test.YtbhgncfbljkdgaaP5
namespace Go.Proofs.Ytbhgncfbljkdgaa.Fn
open Go Go.Proofs.Ytbhgncfbljkdgaa.AI

theorem ok3 : chkFunc Try.prog Try.prog.funcs[3]? f3 = true := by rw [Try.func3]; kernel_rfl
theorem ok4 : chkFunc Try.prog Try.prog.funcs[4]? f4 = true := by rw [Try.func4]; kernel_rfl
theorem ok5 : chkFunc Try.prog Try.prog.funcs[5]? f5 = true := by rw [Try.func5]; kernel_rfl
theorem ok6 : chkFunc Try.prog Try.prog.funcs[6]? f6 = true := by rw [Try.func6]; kernel_rfl
theorem ok7 : chkFunc Try.prog Try.prog.funcs[7]? f7 = true := by rw [Try.func7]; kernel_rfl
theorem ok8 : chkFunc Try.prog Try.prog.funcs[8]? f8 = true := by rw [Try.func8]; kernel_rfl
theorem ok9 : chkFunc Try.prog Try.prog.funcs[9]? f9 = true := by rw [Try.func9]; kernel_rfl
theorem ok10 : chkFunc Try.prog Try.prog.funcs[10]? f10 = true := by rw [Try.func10]; kernel_rfl
theorem ok11 : chkFunc Try.prog Try.prog.funcs[11]? f11 = true := by rw [Try.func11]; kernel_rfl
theorem ok12 : chkFunc Try.prog Try.prog.funcs[12]? f12 = true := by rw [Try.func12]; kernel_rfl
theorem ok13 : chkFunc Try.prog Try.prog.funcs[13]? f13 = true := by rw [Try.func13]; kernel_rfl
theorem ok14 : chkFunc Try.prog Try.prog.funcs[14]? f14 = true := by rw [Try.func14]; kernel_rfl
theorem ok15 : chkFunc Try.prog Try.prog.funcs[15]? f15 = true := by rw [Try.func15]; kernel_rfl
theorem ok16 : chkFunc Try.prog Try.prog.funcs[16]? f16 = true := by rw [Try.func16]; kernel_rfl
theorem ok17 : chkFunc Try.prog Try.prog.funcs[17]? f17 = true := by rw [Try.func17]; kernel_rfl
theorem ok18 : chkFunc Try.prog Try.prog.funcs[18]? f18 = true := by rw [Try.func18]; kernel_rfl
theorem ok19 : chkFunc Try.prog Try.prog.funcs[19]? f19 = true := by rw [Try.func19]; kernel_rfl
theorem ok20 : chkFunc Try.prog Try.prog.funcs[20]? f20 = true := by rw [Try.func20]; kernel_rfl
theorem ok21 : chkFunc Try.prog Try.prog.funcs[21]? f21 = true := by rw [Try.func21]; kernel_rfl
theorem ok22 : chkFunc Try.prog Try.prog.funcs[22]? f22 = true := by rw [Try.func22]; kernel_rfl
theorem ok23 : chkFunc Try.prog Try.prog.funcs[23]? f23 = true := by rw [Try.func23]; kernel_rfl
theorem ok24 : chkFunc Try.prog Try.prog.funcs[24]? f24 = true := by rw [Try.func24]; kernel_rfl
theorem ok25 : chkFunc Try.prog Try.prog.funcs[25]? f25 = true := by rw [Try.func25]; kernel_rfl
theorem ok26 : chkFunc Try.prog Try.prog.funcs[26]? f26 = true := by rw [Try.func26]; kernel_rfl
theorem ok27 : chkFunc Try.prog Try.prog.funcs[27]? f27 = true := by rw [Try.func27]; kernel_rfl
theorem ok28 : chkFunc Try.prog Try.prog.funcs[28]? f28 = true := by rw [Try.func28]; kernel_rfl
theorem ok29 : chkFunc Try.prog Try.prog.funcs[29]? f29 = true := by rw [Try.func29]; kernel_rfl
theorem ok30 : chkFunc Try.prog Try.prog.funcs[30]? f30 = true := by rw [Try.func30]; kernel_rfl
theorem ok31 : chkFunc Try.prog Try.prog.funcs[31]? f31 = true := by rw [Try.func31]; kernel_rfl
theorem ok32 : chkFunc Try.prog Try.prog.funcs[32]? f32 = true := by rw [Try.func32]; kernel_rfl
theorem ok33 : chkFunc Try.prog Try.prog.funcs[33]? f33 = true := by rw [Try.func33]; kernel_rfl
theorem ok34 : chkFunc Try.prog Try.prog.funcs[34]? f34 = true := by rw [Try.func34]; kernel_rfl
theorem ok35 : chkFunc Try.prog Try.prog.funcs[35]? f35 = true := by rw [Try.func35]; kernel_rfl
theorem ok36 : chkFunc Try.prog Try.prog.funcs[36]? f36 = true := by rw [Try.func36]; kernel_rfl
theorem ok37 : chkFunc Try.prog Try.prog.funcs[37]? f37 = true := by rw [Try.func37]; kernel_rfl
theorem ok38 : chkFunc Try.prog Try.prog.funcs[38]? f38 = true := by rw [Try.func38]; kernel_rfl
theorem ok39 : chkFunc Try.prog Try.prog.funcs[39]? f39 = true := by rw [Try.func39]; kernel_rfl
theorem ok40 : chkFunc Try.prog Try.prog.funcs[40]? f40 = true := by rw [Try.func40]; kernel_rfl
theorem ok41 : chkFunc Try.prog Try.prog.funcs[41]? f41 = true := by rw [Try.func41]; kernel_rfl
theorem ok42 : chkFunc Try.prog Try.prog.funcs[42]? f42 = true := by rw [Try.func42]; kernel_rfl
theorem ok43 : chkFunc Try.prog Try.prog.funcs[43]? f43 = true := by rw [Try.func43]; kernel_rfl
theorem ok44 : chkFunc Try.prog Try.prog.funcs[44]? f44 = true := by rw [Try.func44]; kernel_rfl
theorem ok45 : chkFunc Try.prog Try.prog.funcs[45]? f45 = true := by rw [Try.func45]; kernel_rfl
theorem ok46 : chkFunc Try.prog Try.prog.funcs[46]? f46 = true := by rw [Try.func46]; kernel_rfl
theorem ok47 : chkFunc Try.prog Try.prog.funcs[47]? f47 = true := by rw [Try.func47]; kernel_rfl
theorem ok48 : chkFunc Try.prog Try.prog.funcs[48]? f48 = true := by rw [Try.func48]; kernel_rfl
theorem ok49 : chkFunc Try.prog Try.prog.funcs[49]? f49 = true := by rw [Try.func49]; kernel_rfl
theorem ok50 : chkFunc Try.prog Try.prog.funcs[50]? f50 = true := by rw [Try.func50]; kernel_rfl
theorem ok51 : chkFunc Try.prog Try.prog.funcs[51]? f51 = true := by rw [Try.func51]; kernel_rfl
theorem ok52 : chkFunc Try.prog Try.prog.funcs[52]? f52 = true := by rw [Try.func52]; kernel_rfl
theorem ok53 : chkFunc Try.prog Try.prog.funcs[53]? f53 = true := by rw [Try.func53]; kernel_rfl
theorem ok54 : chkFunc Try.prog Try.prog.funcs[54]? f54 = true := by rw [Try.func54]; kernel_rfl
theorem ok55 : chkFunc Try.prog Try.prog.funcs[55]? f55 = true := by rw [Try.func55]; kernel_rfl
theorem ok56 : chkFunc Try.prog Try.prog.funcs[56]? f56 = true := by rw [Try.func56]; kernel_rfl
theorem ok57 : chkFunc Try.prog Try.prog.funcs[57]? f57 = true := by rw [Try.func57]; kernel_rfl
theorem ok58 : chkFunc Try.prog Try.prog.funcs[58]? f58 = true := by rw [Try.func58]; kernel_rfl
theorem ok59 : chkFunc Try.prog Try.prog.funcs[59]? f59 = true := by rw [Try.func59]; kernel_rfl
theorem ok60 : chkFunc Try.prog Try.prog.funcs[60]? f60 = true := by rw [Try.func60]; kernel_rfl
theorem ok61 : chkFunc Try.prog Try.prog.funcs[61]? f61 = true := by rw [Try.func61]; kernel_rfl
theorem ok62 : chkFunc Try.prog Try.prog.funcs[62]? f62 = true := by rw [Try.func62]; kernel_rfl
theorem ok63 : chkFunc Try.prog Try.prog.funcs[63]? f63 = true := by rw [Try.func63]; kernel_rfl
theorem ok64 : chkFunc Try.prog Try.prog.funcs[64]? f64 = true := by rw [Try.func64]; kernel_rfl
theorem ok65 : chkFunc Try.prog Try.prog.funcs[65]? f65 = true := by rw [Try.func65]; kernel_rfl
theorem ok66 : chkFunc Try.prog Try.prog.funcs[66]? f66 = true := by rw [Try.func66]; kernel_rfl
theorem ok67 : chkFunc Try.prog Try.prog.funcs[67]? f67 = true := by rw [Try.func67]; kernel_rfl
theorem ok68 : chkFunc Try.prog Try.prog.funcs[68]? f68 = true := by rw [Try.func68]; kernel_rfl
theorem ok69 : chkFunc Try.prog Try.prog.funcs[69]? f69 = true := by rw [Try.func69]; kernel_rfl
theorem ok70 : chkFunc Try.prog Try.prog.funcs[70]? f70 = true := by rw [Try.func70]; kernel_rfl
theorem ok71 : chkFunc Try.prog Try.prog.funcs[71]? f71 = true := by rw [Try.func71]; kernel_rfl
theorem ok72 : chkFunc Try.prog Try.prog.funcs[72]? f72 = true := by rw [Try.func72]; kernel_rfl
theorem ok73 : chkFunc Try.prog Try.prog.funcs[73]? f73 = true := by rw [Try.func73]; kernel_rfl
theorem ok74 : chkFunc Try.prog Try.prog.funcs[74]? f74 = true := by rw [Try.func74]; kernel_rfl
theorem ok75 : chkFunc Try.prog Try.prog.funcs[75]? f75 = true := by rw [Try.func75]; kernel_rfl
theorem ok76 : chkFunc Try.prog Try.prog.funcs[76]? f76 = true := by rw [Try.func76]; kernel_rfl
theorem ok77 : chkFunc Try.prog Try.prog.funcs[77]? f77 = true := by rw [Try.func77]; kernel_rfl
theorem ok78 : chkFunc Try.prog Try.prog.funcs[78]? f78 = true := by rw [Try.func78]; kernel_rfl
theorem ok79 : chkFunc Try.prog Try.prog.funcs[79]? f79 = true := by rw [Try.func79]; kernel_rfl
theorem ok80 : chkFunc Try.prog Try.prog.funcs[80]? f80 = true := by rw [Try.func80]; kernel_rfl
theorem ok81 : chkFunc Try.prog Try.prog.funcs[81]? f81 = true := by rw [Try.func81]; kernel_rfl
theorem ok82 : chkFunc Try.prog Try.prog.funcs[82]? f82 = true := by rw [Try.func82]; kernel_rfl
theorem ok83 : chkFunc Try.prog Try.prog.funcs[83]? f83 = true := by rw [Try.func83]; kernel_rfl
theorem ok84 : chkFunc Try.prog Try.prog.funcs[84]? f84 = true := by rw [Try.func84]; kernel_rfl
theorem ok85 : chkFunc Try.prog Try.prog.funcs[85]? f85 = true := by rw [Try.func85]; kernel_rfl
theorem ok86 : chkFunc Try.prog Try.prog.funcs[86]? f86 = true := by rw [Try.func86]; kernel_rfl
theorem ok87 : chkFunc Try.prog Try.prog.funcs[87]? f87 = true := by rw [Try.func87]; kernel_rfl
theorem ok88 : chkFunc Try.prog Try.prog.funcs[88]? f88 = true := by rw [Try.func88]; kernel_rfl
theorem ok89 : chkFunc Try.prog Try.prog.funcs[89]? f89 = true := by rw [Try.func89]; kernel_rfl
theorem ok90 : chkFunc Try.prog Try.prog.funcs[90]? f90 = true := by rw [Try.func90]; kernel_rfl
theorem ok91 : chkFunc Try.prog Try.prog.funcs[91]? f91 = true := by rw [Try.func91]; kernel_rfl
theorem ok92 : chkFunc Try.prog Try.prog.funcs[92]? f92 = true := by rw [Try.func92]; kernel_rfl
theorem ok93 : chkFunc Try.prog Try.prog.funcs[93]? f93 = true := by rw [Try.func93]; kernel_rfl
theorem ok94 : chkFunc Try.prog Try.prog.funcs[94]? f94 = true := by rw [Try.func94]; kernel_rfl
theorem ok95 : chkFunc Try.prog Try.prog.funcs[95]? f95 = true := by rw [Try.func95]; kernel_rfl
theorem ok96 : chkFunc Try.prog Try.prog.funcs[96]? f96 = true := by rw [Try.func96]; kernel_rfl
theorem ok97 : chkFunc Try.prog Try.prog.funcs[97]? f97 = true := by rw [Try.func97]; kernel_rfl
theorem ok98 : chkFunc Try.prog Try.prog.funcs[98]? f98 = true := by rw [Try.func98]; kernel_rfl
theorem ok99 : chkFunc Try.prog Try.prog.funcs[99]? f99 = true := by rw [Try.func99]; kernel_rfl
theorem ok100 : chkFunc Try.prog Try.prog.funcs[100]? f100 = true := by rw [Try.func100]; kernel_rfl
theorem ok101 : chkFunc Try.prog Try.prog.funcs[101]? f101 = true := by rw [Try.func101]; kernel_rfl
theorem ok102 : chkFunc Try.prog Try.prog.funcs[102]? f102 = true := by rw [Try.func102]; kernel_rfl
theorem ok103 : chkFunc Try.prog Try.prog.funcs[103]? f103 = true := by rw [Try.func103]; kernel_rfl
theorem ok104 : chkFunc Try.prog Try.prog.funcs[104]? f104 = true := by rw [Try.func104]; kernel_rfl
theorem ok105 : chkFunc Try.prog Try.prog.funcs[105]? f105 = true := by rw [Try.func105]; kernel_rfl
theorem ok106 : chkFunc Try.prog Try.prog.funcs[106]? f106 = true := by rw [Try.func106]; kernel_rfl
theorem ok107 : chkFunc Try.prog Try.prog.funcs[107]? f107 = true := by rw [Try.func107]; kernel_rfl
theorem ok108 : chkFunc Try.prog Try.prog.funcs[108]? f108 = true := by rw [Try.func108]; kernel_rfl
theorem ok109 : chkFunc Try.prog Try.prog.funcs[109]? f109 = true := by rw [Try.func109]; kernel_rfl
theorem ok110 : chkFunc Try.prog Try.prog.funcs[110]? f110 = true := by rw [Try.func110]; kernel_rfl
theorem ok111 : chkFunc Try.prog Try.prog.funcs[111]? f111 = true := by rw [Try.func111]; kernel_rfl
theorem ok112 : chkFunc Try.prog Try.prog.funcs[112]? f112 = true := by rw [Try.func112]; kernel_rfl
theorem ok113 : chkFunc Try.prog Try.prog.funcs[113]? f113 = true := by rw [Try.func113]; kernel_rfl
theorem ok114 : chkFunc Try.prog Try.prog.funcs[114]? f114 = true := by rw [Try.func114]; kernel_rfl
theorem ok115 : chkFunc Try.prog Try.prog.funcs[115]? f115 = true := by rw [Try.func115]; kernel_rfl
theorem ok116 : chkFunc Try.prog Try.prog.funcs[116]? f116 = true := by rw [Try.func116]; kernel_rfl
theorem ok117 : chkFunc Try.prog Try.prog.funcs[117]? f117 = true := by rw [Try.func117]; kernel_rfl
theorem ok118 : chkFunc Try.prog Try.prog.funcs[118]? f118 = true := by rw [Try.func118]; kernel_rfl
theorem ok119 : chkFunc Try.prog Try.prog.funcs[119]? f119 = true := by rw [Try.func119]; kernel_rfl
theorem ok120 : chkFunc Try.prog Try.prog.funcs[120]? f120 = true := by rw [Try.func120]; kernel_rfl
theorem ok121 : chkFunc Try.prog Try.prog.funcs[121]? f121 = true := by rw [Try.func121]; kernel_rfl
theorem ok122 : chkFunc Try.prog Try.prog.funcs[122]? f122 = true := by rw [Try.func122]; kernel_rfl
theorem ok123 : chkFunc Try.prog Try.prog.funcs[123]? f123 = true := by rw [Try.func123]; kernel_rfl
theorem ok124 : chkFunc Try.prog Try.prog.funcs[124]? f124 = true := by rw [Try.func124]; kernel_rfl

def ft : FT := (.node 63 (.node 32 (.node 17 (.node 9 (.node 5 (.node 3 (.one 3 f3) (.node 4 (.one 4 f4) (.one 5 f5))) (.node 7 (.node 6 (.one 6 f6) (.one 7 f7)) (.node 8 (.one 8 f8) (.one 9 f9)))) (.node 13 (.node 11 (.node 10 (.one 10 f10) (.one 11 f11)) (.node 12 (.one 12 f12) (.one 13 f13))) (.node 15 (.node 14 (.one 14 f14) (.one 15 f15)) (.node 16 (.one 16 f16) (.one 17 f17))))) (.node 24 (.node 20 (.node 18 (.one 18 f18) (.node 19 (.one 19 f19) (.one 20 f20))) (.node 22 (.node 21 (.one 21 f21) (.one 22 f22)) (.node 23 (.one 23 f23) (.one 24 f24)))) (.node 28 (.node 26 (.node 25 (.one 25 f25) (.one 26 f26)) (.node 27 (.one 27 f27) (.one 28 f28))) (.node 30 (.node 29 (.one 29 f29) (.one 30 f30)) (.node 31 (.one 31 f31) (.one 32 f32)))))) (.node 47 (.node 39 (.node 35 (.node 33 (.one 33 f33) (.node 34 (.one 34 f34) (.one 35 f35))) (.node 37 (.node 36 (.one 36 f36) (.one 37 f37)) (.node 38 (.one 38 f38) (.one 39 f39)))) (.node 43 (.node 41 (.node 40 (.one 40 f40) (.one 41 f41)) (.node 42 (.one 42 f42) (.one 43 f43))) (.node 45 (.node 44 (.one 44 f44) (.one 45 f45)) (.node 46 (.one 46 f46) (.one 47 f47))))) (.node 55 (.node 51 (.node 49 (.node 48 (.one 48 f48) (.one 49 f49)) (.node 50 (.one 50 f50) (.one 51 f51))) (.node 53 (.node 52 (.one 52 f52) (.one 53 f53)) (.node 54 (.one 54 f54) (.one 55 f55)))) (.node 59 (.node 57 (.node 56 (.one 56 f56) (.one 57 f57)) (.node 58 (.one 58 f58) (.one 59 f59))) (.node 61 (.node 60 (.one 60 f60) (.one 61 f61)) (.node 62 (.one 62 f62) (.one 63 f63))))))) (.node 93 (.node 78 (.node 70 (.node 66 (.node 64 (.one 64 f64) (.node 65 (.one 65 f65) (.one 66 f66))) (.node 68 (.node 67 (.one 67 f67) (.one 68 f68)) (.node 69 (.one 69 f69) (.one 70 f70)))) (.node 74 (.node 72 (.node 71 (.one 71 f71) (.one 72 f72)) (.node 73 (.one 73 f73) (.one 74 f74))) (.node 76 (.node 75 (.one 75 f75) (.one 76 f76)) (.node 77 (.one 77 f77) (.one 78 f78))))) (.node 85 (.node 81 (.node 79 (.one 79 f79) (.node 80 (.one 80 f80) (.one 81 f81))) (.node 83 (.node 82 (.one 82 f82) (.one 83 f83)) (.node 84 (.one 84 f84) (.one 85 f85)))) (.node 89 (.node 87 (.node 86 (.one 86 f86) (.one 87 f87)) (.node 88 (.one 88 f88) (.one 89 f89))) (.node 91 (.node 90 (.one 90 f90) (.one 91 f91)) (.node 92 (.one 92 f92) (.one 93 f93)))))) (.node 108 (.node 100 (.node 96 (.node 94 (.one 94 f94) (.node 95 (.one 95 f95) (.one 96 f96))) (.node 98 (.node 97 (.one 97 f97) (.one 98 f98)) (.node 99 (.one 99 f99) (.one 100 f100)))) (.node 104 (.node 102 (.node 101 (.one 101 f101) (.one 102 f102)) (.node 103 (.one 103 f103) (.one 104 f104))) (.node 106 (.node 105 (.one 105 f105) (.one 106 f106)) (.node 107 (.one 107 f107) (.one 108 f108))))) (.node 116 (.node 112 (.node 110 (.node 109 (.one 109 f109) (.one 110 f110)) (.node 111 (.one 111 f111) (.one 112 f112))) (.node 114 (.node 113 (.one 113 f113) (.one 114 f114)) (.node 115 (.one 115 f115) (.one 116 f116)))) (.node 120 (.node 118 (.node 117 (.one 117 f117) (.one 118 f118)) (.node 119 (.one 119 f119) (.one 120 f120))) (.node 122 (.node 121 (.one 121 f121) (.one 122 f122)) (.node 123 (.one 123 f123) (.one 124 f124))))))))

theorem ft_ok : ft.OK Try.prog := ⟨⟨⟨⟨⟨⟨ok3, ⟨ok4, ok5⟩⟩, ⟨⟨ok6, ok7⟩, ⟨ok8, ok9⟩⟩⟩, ⟨⟨⟨ok10, ok11⟩, ⟨ok12, ok13⟩⟩, ⟨⟨ok14, ok15⟩, ⟨ok16, ok17⟩⟩⟩⟩, ⟨⟨⟨ok18, ⟨ok19, ok20⟩⟩, ⟨⟨ok21, ok22⟩, ⟨ok23, ok24⟩⟩⟩, ⟨⟨⟨ok25, ok26⟩, ⟨ok27, ok28⟩⟩, ⟨⟨ok29, ok30⟩, ⟨ok31, ok32⟩⟩⟩⟩⟩, ⟨⟨⟨⟨ok33, ⟨ok34, ok35⟩⟩, ⟨⟨ok36, ok37⟩, ⟨ok38, ok39⟩⟩⟩, ⟨⟨⟨ok40, ok41⟩, ⟨ok42, ok43⟩⟩, ⟨⟨ok44, ok45⟩, ⟨ok46, ok47⟩⟩⟩⟩, ⟨⟨⟨⟨ok48, ok49⟩, ⟨ok50, ok51⟩⟩, ⟨⟨ok52, ok53⟩, ⟨ok54, ok55⟩⟩⟩, ⟨⟨⟨ok56, ok57⟩, ⟨ok58, ok59⟩⟩, ⟨⟨ok60, ok61⟩, ⟨ok62, ok63⟩⟩⟩⟩⟩⟩, ⟨⟨⟨⟨⟨ok64, ⟨ok65, ok66⟩⟩, ⟨⟨ok67, ok68⟩, ⟨ok69, ok70⟩⟩⟩, ⟨⟨⟨ok71, ok72⟩, ⟨ok73, ok74⟩⟩, ⟨⟨ok75, ok76⟩, ⟨ok77, ok78⟩⟩⟩⟩, ⟨⟨⟨ok79, ⟨ok80, ok81⟩⟩, ⟨⟨ok82, ok83⟩, ⟨ok84, ok85⟩⟩⟩, ⟨⟨⟨ok86, ok87⟩, ⟨ok88, ok89⟩⟩, ⟨⟨ok90, ok91⟩, ⟨ok92, ok93⟩⟩⟩⟩⟩, ⟨⟨⟨⟨ok94, ⟨ok95, ok96⟩⟩, ⟨⟨ok97, ok98⟩, ⟨ok99, ok100⟩⟩⟩, ⟨⟨⟨ok101, ok102⟩, ⟨ok103, ok104⟩⟩, ⟨⟨ok105, ok106⟩, ⟨ok107, ok108⟩⟩⟩⟩, ⟨⟨⟨⟨ok109, ok110⟩, ⟨ok111, ok112⟩⟩, ⟨⟨ok113, ok114⟩, ⟨ok115, ok116⟩⟩⟩, ⟨⟨⟨ok117, ok118⟩, ⟨ok119, ok120⟩⟩, ⟨⟨ok121, ok122⟩, ⟨ok123, ok124⟩⟩⟩⟩⟩⟩⟩

def AP : FuncId → Option AFunc := ft.get

theorem tab : TabOK Try.prog AP := FT.tab ft_ok

theorem mixed : Try.prog.follows .mixedOrders = true := rfl
end Go.Proofs.Ytbhgncfbljkdgaa.Fn
