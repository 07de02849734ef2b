/- The abstract code of the functions, each checked against the loaded program. Printed by wip/tools/gen.py. -/
import Derived.Test.YthahhonmkhafkaaGreatDoorMachF
import Derived.Test.YthahhonmkhafkaaGreatDoorProg
import Derived.KernelRfl
namespace Go.Proofs.YthahhonmkhafkaaGreatDoor.Am
open Go
set_option maxRecDepth 100000
def f9_b0 : ACode := (.wrap true [1, 3, 4, 5] [2] [(2, [1, 3, 4])]
 (.seq (.seq (xR [xM 56 5, xF 57 4 4, xL 58 57, xH 59 58, xA 60 (.bin .lss (.t 56) (.t 59))] [1, 3, 4, 5, 60])
 (.cond (.t 60)
 .skip
 (.exit 2)))
 (.seq (.block 3 (.seq (xR [xF 63 4 4, xL 64 63, xM 65 5, xI 66 4 64 65, xF 67 0 66, xL 68 67, xA 69 (.len 1 (.t 68)), xA 70 (.bin .gtr (.t 69) (xi 60)), xM 71 70, xFF 72 4 4 71, xLF 73 72 71, xMF 74 5 71, xIF 75 4 73 74 71, xFF 76 1 75 71, xFF 77 1 76 71, xLF 78 77 71, xAF 79 (.len 1 (.t 78)) 71, xAF 80 (.bin .gtr (.t 79) (xi 60)) 71, xA 81 (.pick (.t 71) xT (.t 80))] [1, 3, 4, 5, 81])
 (.cond (.t 81)
 (.seq (xR [xA 2 (.mov .own xT)] [2])
 .ret)
 .skip)))
 (xR [xM 61 5, xA 62 (.bin .add (.t 61) (xi 1)), xM 5 62] [1, 3, 4, 5]))))
def f9_l0 : ACode := .loop f9_b0
theorem u9_l0 : LpEq f9_l0 f9_b0 := K_loop
def f9_b1 : ACode := (.wrap true [1, 3, 4, 6] [2] [(4, [1, 3, 4])]
 (.seq (.seq (xR [xM 82 6, xF 83 3 4, xL 84 83, xH 85 84, xA 86 (.bin .lss (.t 82) (.t 85))] [1, 3, 4, 6, 86])
 (.cond (.t 86)
 .skip
 (.exit 4)))
 (.seq (.block 5 (.seq (xR [xF 89 3 4, xL 90 89, xM 91 6, xI 92 1 90 91, xL 93 92, xA 94 (.len 1 (.t 93)), xA 95 (.bin .gtr (.t 94) (xi 60))] [1, 3, 4, 6, 95])
 (.cond (.t 95)
 (.seq (xR [xA 2 (.mov .own xT)] [2])
 .ret)
 .skip)))
 (xR [xM 87 6, xA 88 (.bin .add (.t 87) (xi 1)), xM 6 88] [1, 3, 4, 6]))))
def f9_l1 : ACode := .loop f9_b1
theorem u9_l1 : LpEq f9_l1 f9_b1 := K_loop
def f9_b2 : ACode := (.wrap true [1, 3, 4, 7, 8, 9] [2] [(8, [1, 3, 4, 7, 8])]
 (.seq (.seq (xR [xM 137 9, xF 138 7 8, xL 139 138, xH 140 139, xA 141 (.bin .lss (.t 137) (.t 140))] [1, 3, 4, 7, 8, 9, 141])
 (.cond (.t 141)
 .skip
 (.exit 8)))
 (.seq (.block 9 (.seq (xR [xF 144 7 8, xL 145 144, xM 146 9, xI 147 4 145 146, xF 148 2 147, xL 149 148, xA 150 (.len 1 (.t 149)), xA 151 (.bin .gtr (.t 150) (xi 60)), xM 152 151, xFF 153 7 8 152, xLF 154 153 152, xMF 155 9 152, xIF 156 4 154 155 152, xFF 157 3 156 152, xLF 158 157 152, xAF 159 (.len 1 (.t 158)) 152, xAF 160 (.bin .gtr (.t 159) (xi 60)) 152, xA 161 (.pick (.t 152) xT (.t 160))] [1, 3, 4, 7, 8, 9, 161])
 (.cond (.t 161)
 (.seq (xR [xA 2 (.mov .own xT)] [2])
 .ret)
 .skip)))
 (xR [xM 142 9, xA 143 (.bin .add (.t 142) (xi 1)), xM 9 143] [1, 3, 4, 7, 8, 9]))))
def f9_l2 : ACode := .loop f9_b2
theorem u9_l2 : LpEq f9_l2 f9_b2 := K_loop
def f9_b3 : ACode := (.wrap true [1, 3, 4, 7, 8, 10] [2] [(10, [1, 3, 4, 7, 8])]
 (.seq (.seq (xR [xM 162 10, xF 163 3 8, xL 164 163, xH 165 164, xA 166 (.bin .lss (.t 162) (.t 165))] [1, 3, 4, 7, 8, 10, 166])
 (.cond (.t 166)
 .skip
 (.exit 10)))
 (.seq (.block 11 (.seq (xR [xF 169 3 8, xL 170 169, xM 171 10, xI 172 2 170 171, xF 173 1 172, xL 174 173, xA 175 (.len 1 (.t 174)), xA 176 (.bin .gtr (.t 175) (xi 60))] [1, 3, 4, 7, 8, 10, 176])
 (.cond (.t 176)
 (.seq (xR [xA 2 (.mov .own xT)] [2])
 .ret)
 .skip)))
 (xR [xM 167 10, xA 168 (.bin .add (.t 167) (xi 1)), xM 10 168] [1, 3, 4, 7, 8, 10]))))
def f9_l3 : ACode := .loop f9_b3
theorem u9_l3 : LpEq f9_l3 f9_b3 := K_loop
def f9_b4 : ACode := (.wrap true [1, 3, 4, 7, 8, 11] [2] [(12, [1, 3, 4, 7])]
 (.seq (.seq (xR [xM 177 11, xF 178 8 8, xL 179 178, xH 180 179, xA 181 (.bin .lss (.t 177) (.t 180))] [1, 3, 4, 7, 8, 11, 181])
 (.cond (.t 181)
 .skip
 (.exit 12)))
 (.seq (.block 13 (.seq (xR [xF 184 8 8, xL 185 184, xM 186 11, xI 187 4 185 186, xF 188 0 187, xL 189 188, xA 190 (.len 1 (.t 189)), xA 191 (.bin .gtr (.t 190) (xi 60))] [1, 3, 4, 7, 8, 11, 191])
 (.cond (.t 191)
 (.seq (xR [xA 2 (.mov .own xT)] [2])
 .ret)
 .skip)))
 (xR [xM 182 11, xA 183 (.bin .add (.t 182) (xi 1)), xM 11 183] [1, 3, 4, 7, 8, 11]))))
def f9_l4 : ACode := .loop f9_b4
theorem u9_l4 : LpEq f9_l4 f9_b4 := K_loop
def f9_b5 : ACode := (.wrap true [1, 3, 4, 7] [2] [(6, [1, 3])]
 (.seq (.seq (xR [xM 96 7, xF 97 5 4, xL 98 97, xH 99 98, xA 100 (.bin .lss (.t 96) (.t 99))] [1, 3, 4, 7, 100])
 (.cond (.t 100)
 .skip
 (.exit 6)))
 (.seq (.block 7 (.seq (xR [xF 103 5 4, xL 104 103, xM 105 7, xI 106 9 104 105, xQ 107 9 106, xA 8 (.alloc [xa,xb,xb,(.osl 2 []),xc,xa,xc,(.osl 4 []),(.osl 4 [])]), xS 9 8 107] [1, 3, 4, 7, 8])
 (.seq (.seq (xR [xF 108 0 8, xL 109 108, xA 110 (.len 1 (.t 109)), xA 111 (.bin .gtr (.t 110) (xi 60)), xM 112 111, xFF 113 3 8 112, xLF 114 113 112, xAF 115 (.len 0 (.t 114)) 112, xAF 116 (.bin .gtr (.t 115) (xi 10)) 112, xA 117 (.pick (.t 112) xT (.t 116)), xM 118 117, xFF 119 7 8 118, xLF 120 119 118, xAF 121 (.len 0 (.t 120)) 118, xAF 122 (.bin .gtr (.t 121) (xi 60)) 118, xA 123 (.pick (.t 118) xT (.t 122)), xM 124 123, xFF 125 8 8 124, xLF 126 125 124, xAF 127 (.len 0 (.t 126)) 124, xAF 128 (.bin .gtr (.t 127) (xi 10)) 124, xA 129 (.pick (.t 124) xT (.t 128)), xM 130 129, xFF 131 4 8 130, xFF 132 1 131 130, xLF 133 132 130, xAF 134 (.len 1 (.t 133)) 130, xAF 135 (.bin .gtr (.t 134) (xi 60)) 130, xA 136 (.pick (.t 130) xT (.t 135))] [1, 3, 4, 7, 8, 136])
 (.cond (.t 136)
 (.seq (xR [xA 2 (.mov .own xT)] [2])
 .ret)
 .skip))
 (.seq (.seq (xR [xA 9 (.mov .cp (xi 0))] [1, 3, 4, 7, 8, 9])
 (.block 8 f9_l2))
 (.seq (.seq (xR [xA 10 (.mov .cp (xi 0))] [1, 3, 4, 7, 8, 10])
 (.block 10 f9_l3))
 (.seq (xR [xA 11 (.mov .cp (xi 0))] [1, 3, 4, 7, 8, 11])
 (.block 12 f9_l4)))))))
 (xR [xM 101 7, xA 102 (.bin .add (.t 101) (xi 1)), xM 7 102] [1, 3, 4, 7]))))
def f9_l5 : ACode := .loop f9_b5
theorem u9_l5 : LpEq f9_l5 f9_b5 := K_loop
def f9_b6 : ACode := (.wrap true [1, 3] [2] [(0, [])]
 (.seq (.seq (xR [xM 16 3, xF 17 0 1, xL 18 17, xH 19 18, xA 20 (.bin .lss (.t 16) (.t 19))] [1, 3, 20])
 (.cond (.t 20)
 .skip
 (.exit 0)))
 (.seq (.block 1 (.seq (xR [xF 23 0 1, xL 24 23, xM 25 3, xI 26 6 24 25, xQ 27 6 26, xA 4 (.alloc [xa,xb,xa,(.osl 1 []),(.osl 4 []),(.osl 9 [])]), xS 6 4 27] [1, 3, 4])
 (.seq (.seq (xR [xF 28 4 4, xL 29 28, xH 30 29, xA 31 (.bin .gtr (.t 30) (xi 14)), xM 32 31, xFF 33 5 4 32, xLF 34 33 32, xAF 35 (.len 0 (.t 34)) 32, xAF 36 (.bin .gtr (.t 35) (xi 14)) 32, xA 37 (.pick (.t 32) xT (.t 36)), xM 38 37, xFF 39 3 4 38, xLF 40 39 38, xAF 41 (.len 0 (.t 40)) 38, xAF 42 (.bin .gtr (.t 41) (xi 10)) 38, xA 43 (.pick (.t 38) xT (.t 42)), xM 44 43, xFF 45 0 4 44, xLF 46 45 44, xAF 47 (.len 1 (.t 46)) 44, xAF 48 (.bin .gtr (.t 47) (xi 60)) 44, xA 49 (.pick (.t 44) xT (.t 48)), xM 50 49, xFF 51 2 4 50, xLF 52 51 50, xAF 53 (.len 1 (.t 52)) 50, xAF 54 (.bin .gtr (.t 53) (xi 60)) 50, xA 55 (.pick (.t 50) xT (.t 54))] [1, 3, 4, 55])
 (.cond (.t 55)
 (.seq (xR [xA 2 (.mov .own xT)] [2])
 .ret)
 .skip))
 (.seq (.seq (xR [xA 5 (.mov .cp (xi 0))] [1, 3, 4, 5])
 (.block 2 f9_l0))
 (.seq (.seq (xR [xA 6 (.mov .cp (xi 0))] [1, 3, 4, 6])
 (.block 4 f9_l1))
 (.seq (xR [xA 7 (.mov .cp (xi 0))] [1, 3, 4, 7])
 (.block 6 f9_l5)))))))
 (xR [xM 21 3, xA 22 (.bin .add (.t 21) (xi 1)), xM 3 22] [1, 3]))))
def f9_l6 : ACode := .loop f9_b6
theorem u9_l6 : LpEq f9_l6 f9_b6 := K_loop
/-- delver/delverlaw02.Heavy -/
def f9 : AFun := ⟨1,
 (.seq (xR [xB 1 0, xA 2 (.mov .own xU)] [1])
 (.seq (.seq (xR [xF 12 0 1, xL 13 12, xH 14 13, xA 15 (.bin .gtr (.t 14) (xi 14))] [1, 15])
 (.cond (.t 15)
 (.seq (xR [xA 2 (.mov .own xT)] [2])
 .ret)
 .skip))
 (.seq (.seq (xR [xA 3 (.mov .cp (xi 0))] [1, 3])
 (.block 0 f9_l6))
 (.seq (xR [xA 2 (.mov .own xU)] [2])
 .ret)))), [(.tmp 2)], .pure, false, false⟩
def f16_b0 : ACode := (.wrap true [0, 1, 5] [4] [(0, [])]
 (.seq (.seq (xR [xM 6 5, xM 7 0, xH 8 7, xA 9 (.bin .lss (.t 6) (.t 8))] [0, 1, 5, 9])
 (.cond (.t 9)
 .skip
 (.exit 0)))
 (.seq (.block 1 (.seq (xR [xM 12 0, xM 13 5, xI 14 6 12 13, xF 15 0 14, xL 16 15, xM 17 1, xA 18 (.bin .eql (.t 16) (.t 17))] [0, 1, 5, 18])
 (.cond (.t 18)
 (.seq (xR [xO 19 5, xO 4 19] [4])
 .ret)
 .skip)))
 (xR [xM 10 5, xA 11 (.bin .add (.t 10) (xi 1)), xO 5 11] [0, 1, 5]))))
def f16_l0 : ACode := .loop f16_b0
theorem u16_l0 : LpEq f16_l0 f16_b0 := K_loop
/-- delver/delverref04.At -/
def f16 : AFun := ⟨2,
 (.seq (xR [xA 4 (.mov .own (xi 0))] [0, 1])
 (.seq (.seq (xR [xA 5 (.mov .own (xi 0))] [0, 1, 5])
 (.block 0 f16_l0))
 (.seq (xR [xA 4 (.mov .own (xi (-1)))] [4])
 .ret))), [(.tmp 4)], .pure, false, false⟩
/-- delver/delverkeep.TwinTypes -/
def f69 : AFun := ⟨1,
 (.seq (xR [xA 2 (.mov .own (.k (.c (.osl 2 []))))] [0])
 (.seq (xR [xA 3 (.mov .own (.k (.c (.osl 2 []))))] [0, 3])
 (.seq (xR [xO 4 3, xM 5 0, xA 6 (.app 2 24 (.t 4) (.t 5)), xO 2 6] [2])
 .ret))), [(.tmp 2)], .pure, false, false⟩
/-- delver/delverkeep.TwinMethod -/
def f52 : AFun := ⟨1,
 (.seq (xR [xB 1 0, xA 2 (.alloc [xa,xb,xb,(.osl 2 []),xc,xa,xc,(.osl 4 []),(.osl 4 [])])] [1, 2])
 (.seq (xR [xA 3 (.mov .cp (.k (.c (.b .nils))))] [1, 2, 3])
 (.seq (xR [xA 4 (.mov .cp (.k (.c (.b .nils))))] [1, 2, 3, 4])
 (.seq (xG [xF 5 3 1, xL 6 5, xA 7 (.callb 69 [(.t 6)]), xM 8 3, xF 9 7 1, xL 10 9, xA 11 (.appn 4 48 (.t 8) (.t 10)), xM 12 4, xF 13 8 1, xL 14 13, xA 15 (.appn 4 40 (.t 12) (.t 14)), xF 16 3 1, xS 1 16 7, xF 17 7 1, xS 1 17 11, xF 18 8 1, xS 1 18 15] [1, 2])
 (.seq (xR [xQ 19 9 1, xS 9 2 19] [2])
 .ret))))), [(.cell 2 (some 9))], .pure, false, false⟩
def f36_b0 : ACode := (.wrap true [1, 2, 5, 6] [2] [(0, [1, 2, 5])]
 (.seq (.seq (xR [xM 17 6, xF 18 5 1, xL 19 18, xH 20 19, xA 21 (.bin .lss (.t 17) (.t 20))] [1, 2, 5, 6, 21])
 (.cond (.t 21)
 .skip
 (.exit 0)))
 (.seq (.block 1 (xR [xO 24 5, xF 25 5 1, xL 26 25, xM 27 6, xI 28 9 26 27, xQ 29 9 28, xA 30 (.callb 52 [(.t 29)]), xA 31 (.bsl .own 9 1 [xa,xb,xb,(.osl 2 []),xc,xa,xc,(.osl 4 []),(.osl 4 [])] [(0,(.t 30))]), xA 32 (.app 9 128 (.t 24) (.t 31)), xO 5 32] [1, 2, 5, 6]))
 (xR [xM 22 6, xA 23 (.bin .add (.t 22) (xi 1)), xM 6 23] [1, 2, 5, 6]))))
def f36_l0 : ACode := .loop f36_b0
theorem u36_l0 : LpEq f36_l0 f36_b0 := K_loop
/-- delver/delverkeep.TwinClass -/
def f36 : AFun := ⟨1,
 (.seq (xR [xB 1 0, xA 2 (.alloc [xa,xb,xa,(.osl 1 []),(.osl 4 []),(.osl 9 [])])] [1, 2])
 (.seq (xR [xA 3 (.mov .cp (.k (.c (.b .nils))))] [1, 2, 3])
 (.seq (xR [xA 4 (.mov .cp (.k (.c (.b .nils))))] [1, 2, 3, 4])
 (.seq (xR [xA 5 (.mov .own (.k (.c (.osl 9 []))))] [1, 2, 3, 4, 5])
 (.seq (xG [xM 7 3, xF 8 3 1, xL 9 8, xA 10 (.appn 1 16 (.t 7) (.t 9)), xM 11 4, xF 12 4 1, xL 13 12, xA 14 (.appn 4 48 (.t 11) (.t 13)), xF 15 3 1, xS 1 15 10, xF 16 4 1, xS 1 16 14] [1, 2, 5])
 (.seq (.seq (xR [xA 6 (.mov .cp (xi 0))] [1, 2, 5, 6])
 (.block 0 f36_l0))
 (.seq (xR [xM 33 5, xF 34 5 1, xS 1 34 33] [1, 2])
 (.seq (xR [xQ 35 6 1, xS 6 2 35] [2])
 .ret)))))))), [(.cell 2 (some 6))], .pure, false, false⟩
def f17_b0 : ACode := (.wrap true [1, 2, 3, 4] [2] [(0, [2, 3])]
 (.seq (.seq (xR [xM 5 4, xF 6 0 1, xL 7 6, xH 8 7, xA 9 (.bin .lss (.t 5) (.t 8))] [1, 2, 3, 4, 9])
 (.cond (.t 9)
 .skip
 (.exit 0)))
 (.seq (.block 1 (xG [xF 12 0 3, xW 13 12, xF 14 0 1, xL 15 14, xM 16 4, xI 17 6 15 16, xQ 18 6 17, xA 19 (.callb 36 [(.t 18)]), xA 20 (.bsl .own 6 1 [xa,xb,xa,(.osl 1 []),(.osl 4 []),(.osl 9 [])] [(0,(.t 19))]), xA 21 (.app 6 112 (.t 13) (.t 20)), xF 22 0 3, xS 1 22 21] [1, 2, 3, 4]))
 (xR [xM 10 4, xA 11 (.bin .add (.t 10) (xi 1)), xM 4 11] [1, 2, 3, 4]))))
def f17_l0 : ACode := .loop f17_b0
theorem u17_l0 : LpEq f17_l0 f17_b0 := K_loop
/-- delver/delverkeep.TwinProgram -/
def f17 : AFun := ⟨1,
 (.seq (xR [xB 1 0, xA 2 (.alloc [(.osl 6 [])])] [1, 2])
 (.seq (xR [xA 3 (.alloc [(.osl 6 [])])] [1, 2, 3])
 (.seq (.seq (xR [xA 4 (.mov .cp (xi 0))] [1, 2, 3, 4])
 (.block 0 f17_l0))
 (.seq (xR [xQ 23 1 3, xS 1 2 23] [2])
 .ret)))), [(.cell 2 (some 1))], .pure, false, false⟩
def f17v1_b0 : ACode := (.wrap true [1, 2, 3, 4] [2] [(0, [2, 3])]
 (.seq (.seq (xR [xM 5 4, xF 6 0 1, xL 7 6, xH 8 7, xA 9 (.bin .lss (.t 5) (.t 8))] [1, 2, 3, 4, 9])
 (.cond (.t 9)
 .skip
 (.exit 0)))
 (.seq (.block 1 (xG [xF 12 0 3, xW 13 12, xF 14 0 1, xL 15 14, xM 16 4, xI 17 6 15 16, xQ 18 6 17, xA 19 (.callb 36 [(.t 18)]), xA 20 (.bsl .own 6 1 [xa,xb,xa,(.osl 1 []),(.osl 4 []),(.osl 9 [])] [(0,(.t 19))]), xA 21 (.app 6 112 (.t 13) (.t 20)), xF 22 0 3, xS 1 22 21] [1, 2, 3, 4]))
 (xR [xM 10 4, xA 11 (.bin .add (.t 10) (xi 1)), xM 4 11] [1, 2, 3, 4]))))
def f17v1_l0 : ACode := .loop f17v1_b0
theorem u17v1_l0 : LpEq f17v1_l0 f17v1_b0 := K_loop
/-- delver/delverkeep.TwinProgram -/
def f17v1 : AFun := ⟨1,
 (.seq (xR [xB 1 0, xA 2 (.alloc [(.osl 6 [])])] [1, 2])
 (.seq (xR [xA 3 (.alloc [(.osl 6 [])])] [1, 2, 3])
 (.seq (.seq (xR [xA 4 (.mov .cp (xi 0))] [1, 2, 3, 4])
 (.block 0 f17v1_l0))
 (.seq (xR [xA 23 (.ld .own (some 1) (.t 3)), xS 1 2 23] [2])
 .ret)))), [(.cell 2 (some 1))], .pure, false, false⟩
def f17v2_b0 : ACode := (.wrap false [1, 2, 3, 4] [2] [(0, [2, 3])]
 (.seq (.seq (xR [xM 5 4, xF 6 0 1, xL 7 6, xH 8 7, xA 9 (.bin .lss (.t 5) (.t 8))] [1, 2, 3, 4, 9])
 (.cond (.t 9)
 .skip
 (.exit 0)))
 (.seq (.block 1 (xG [xF 12 0 3, xL 13 12, xF 14 0 1, xL 15 14, xM 16 4, xI 17 6 15 16, xQ 18 6 17, xA 19 (.callb 36 [(.t 18)]), xA 20 (.bsl .own 6 1 [xa,xb,xa,(.osl 1 []),(.osl 4 []),(.osl 9 [])] [(0,(.t 19))]), xA 21 (.appa 6 112 (.t 13) (.t 20)), xF 22 0 3, xS 1 22 21] [1, 2, 3, 4]))
 (xR [xM 10 4, xA 11 (.bin .add (.t 10) (xi 1)), xM 4 11] [1, 2, 3, 4]))))
def f17v2_l0 : ACode := .loop f17v2_b0
theorem u17v2_l0 : LpEq f17v2_l0 f17v2_b0 := K_loop
/-- delver/delverkeep.TwinProgram -/
def f17v2 : AFun := ⟨1,
 (.seq (xR [xB 1 0, xA 2 (.alloc [(.b .nils)])] [1, 2])
 (.seq (xR [xA 3 (.alloc [(.b .nils)])] [1, 2, 3])
 (.seq (.seq (xR [xA 4 (.mov .cp (xi 0))] [1, 2, 3, 4])
 (.block 0 f17v2_l0))
 (.seq (xR [xQ 23 1 3, xS 1 2 23] [2])
 .ret)))), [(.cell 2 (some 1))], .free, false, false⟩
def f41_b0 : ACode := (.wrap true [1, 2, 3] [0] [(0, [1])]
 (.seq (.seq (xR [xM 8 3, xM 9 2, xH 10 9, xA 11 (.bin .lss (.t 8) (.t 10))] [1, 2, 3, 11])
 (.cond (.t 11)
 .skip
 (.exit 0)))
 (.seq (.block 1 (xR [xO 14 1, xM 15 2, xM 16 3, xI 17 1 15 16, xL 18 17, xA 19 (.build [xa,xb,xa,(.osl 1 []),(.osl 4 []),(.osl 9 [])] [(0,1,(.t 18)),(2,1,(xs ⟨#[69,114,114,111,114]⟩))]), xA 20 (.bsl .own 6 1 [xa,xb,xa,(.osl 1 []),(.osl 4 []),(.osl 9 [])] [(0,(.t 19))]), xA 21 (.app 6 112 (.t 14) (.t 20)), xO 1 21] [1, 2, 3]))
 (xR [xM 12 3, xA 13 (.bin .add (.t 12) (xi 1)), xM 3 13] [1, 2, 3]))))
def f41_l0 : ACode := .loop f41_b0
theorem u41_l0 : LpEq f41_l0 f41_b0 := K_loop
/-- delver/delverref04.Base -/
def f41 : AFun := ⟨0,
 (.seq (xR [xA 0 (.mov .own (.k (.c (.osl 6 []))))] [])
 (.seq (xR [xA 4 (.build [xa,xb,xa,(.osl 1 []),(.osl 4 []),(.osl 9 [])] [(0,1,(xs ⟨#[79,98,106,101,99,116]⟩))]), xA 5 (.build [xa,xb,xa,(.osl 1 []),(.osl 4 []),(.osl 9 [])] [(0,1,(xs ⟨#[69,114,114,111,114]⟩)),(2,1,(xs ⟨#[79,98,106,101,99,116]⟩))]), xA 6 (.bsl .own 6 2 [xa,xb,xa,(.osl 1 []),(.osl 4 []),(.osl 9 [])] [(0,(.t 4)),(1,(.t 5))]), xO 1 6] [1])
 (.seq (xR [xA 7 (.bsl .own 1 6 [xa] [(0,(xs ⟨#[78,117,108,108,69,114,114,111,114]⟩)),(1,(xs ⟨#[82,97,110,103,101,69,114,114,111,114]⟩)),(2,(xs ⟨#[67,97,115,116,69,114,114,111,114]⟩)),(3,(xs ⟨#[78,117,109,69,114,114,111,114]⟩)),(4,(xs ⟨#[83,105,122,101,69,114,114,111,114]⟩)),(5,(xs ⟨#[68,101,112,116,104,69,114,114,111,114]⟩))]), xM 2 7] [1, 2])
 (.seq (.seq (xR [xA 3 (.mov .cp (xi 0))] [1, 2, 3])
 (.block 0 f41_l0))
 (.seq (xR [xO 22 1, xO 0 22] [0])
 .ret))))), [(.tmp 0)], .pure, false, false⟩
/-- delver/delverref04.All -/
def f23 : AFun := ⟨1,
 (.seq (xR [xB 1 0, xA 2 (.mov .own (.k (.c (.osl 6 []))))] [1])
 (.seq (xG [xA 3 (.callb 41 []), xQ 4 1 1, xA 5 (.callb 17 [(.t 4)]), xA 6 (.fld 0 none (.t 5)), xA 7 (.app 6 112 (.t 3) (.t 6)), xO 2 7] [2])
 .ret)), [(.tmp 2)], .pure, false, false⟩
/-- delver/delverref04.SuperOf -/
def f27 : AFun := ⟨1,
 (.seq (xR [xB 1 0, xA 2 (.mov .own (xs ⟨#[]⟩))] [1])
 (.seq (.seq (xR [xF 3 1 1, xL 4 3, xM 5 4, xFF 6 0 1 5, xLF 7 6 5, xAF 8 (.bin .eql (.t 7) (xs ⟨#[79,98,106,101,99,116]⟩)) 5, xA 9 (.pick (.t 5) xT (.t 8))] [1, 9])
 (.cond (.t 9)
 (.seq (xR [xA 2 (.mov .own (xs ⟨#[]⟩))] [2])
 .ret)
 .skip))
 (.seq (.seq (xR [xF 10 2 1, xL 11 10, xA 12 (.bin .eql (.t 11) (xs ⟨#[]⟩))] [1, 12])
 (.cond (.t 12)
 (.seq (xR [xA 2 (.mov .own (xs ⟨#[79,98,106,101,99,116]⟩))] [2])
 .ret)
 .skip))
 (.seq (xR [xF 13 2 1, xW 14 13, xO 2 14] [2])
 .ret)))), [(.tmp 2)], .pure, false, false⟩
/-- delver/delverref01.letter -/
def f75 : AFun := ⟨1,
 (.seq (xR [xA 2 (.mov .own xU)] [0])
 (.seq (xR [xM 3 0, xA 4 (.bin .geq (.t 3) (.k (.c (.b (.d (.int .u8 97)))))), xM 5 4, xMT 6 0 5, xAT 7 (.bin .leq (.t 6) (.k (.c (.b (.d (.int .u8 122)))))) 5, xA 8 (.pick (.t 5) (.t 7) xU), xM 9 8, xMF 10 0 9, xAF 11 (.bin .geq (.t 10) (.k (.c (.b (.d (.int .u8 65)))))) 9, xMF 12 11 9, xMT 13 0 12, xAT 14 (.bin .leq (.t 13) (.k (.c (.b (.d (.int .u8 90)))))) 12, xAF 15 (.pick (.t 12) (.t 14) xU) 9, xA 16 (.pick (.t 9) xT (.t 15)), xM 17 16, xMF 18 0 17, xAF 19 (.bin .eql (.t 18) (.k (.c (.b (.d (.int .u8 95)))))) 17, xA 20 (.pick (.t 17) xT (.t 19)), xO 2 20] [2])
 .ret)), [(.tmp 2)], .pure, false, false⟩
/-- delver/delverref01.digit -/
def f76 : AFun := ⟨1,
 (.seq (xR [xA 2 (.mov .own xU)] [0])
 (.seq (xR [xM 3 0, xA 4 (.bin .geq (.t 3) (.k (.c (.b (.d (.int .u8 48)))))), xM 5 4, xMT 6 0 5, xAT 7 (.bin .leq (.t 6) (.k (.c (.b (.d (.int .u8 57)))))) 5, xA 8 (.pick (.t 5) (.t 7) xU), xO 2 8] [2])
 .ret)), [(.tmp 2)], .pure, false, false⟩
def f59_b0 : ACode := (.wrap true [0, 3] [2] [(0, [])]
 (.seq (.seq (xR [xM 18 3, xM 19 0, xA 20 (.len 1 (.t 19)), xA 21 (.bin .lss (.t 18) (.t 20))] [0, 3, 21])
 (.cond (.t 21)
 .skip
 (.exit 0)))
 (.seq (.block 1 (.seq (xR [xM 24 0, xM 25 3, xA 26 (.ixs (.t 24) (.t 25)), xA 27 (.callb 75 [(.t 26)]), xN 28 27, xM 29 28, xMT 30 0 29, xMT 31 3 29, xAT 32 (.ixs (.t 30) (.t 31)) 29, xAT 33 (.callb 76 [(.t 32)]) 29, xNT 34 33 29, xA 35 (.pick (.t 29) (.t 34) xU)] [0, 3, 35])
 (.cond (.t 35)
 (.seq (xR [xA 2 (.mov .own xU)] [2])
 .ret)
 .skip)))
 (xR [xM 22 3, xA 23 (.bin .add (.t 22) (xi 1)), xM 3 23] [0, 3]))))
def f59_l0 : ACode := .loop f59_b0
theorem u59_l0 : LpEq f59_l0 f59_b0 := K_loop
/-- delver/delverref01.Name -/
def f59 : AFun := ⟨1,
 (.seq (xR [xA 2 (.mov .own xU)] [0])
 (.seq (.seq (xR [xM 4 0, xA 5 (.len 1 (.t 4)), xA 6 (.bin .lss (.t 5) (xi 1)), xM 7 6, xMF 8 0 7, xAF 9 (.len 1 (.t 8)) 7, xAF 10 (.bin .gtr (.t 9) (xi 20)) 7, xA 11 (.pick (.t 7) xT (.t 10)), xM 12 11, xMF 13 0 12, xAF 14 (.ixs (.t 13) (xi 0)) 12, xAF 15 (.callb 75 [(.t 14)]) 12, xNF 16 15 12, xA 17 (.pick (.t 12) xT (.t 16))] [0, 17])
 (.cond (.t 17)
 (.seq (xR [xA 2 (.mov .own xU)] [2])
 .ret)
 .skip))
 (.seq (.seq (xR [xA 3 (.mov .cp (xi 1))] [0, 3])
 (.block 0 f59_l0))
 (.seq (xR [xA 2 (.mov .own xT)] [2])
 .ret)))), [(.tmp 2)], .pure, false, false⟩
def f60_b0 : ACode := (.wrap true [0, 3, 4] [2] [(0, [])]
 (.seq (.seq (xR [xM 6 4, xM 7 3, xH 8 7, xA 9 (.bin .lss (.t 6) (.t 8))] [0, 3, 4, 9])
 (.cond (.t 9)
 .skip
 (.exit 0)))
 (.seq (.block 1 (.seq (xR [xM 12 3, xM 13 4, xI 14 1 12 13, xL 15 14, xM 16 0, xA 17 (.bin .eql (.t 15) (.t 16))] [0, 3, 4, 17])
 (.cond (.t 17)
 (.seq (xR [xA 2 (.mov .own xT)] [2])
 .ret)
 .skip)))
 (xR [xM 10 4, xA 11 (.bin .add (.t 10) (xi 1)), xM 4 11] [0, 3, 4]))))
def f60_l0 : ACode := .loop f60_b0
theorem u60_l0 : LpEq f60_l0 f60_b0 := K_loop
/-- delver/delverref01.Kept -/
def f60 : AFun := ⟨1,
 (.seq (xR [xA 2 (.mov .own xU)] [0])
 (.seq (xR [xA 5 (.bsl .own 1 12 [xa] [(0,(xs ⟨#[99,108,97,115,115]⟩)),(1,(xs ⟨#[105,110,116,101,114,102,97,99,101]⟩)),(2,(xs ⟨#[101,120,116,101,110,100,115]⟩)),(3,(xs ⟨#[105,109,112,108,101,109,101,110,116,115]⟩)),(4,(xs ⟨#[102,105,101,108,100]⟩)),(5,(xs ⟨#[115,116,97,116,105,99]⟩)),(6,(xs ⟨#[109,101,116,104,111,100]⟩)),(7,(xs ⟨#[102,117,110,99,116,105,111,110]⟩)),(8,(xs ⟨#[108,111,99,97,108,115]⟩)),(9,(xs ⟨#[99,97,116,99,104]⟩)),(10,(xs ⟨#[105,110,116]⟩)),(11,(xs ⟨#[118,111,105,100]⟩))]), xM 3 5] [0, 3])
 (.seq (.seq (xR [xA 4 (.mov .cp (xi 0))] [0, 3, 4])
 (.block 0 f60_l0))
 (.seq (xR [xA 2 (.mov .own xU)] [2])
 .ret)))), [(.tmp 2)], .pure, false, false⟩
/-- delver/delverref01.freshName -/
def f43 : AFun := ⟨1,
 (.seq (xR [xA 2 (.mov .own xU)] [0])
 (.seq (xR [xM 3 0, xA 4 (.callb 59 [(.t 3)]), xM 5 4, xMT 6 0 5, xAT 7 (.callb 60 [(.t 6)]) 5, xNT 8 7 5, xA 9 (.pick (.t 5) (.t 8) xU), xO 2 9] [2])
 .ret)), [(.tmp 2)], .pure, false, false⟩
/-- delver/delverref01.TypeText -/
def f44 : AFun := ⟨1,
 (.seq (xR [xB 1 0, xA 2 (.mov .own (xs ⟨#[]⟩))] [1])
 (.seq (.block 0 (.seq (xR [xF 4 0 1, xL 5 4, xA 6 (.bin .eql (.t 5) (xi 1)), xM 7 6, xFT 8 1 1 7, xLT 9 8 7, xAT 10 (.bin .eql (.t 9) (xs ⟨#[]⟩)) 7, xA 11 (.pick (.t 7) (.t 10) xU), xM 3 11] [1, 3])
 (.cond (.t 3)
 (.seq (xR [xA 2 (.mov .own (xs ⟨#[118,111,105,100]⟩))] [2])
 .ret)
 (.seq (xR [xF 13 0 1, xL 14 13, xA 15 (.bin .eql (.t 14) (xi 2)), xM 16 15, xFT 17 1 1 16, xLT 18 17 16, xAT 19 (.bin .eql (.t 18) (xs ⟨#[]⟩)) 16, xA 20 (.pick (.t 16) (.t 19) xU), xM 12 20] [1, 12])
 (.cond (.t 12)
 (.seq (xR [xA 2 (.mov .own (xs ⟨#[105,110,116]⟩))] [2])
 .ret)
 (.seq (xR [xF 22 0 1, xL 23 22, xA 24 (.bin .eql (.t 23) (xi 4)), xM 25 24, xFT 26 1 1 25, xLT 27 26 25, xAT 28 (.bin .eql (.t 27) (xs ⟨#[]⟩)) 25, xA 29 (.pick (.t 25) (.t 28) xU), xM 21 29] [1, 21])
 (.cond (.t 21)
 (.seq (xR [xA 2 (.mov .own (xs ⟨#[105,110,116,91,93]⟩))] [2])
 .ret)
 (.seq (xR [xF 31 0 1, xL 32 31, xA 33 (.bin .eql (.t 32) (xi 3)), xM 34 33, xFT 35 1 1 34, xLT 36 35 34, xAT 37 (.callb 43 [(.t 36)]) 34, xA 38 (.pick (.t 34) (.t 37) xU), xM 30 38] [1, 30])
 (.cond (.t 30)
 (.seq (xR [xF 39 1 1, xW 40 39, xO 2 40] [2])
 .ret)
 (.seq (xR [xF 42 0 1, xL 43 42, xA 44 (.bin .eql (.t 43) (xi 5)), xM 45 44, xFT 46 1 1 45, xLT 47 46 45, xAT 48 (.callb 43 [(.t 47)]) 45, xA 49 (.pick (.t 45) (.t 48) xU), xM 41 49] [1, 41])
 (.cond (.t 41)
 (.seq (xR [xF 50 1 1, xL 51 50, xA 52 (.bin .add (.t 51) (xs ⟨#[91,93]⟩)), xO 2 52] [2])
 .ret)
 .skip)))))))))))
 (.seq (xR [xA 2 (.mov .own (xs ⟨#[]⟩))] [2])
 .ret))), [(.tmp 2)], .pure, false, false⟩
/-- delver/delverref01.in -/
def f61 : AFun := ⟨3,
 (.seq (xR [xA 6 (.mov .own xU)] [0, 1, 2])
 (.seq (xR [xM 7 0, xM 8 1, xA 9 (.bin .geq (.t 7) (.t 8)), xM 10 9, xMT 11 0 10, xMT 12 2 10, xAT 13 (.bin .leq (.t 11) (.t 12)) 10, xA 14 (.pick (.t 10) (.t 13) xU), xO 6 14] [6])
 .ret)), [(.tmp 6)], .pure, false, false⟩
/-- delver/delverref01.Shape -/
def f77 : AFun := ⟨1,
 (.seq (xR [xA 2 (.mov .own (xi 0))] [0])
 (.seq (.block 0 (.seq (xR [xM 4 0, xA 5 (.bin .eql (.t 4) (xi 1)), xM 3 5] [0, 3])
 (.cond (.t 3)
 (.seq (xR [xA 2 (.mov .own (xi 1))] [2])
 .ret)
 (.seq (xR [xM 7 0, xA 8 (.bin .eql (.t 7) (xi 3)), xM 9 8, xMF 10 0 9, xAF 11 (.bin .eql (.t 10) (xi 4)) 9, xA 12 (.pick (.t 9) xT (.t 11)), xM 6 12] [0, 6])
 (.cond (.t 6)
 (.seq (xR [xA 2 (.mov .own (xi 2))] [2])
 .ret)
 (.seq (xR [xM 14 0, xA 15 (.bin .geq (.t 14) (xi 14)), xM 16 15, xMT 17 0 16, xAT 18 (.bin .leq (.t 17) (xi 26)) 16, xA 19 (.pick (.t 16) (.t 18) xU), xM 13 19] [0, 13])
 (.cond (.t 13)
 (.seq (xR [xA 2 (.mov .own (xi 3))] [2])
 .ret)
 (.seq (xR [xM 21 0, xA 22 (.bin .eql (.t 21) (xi 27)), xM 23 22, xMF 24 0 23, xAF 25 (.bin .eql (.t 24) (xi 33)) 23, xA 26 (.pick (.t 23) xT (.t 25)), xM 27 26, xMF 28 0 27, xAF 29 (.bin .eql (.t 28) (xi 37)) 27, xA 30 (.pick (.t 27) xT (.t 29)), xM 31 30, xMF 32 0 31, xAF 33 (.bin .eql (.t 32) (xi 38)) 31, xA 34 (.pick (.t 31) xT (.t 33)), xM 20 34] [0, 20])
 (.cond (.t 20)
 (.seq (xR [xA 2 (.mov .own (xi 4))] [2])
 .ret)
 (.seq (xR [xM 36 0, xA 37 (.bin .geq (.t 36) (xi 28)), xM 38 37, xMT 39 0 38, xAT 40 (.bin .leq (.t 39) (xi 31)) 38, xA 41 (.pick (.t 38) (.t 40) xU), xM 42 41, xMF 43 0 42, xAF 44 (.bin .eql (.t 43) (xi 39)) 42, xA 45 (.pick (.t 42) xT (.t 44)), xM 46 45, xMF 47 0 46, xAF 48 (.bin .eql (.t 47) (xi 40)) 46, xA 49 (.pick (.t 46) xT (.t 48)), xM 35 49] [35])
 (.cond (.t 35)
 (.seq (xR [xA 2 (.mov .own (xi 5))] [2])
 .ret)
 .skip)))))))))))
 (.seq (xR [xA 2 (.mov .own (xi 0))] [2])
 .ret))), [(.tmp 2)], .pure, false, false⟩
/-- delver/delverref01.showInstr -/
def f62 : AFun := ⟨1,
 (.seq (xR [xB 1 0, xA 2 (.mov .own xU)] [1])
 (.seq (.seq (xR [xF 3 0 1, xL 4 3, xA 5 (.callb 61 [(.t 4),(xi 0),(xi 43)]), xN 6 5] [1, 6])
 (.cond (.t 6)
 (.seq (xR [xA 2 (.mov .own xU)] [2])
 .ret)
 .skip))
 (.seq (.seq (xR [xF 7 0 1, xL 8 7, xA 9 (.callb 77 [(.t 8)])] [1, 9])
 (.block 0 (.seq (xR [xA 11 (.bin .eql (.t 9) (xi 1)), xM 10 11] [1, 9, 10])
 (.cond (.t 10)
 (.seq (xR [xF 12 1 1, xL 13 12, xA 14 (.callb 61 [(.t 13),(xi (-2147483648)),(xi 2147483647)]), xM 15 14, xFT 16 2 1 15, xLT 17 16 15, xAT 18 (.bin .eql (.t 17) (xs ⟨#[]⟩)) 15, xA 19 (.pick (.t 15) (.t 18) xU), xM 20 19, xFT 21 3 1 20, xLT 22 21 20, xAT 23 (.bin .eql (.t 22) (xs ⟨#[]⟩)) 20, xA 24 (.pick (.t 20) (.t 23) xU), xO 2 24] [2])
 .ret)
 (.seq (xR [xA 26 (.bin .eql (.t 9) (xi 2)), xM 25 26] [1, 9, 25])
 (.cond (.t 25)
 (.seq (xR [xF 27 1 1, xL 28 27, xA 29 (.callb 61 [(.t 28),(xi 0),(xi 7)]), xM 30 29, xFT 31 2 1 30, xLT 32 31 30, xAT 33 (.bin .eql (.t 32) (xs ⟨#[]⟩)) 30, xA 34 (.pick (.t 30) (.t 33) xU), xM 35 34, xFT 36 3 1 35, xLT 37 36 35, xAT 38 (.bin .eql (.t 37) (xs ⟨#[]⟩)) 35, xA 39 (.pick (.t 35) (.t 38) xU), xO 2 39] [2])
 .ret)
 (.seq (xR [xA 41 (.bin .eql (.t 9) (xi 3)), xM 40 41] [1, 9, 40])
 (.cond (.t 40)
 (.seq (xR [xF 42 1 1, xL 43 42, xA 44 (.callb 61 [(.t 43),(xi 0),(xi 47)]), xM 45 44, xFT 46 2 1 45, xLT 47 46 45, xAT 48 (.bin .eql (.t 47) (xs ⟨#[]⟩)) 45, xA 49 (.pick (.t 45) (.t 48) xU), xM 50 49, xFT 51 3 1 50, xLT 52 51 50, xAT 53 (.bin .eql (.t 52) (xs ⟨#[]⟩)) 50, xA 54 (.pick (.t 50) (.t 53) xU), xO 2 54] [2])
 .ret)
 (.seq (xR [xA 56 (.bin .eql (.t 9) (xi 4)), xM 55 56] [1, 9, 55])
 (.cond (.t 55)
 (.seq (xR [xF 57 1 1, xL 58 57, xA 59 (.bin .eql (.t 58) (xi 0)), xM 60 59, xFT 61 2 1 60, xLT 62 61 60, xAT 63 (.callb 43 [(.t 62)]) 60, xA 64 (.pick (.t 60) (.t 63) xU), xM 65 64, xFT 66 3 1 65, xLT 67 66 65, xAT 68 (.bin .eql (.t 67) (xs ⟨#[]⟩)) 65, xA 69 (.pick (.t 65) (.t 68) xU), xO 2 69] [2])
 .ret)
 (.seq (xR [xA 71 (.bin .eql (.t 9) (xi 5)), xM 70 71] [1, 70])
 (.cond (.t 70)
 (.seq (xR [xF 72 1 1, xL 73 72, xA 74 (.bin .eql (.t 73) (xi 0)), xM 75 74, xFT 76 2 1 75, xLT 77 76 75, xAT 78 (.callb 43 [(.t 77)]) 75, xA 79 (.pick (.t 75) (.t 78) xU), xM 80 79, xFT 81 3 1 80, xLT 82 81 80, xAT 83 (.callb 43 [(.t 82)]) 80, xA 84 (.pick (.t 80) (.t 83) xU), xO 2 84] [2])
 .ret)
 .skip))))))))))))
 (.seq (xR [xF 85 1 1, xL 86 85, xA 87 (.bin .eql (.t 86) (xi 0)), xM 88 87, xFT 89 2 1 88, xLT 90 89 88, xAT 91 (.bin .eql (.t 90) (xs ⟨#[]⟩)) 88, xA 92 (.pick (.t 88) (.t 91) xU), xM 93 92, xFT 94 3 1 93, xLT 95 94 93, xAT 96 (.bin .eql (.t 95) (xs ⟨#[]⟩)) 93, xA 97 (.pick (.t 93) (.t 96) xU), xO 2 97] [2])
 .ret)))), [(.tmp 2)], .pure, false, false⟩
def f45_b0 : ACode := (.wrap true [1, 3] [2] [(0, [1])]
 (.seq (.seq (xR [xM 56 3, xF 57 3 1, xL 58 57, xH 59 58, xA 60 (.bin .lss (.t 56) (.t 59))] [1, 3, 60])
 (.cond (.t 60)
 .skip
 (.exit 0)))
 (.seq (.block 1 (.seq (xR [xF 63 3 1, xL 64 63, xM 65 3, xI 66 2 64 65, xQ 67 2 66, xA 68 (.callb 44 [(.t 67)]), xA 69 (.bin .eql (.t 68) (xs ⟨#[]⟩))] [1, 3, 69])
 (.cond (.t 69)
 (.seq (xR [xA 2 (.mov .own xU)] [2])
 .ret)
 .skip)))
 (xR [xM 61 3, xA 62 (.bin .add (.t 61) (xi 1)), xM 3 62] [1, 3]))))
def f45_l0 : ACode := .loop f45_b0
theorem u45_l0 : LpEq f45_l0 f45_b0 := K_loop
def f45_b1 : ACode := (.wrap true [1, 4] [2] [(2, [1])]
 (.seq (.seq (xR [xM 70 4, xF 71 7 1, xL 72 71, xH 73 72, xA 74 (.bin .lss (.t 70) (.t 73))] [1, 4, 74])
 (.cond (.t 74)
 .skip
 (.exit 2)))
 (.seq (.block 3 (.seq (xR [xF 77 7 1, xL 78 77, xM 79 4, xI 80 4 78 79, xQ 81 4 80, xA 82 (.callb 62 [(.t 81)]), xN 83 82] [1, 4, 83])
 (.cond (.t 83)
 (.seq (xR [xA 2 (.mov .own xU)] [2])
 .ret)
 .skip)))
 (xR [xM 75 4, xA 76 (.bin .add (.t 75) (xi 1)), xM 4 76] [1, 4]))))
def f45_l1 : ACode := .loop f45_b1
theorem u45_l1 : LpEq f45_l1 f45_b1 := K_loop
def f45_b2 : ACode := (.wrap true [1, 5] [2] [(4, [])]
 (.seq (.seq (xR [xM 84 5, xF 85 8 1, xL 86 85, xH 87 86, xA 88 (.bin .lss (.t 84) (.t 87))] [1, 5, 88])
 (.cond (.t 88)
 .skip
 (.exit 4)))
 (.seq (.block 5 (.seq (xR [xF 91 8 1, xL 92 91, xM 93 5, xI 94 4 92 93, xQ 95 4 94, xA 6 (.alloc [xa,xc,xc,xc]), xS 4 6 95] [1, 5, 6])
 (.seq (xR [xF 96 0 6, xL 97 96, xA 98 (.callb 43 [(.t 97)]), xN 99 98, xM 100 99, xFF 101 1 6 100, xLF 102 101 100, xAF 103 (.callb 61 [(.t 102),(xi 0),(xi 48)]) 100, xNF 104 103 100, xA 105 (.pick (.t 100) xT (.t 104)), xM 106 105, xFF 107 2 6 106, xLF 108 107 106, xAF 109 (.callb 61 [(.t 108),(xi 0),(xi 48)]) 106, xNF 110 109 106, xA 111 (.pick (.t 106) xT (.t 110)), xM 112 111, xFF 113 3 6 112, xLF 114 113 112, xAF 115 (.callb 61 [(.t 114),(xi 0),(xi 48)]) 112, xNF 116 115 112, xA 117 (.pick (.t 112) xT (.t 116))] [1, 5, 117])
 (.cond (.t 117)
 (.seq (xR [xA 2 (.mov .own xU)] [2])
 .ret)
 .skip))))
 (xR [xM 89 5, xA 90 (.bin .add (.t 89) (xi 1)), xM 5 90] [1, 5]))))
def f45_l2 : ACode := .loop f45_b2
theorem u45_l2 : LpEq f45_l2 f45_b2 := K_loop
/-- delver/delverref01.showMethod -/
def f45 : AFun := ⟨1,
 (.seq (xR [xB 1 0, xA 2 (.mov .own xU)] [1])
 (.seq (.seq (xR [xF 7 0 1, xL 8 7, xA 9 (.callb 43 [(.t 8)]), xN 10 9, xM 11 10, xFF 12 3 1 11, xLF 13 12 11, xAF 14 (.len 0 (.t 13)) 11, xAF 15 (.bin .gtr (.t 14) (xi 4)) 11, xA 16 (.pick (.t 11) xT (.t 15)), xM 17 16, xFF 18 4 1 17, xAF 19 (.ld .cp (some 2) (.t 18)) 17, xAF 20 (.callb 44 [(.t 19)]) 17, xAF 21 (.bin .eql (.t 20) (xs ⟨#[]⟩)) 17, xA 22 (.pick (.t 17) xT (.t 21)), xM 23 22, xFF 24 7 1 23, xLF 25 24 23, xAF 26 (.len 0 (.t 25)) 23, xAF 27 (.bin .gtr (.t 26) (xi 48)) 23, xA 28 (.pick (.t 23) xT (.t 27)), xM 29 28, xFF 30 8 1 29, xLF 31 30 29, xAF 32 (.len 0 (.t 31)) 29, xAF 33 (.bin .gtr (.t 32) (xi 4)) 29, xA 34 (.pick (.t 29) xT (.t 33)), xM 35 34, xFF 36 6 1 35, xLF 37 36 35, xAF 38 (.callb 61 [(.t 37),(xi 0),(xi 8)]) 35, xNF 39 38 35, xA 40 (.pick (.t 35) xT (.t 39))] [1, 40])
 (.cond (.t 40)
 (.seq (xR [xA 2 (.mov .own xU)] [2])
 .ret)
 .skip))
 (.seq (.seq (xR [xF 41 2 1, xL 42 41, xM 43 42, xFT 44 6 1 43, xLT 45 44 43, xFT 46 7 1 43, xLT 47 46 43, xAT 48 (.len 0 (.t 47)) 43, xAT 49 (.bin .add (.t 45) (.t 48)) 43, xFT 50 8 1 43, xLT 51 50 43, xAT 52 (.len 0 (.t 51)) 43, xAT 53 (.bin .add (.t 49) (.t 52)) 43, xAT 54 (.bin .gtr (.t 53) (xi 0)) 43, xA 55 (.pick (.t 43) (.t 54) xU)] [1, 55])
 (.cond (.t 55)
 (.seq (xR [xA 2 (.mov .own xU)] [2])
 .ret)
 .skip))
 (.seq (.seq (xR [xA 3 (.mov .cp (xi 0))] [1, 3])
 (.block 0 f45_l0))
 (.seq (.seq (xR [xA 4 (.mov .cp (xi 0))] [1, 4])
 (.block 2 f45_l1))
 (.seq (.seq (xR [xA 5 (.mov .cp (xi 0))] [1, 5])
 (.block 4 f45_l2))
 (.seq (xR [xA 2 (.mov .own xT)] [2])
 .ret))))))), [(.tmp 2)], .pure, false, false⟩
def f29_b0 : ACode := (.wrap true [1, 3, 4, 5] [2] [(2, [1, 3, 4])]
 (.seq (.seq (xR [xM 61 5, xF 62 3 4, xL 63 62, xH 64 63, xA 65 (.bin .lss (.t 61) (.t 64))] [1, 3, 4, 5, 65])
 (.cond (.t 65)
 .skip
 (.exit 2)))
 (.seq (.block 3 (.seq (xR [xF 68 3 4, xL 69 68, xM 70 5, xI 71 1 69 70, xL 72 71, xA 73 (.callb 43 [(.t 72)]), xN 74 73] [1, 3, 4, 5, 74])
 (.cond (.t 74)
 (.seq (xR [xA 2 (.mov .own xU)] [2])
 .ret)
 .skip)))
 (xR [xM 66 5, xA 67 (.bin .add (.t 66) (xi 1)), xM 5 67] [1, 3, 4, 5]))))
def f29_l0 : ACode := .loop f29_b0
theorem u29_l0 : LpEq f29_l0 f29_b0 := K_loop
def f29_b1 : ACode := (.wrap true [1, 3, 4, 6] [2] [(4, [1, 3, 4])]
 (.seq (.seq (xR [xM 75 6, xF 76 4 4, xL 77 76, xH 78 77, xA 79 (.bin .lss (.t 75) (.t 78))] [1, 3, 4, 6, 79])
 (.cond (.t 79)
 .skip
 (.exit 4)))
 (.seq (.block 5 (.seq (xR [xF 82 4 4, xL 83 82, xM 84 6, xI 85 4 83 84, xF 86 0 85, xL 87 86, xA 88 (.callb 43 [(.t 87)]), xN 89 88, xM 90 89, xFF 91 4 4 90, xLF 92 91 90, xMF 93 6 90, xIF 94 4 92 93 90, xFF 95 1 94 90, xAF 96 (.ld .cp (some 2) (.t 95)) 90, xAF 97 (.callb 44 [(.t 96)]) 90, xAF 98 (.bin .eql (.t 97) (xs ⟨#[]⟩)) 90, xA 99 (.pick (.t 90) xT (.t 98))] [1, 3, 4, 6, 99])
 (.cond (.t 99)
 (.seq (xR [xA 2 (.mov .own xU)] [2])
 .ret)
 .skip)))
 (xR [xM 80 6, xA 81 (.bin .add (.t 80) (xi 1)), xM 6 81] [1, 3, 4, 6]))))
def f29_l1 : ACode := .loop f29_b1
theorem u29_l1 : LpEq f29_l1 f29_b1 := K_loop
def f29_b2 : ACode := (.wrap true [1, 3, 4, 7] [2] [(6, [1, 3])]
 (.seq (.seq (xR [xM 100 7, xF 101 5 4, xL 102 101, xH 103 102, xA 104 (.bin .lss (.t 100) (.t 103))] [1, 3, 4, 7, 104])
 (.cond (.t 104)
 .skip
 (.exit 6)))
 (.seq (.block 7 (.seq (xR [xF 107 5 4, xL 108 107, xM 109 7, xI 110 9 108 109, xQ 111 9 110, xA 112 (.callb 45 [(.t 111)]), xN 113 112] [1, 3, 4, 7, 113])
 (.cond (.t 113)
 (.seq (xR [xA 2 (.mov .own xU)] [2])
 .ret)
 .skip)))
 (xR [xM 105 7, xA 106 (.bin .add (.t 105) (xi 1)), xM 7 106] [1, 3, 4, 7]))))
def f29_l2 : ACode := .loop f29_b2
theorem u29_l2 : LpEq f29_l2 f29_b2 := K_loop
def f29_b3 : ACode := (.wrap true [1, 3] [2] [(0, [])]
 (.seq (.seq (xR [xM 12 3, xF 13 0 1, xL 14 13, xH 15 14, xA 16 (.bin .lss (.t 12) (.t 15))] [1, 3, 16])
 (.cond (.t 16)
 .skip
 (.exit 0)))
 (.seq (.block 1 (.seq (xR [xF 19 0 1, xL 20 19, xM 21 3, xI 22 6 20 21, xQ 23 6 22, xA 4 (.alloc [xa,xb,xa,(.osl 1 []),(.osl 4 []),(.osl 9 [])]), xS 6 4 23] [1, 3, 4])
 (.seq (.seq (xR [xF 24 0 4, xL 25 24, xA 26 (.callb 43 [(.t 25)]), xN 27 26, xM 28 27, xFF 29 2 4 28, xLF 30 29 28, xAF 31 (.bin .neq (.t 30) (xs ⟨#[]⟩)) 28, xMF 32 31 28, xFT 33 1 4 32, xLT 34 33 32, xMT 35 34 32, xFF 36 2 4 35, xLF 37 36 35, xAF 38 (.callb 43 [(.t 37)]) 35, xNF 39 38 35, xAT 40 (.pick (.t 35) xT (.t 39)) 32, xAF 41 (.pick (.t 32) (.t 40) xU) 28, xA 42 (.pick (.t 28) xT (.t 41)), xM 43 42, xFF 44 3 4 43, xLF 45 44 43, xAF 46 (.len 0 (.t 45)) 43, xAF 47 (.bin .gtr (.t 46) (xi 4)) 43, xA 48 (.pick (.t 43) xT (.t 47)), xM 49 48, xFF 50 4 4 49, xLF 51 50 49, xAF 52 (.len 0 (.t 51)) 49, xAF 53 (.bin .gtr (.t 52) (xi 6)) 49, xA 54 (.pick (.t 49) xT (.t 53)), xM 55 54, xFF 56 5 4 55, xLF 57 56 55, xAF 58 (.len 0 (.t 57)) 55, xAF 59 (.bin .gtr (.t 58) (xi 6)) 55, xA 60 (.pick (.t 55) xT (.t 59))] [1, 3, 4, 60])
 (.cond (.t 60)
 (.seq (xR [xA 2 (.mov .own xU)] [2])
 .ret)
 .skip))
 (.seq (.seq (xR [xA 5 (.mov .cp (xi 0))] [1, 3, 4, 5])
 (.block 2 f29_l0))
 (.seq (.seq (xR [xA 6 (.mov .cp (xi 0))] [1, 3, 4, 6])
 (.block 4 f29_l1))
 (.seq (xR [xA 7 (.mov .cp (xi 0))] [1, 3, 4, 7])
 (.block 6 f29_l2)))))))
 (xR [xM 17 3, xA 18 (.bin .add (.t 17) (xi 1)), xM 3 18] [1, 3]))))
def f29_l3 : ACode := .loop f29_b3
theorem u29_l3 : LpEq f29_l3 f29_b3 := K_loop
/-- delver/delverref01.Shown -/
def f29 : AFun := ⟨1,
 (.seq (xR [xB 1 0, xA 2 (.mov .own xU)] [1])
 (.seq (.seq (xR [xF 8 0 1, xL 9 8, xH 10 9, xA 11 (.bin .gtr (.t 10) (xi 10))] [1, 11])
 (.cond (.t 11)
 (.seq (xR [xA 2 (.mov .own xU)] [2])
 .ret)
 .skip))
 (.seq (.seq (xR [xA 3 (.mov .cp (xi 0))] [1, 3])
 (.block 0 f29_l3))
 (.seq (xR [xA 2 (.mov .own xT)] [2])
 .ret)))), [(.tmp 2)], .pure, false, false⟩
/-- delver/delverref04.above -/
def f30 : AFun := ⟨1,
 (.seq (xR [xB 1 0, xA 2 (.mov .own (.k (.c (.osl 1 []))))] [1])
 (.seq (xR [xA 3 (.mov .own (.k (.c (.osl 1 []))))] [1, 3])
 (.seq (.seq (xR [xQ 5 6 1, xA 6 (.callb 27 [(.t 5)]), xM 4 6] [1, 3, 4])
 (.seq (xR [xM 7 4, xA 8 (.bin .neq (.t 7) (xs ⟨#[]⟩))] [1, 3, 4, 8])
 (.cond (.t 8)
 (xR [xO 9 3, xM 10 4, xA 11 (.bsl .own 1 1 [xa] [(0,(.t 10))]), xA 12 (.app 1 16 (.t 9) (.t 11)), xO 3 12] [1, 3])
 .skip)))
 (.seq (xR [xO 13 3, xF 14 3 1, xL 15 14, xA 16 (.app 1 16 (.t 13) (.t 15)), xO 2 16] [2])
 .ret)))), [(.tmp 2)], .pure, false, false⟩
def f31_b0 : ACode := (.wrap true [0, 1, 5] [4] [(0, [])]
 (.seq (.seq (xR [xM 6 5, xM 7 0, xH 8 7, xA 9 (.bin .lss (.t 6) (.t 8))] [0, 1, 5, 9])
 (.cond (.t 9)
 .skip
 (.exit 0)))
 (.seq (.block 1 (.seq (xR [xM 12 0, xM 13 5, xI 14 1 12 13, xL 15 14, xM 16 1, xA 17 (.bin .eql (.t 15) (.t 16))] [0, 1, 5, 17])
 (.cond (.t 17)
 (.seq (xR [xA 4 (.mov .own xT)] [4])
 .ret)
 .skip)))
 (xR [xM 10 5, xA 11 (.bin .add (.t 10) (xi 1)), xM 5 11] [0, 1, 5]))))
def f31_l0 : ACode := .loop f31_b0
theorem u31_l0 : LpEq f31_l0 f31_b0 := K_loop
/-- delver/delverref04.has -/
def f31 : AFun := ⟨2,
 (.seq (xR [xA 4 (.mov .own xU)] [0, 1])
 (.seq (.seq (xR [xA 5 (.mov .cp (xi 0))] [0, 1, 5])
 (.block 0 f31_l0))
 (.seq (xR [xA 4 (.mov .own xU)] [4])
 .ret))), [(.tmp 4)], .pure, false, false⟩
def f32_b0 : ACode := (.wrap true [0, 5, 6, 8, 9] [4] [(2, [0, 5, 6])]
 (.seq (.seq (xR [xM 31 9, xM 32 8, xH 33 32, xA 34 (.bin .lss (.t 31) (.t 33))] [0, 5, 6, 8, 9, 34])
 (.cond (.t 34)
 .skip
 (.exit 2)))
 (.seq (.block 3 (.seq (xR [xM 37 5, xM 38 8, xM 39 9, xI 40 1 38 39, xL 41 40, xA 42 (.callb 31 [(.t 37),(.t 41)]), xN 43 42] [0, 5, 6, 8, 9, 43])
 (.cond (.t 43)
 (xR [xO 44 5, xM 45 8, xM 46 9, xI 47 1 45 46, xL 48 47, xA 49 (.bsl .own 1 1 [xa] [(0,(.t 48))]), xA 50 (.app 1 16 (.t 44) (.t 49)), xO 5 50] [0, 5, 6, 8, 9])
 .skip)))
 (xR [xM 35 9, xA 36 (.bin .add (.t 35) (xi 1)), xM 9 36] [0, 5, 6, 8, 9]))))
def f32_l0 : ACode := .loop f32_b0
theorem u32_l0 : LpEq f32_l0 f32_b0 := K_loop
def f32_b1 : ACode := (.wrap true [0, 5, 6] [4] [(0, [5])]
 (.seq (.seq (xR [xM 12 6, xM 13 5, xH 14 13, xA 15 (.bin .lss (.t 12) (.t 14))] [0, 5, 6, 15])
 (.cond (.t 15)
 .skip
 (.exit 0)))
 (.seq (.block 1 (.seq (xR [xM 18 0, xM 19 5, xM 20 6, xI 21 1 19 20, xL 22 21, xA 23 (.callb 16 [(.t 18),(.t 22)]), xM 7 23] [0, 5, 6, 7])
 (.seq (.seq (xR [xM 24 7, xA 25 (.bin .lss (.t 24) (xi 0))] [0, 5, 6, 7, 25])
 (.cond (.t 25)
 (.exit 1)
 .skip))
 (.seq (xR [xM 26 0, xM 27 7, xI 28 6 26 27, xQ 29 6 28, xA 30 (.callb 30 [(.t 29)]), xM 8 30] [0, 5, 6, 8])
 (.seq (xR [xA 9 (.mov .cp (xi 0))] [0, 5, 6, 8, 9])
 (.block 2 f32_l0))))))
 (xR [xM 16 6, xA 17 (.bin .add (.t 16) (xi 1)), xM 6 17] [0, 5, 6]))))
def f32_l1 : ACode := .loop f32_b1
theorem u32_l1 : LpEq f32_l1 f32_b1 := K_loop
/-- delver/delverref04.reach -/
def f32 : AFun := ⟨2,
 (.seq (xR [xA 4 (.mov .own (.k (.c (.osl 1 []))))] [0, 1])
 (.seq (xR [xM 10 1, xA 11 (.bsl .own 1 1 [xa] [(0,(.t 10))]), xO 5 11] [0, 5])
 (.seq (.seq (xR [xA 6 (.mov .cp (xi 0))] [0, 5, 6])
 (.block 0 f32_l1))
 (.seq (xR [xO 51 5, xO 4 51] [4])
 .ret)))), [(.tmp 4)], .pure, false, false⟩
def f10_b0 : ACode := (.wrap true [3, 4] [2] [(0, [3])]
 (.seq (.seq (xR [xM 17 4, xM 18 3, xH 19 18, xA 20 (.bin .lss (.t 17) (.t 19))] [3, 4, 20])
 (.cond (.t 20)
 .skip
 (.exit 0)))
 (.seq (.block 1 (.seq (xR [xM 23 3, xM 24 3, xM 25 4, xI 26 6 24 25, xF 27 0 26, xL 28 27, xA 29 (.callb 16 [(.t 23),(.t 28)]), xM 30 4, xA 31 (.bin .neq (.t 29) (.t 30))] [3, 4, 31])
 (.cond (.t 31)
 (.seq (xR [xA 2 (.mov .own (xi 6))] [2])
 .ret)
 .skip)))
 (xR [xM 21 4, xA 22 (.bin .add (.t 21) (xi 1)), xM 4 22] [3, 4]))))
def f10_l0 : ACode := .loop f10_b0
theorem u10_l0 : LpEq f10_l0 f10_b0 := K_loop
def f10_b1 : ACode := (.wrap true [3, 5, 7] [2] [(4, [3, 5])]
 (.seq (.seq (xR [xM 60 7, xM 61 3, xM 62 5, xI 63 6 61 62, xF 64 3 63, xL 65 64, xH 66 65, xA 67 (.bin .lss (.t 60) (.t 66))] [3, 5, 7, 67])
 (.cond (.t 67)
 .skip
 (.exit 4)))
 (.seq (.block 5 (.seq (xR [xM 70 3, xM 71 3, xM 72 5, xI 73 6 71 72, xF 74 3 73, xL 75 74, xM 76 7, xI 77 1 75 76, xL 78 77, xA 79 (.callb 16 [(.t 70),(.t 78)]), xM 8 79] [3, 5, 7, 8])
 (.seq (xR [xM 80 8, xA 81 (.bin .lss (.t 80) (xi 0)), xM 82 81, xMF 83 3 82, xMF 84 8 82, xIF 85 6 83 84 82, xFF 86 1 85 82, xLF 87 86 82, xNF 88 87 82, xA 89 (.pick (.t 82) xT (.t 88))] [3, 5, 7, 89])
 (.cond (.t 89)
 (.seq (xR [xA 2 (.mov .own (xi 5))] [2])
 .ret)
 .skip))))
 (xR [xM 68 7, xA 69 (.bin .add (.t 68) (xi 1)), xM 7 69] [3, 5, 7]))))
def f10_l1 : ACode := .loop f10_b1
theorem u10_l1 : LpEq f10_l1 f10_b1 := K_loop
def f10_b2 : ACode := (.wrap true [3, 5] [2] [(2, [3])]
 (.seq (.seq (xR [xM 32 5, xM 33 3, xH 34 33, xA 35 (.bin .lss (.t 32) (.t 34))] [3, 5, 35])
 (.cond (.t 35)
 .skip
 (.exit 2)))
 (.seq (.block 3 (.seq (.seq (xR [xM 38 3, xM 39 5, xI 40 6 38 39, xQ 41 6 40, xA 42 (.callb 27 [(.t 41)]), xM 6 42] [3, 5, 6])
 (.seq (xR [xM 43 6, xA 44 (.bin .neq (.t 43) (xs ⟨#[]⟩)), xM 45 44, xMT 46 3 45, xMT 47 6 45, xAT 48 (.callb 16 [(.t 46),(.t 47)]) 45, xAT 49 (.bin .lss (.t 48) (xi 0)) 45, xMT 50 49 45, xMF 51 3 50, xMF 52 3 50, xMF 53 6 50, xAF 54 (.callb 16 [(.t 52),(.t 53)]) 50, xIF 55 6 51 54 50, xFF 56 1 55 50, xLF 57 56 50, xAT 58 (.pick (.t 50) xT (.t 57)) 45, xA 59 (.pick (.t 45) (.t 58) xU)] [3, 5, 59])
 (.cond (.t 59)
 (.seq (xR [xA 2 (.mov .own (xi 5))] [2])
 .ret)
 .skip)))
 (.seq (xR [xA 7 (.mov .cp (xi 0))] [3, 5, 7])
 (.block 4 f10_l1))))
 (xR [xM 36 5, xA 37 (.bin .add (.t 36) (xi 1)), xM 5 37] [3, 5]))))
def f10_l2 : ACode := .loop f10_b2
theorem u10_l2 : LpEq f10_l2 f10_b2 := K_loop
def f10_b3 : ACode := (.wrap true [3, 9, 10, 11] [2] [(8, [3, 9])]
 (.seq (.seq (xR [xM 101 11, xM 102 10, xH 103 102, xA 104 (.bin .lss (.t 101) (.t 103))] [3, 9, 10, 11, 104])
 (.cond (.t 104)
 .skip
 (.exit 8)))
 (.seq (.block 9 (.seq (xG [xM 107 3, xM 108 10, xM 109 11, xI 110 1 108 109, xL 111 110, xA 112 (.callb 32 [(.t 107),(.t 111)]), xM 113 3, xM 114 9, xI 115 6 113 114, xF 116 0 115, xL 117 116, xA 118 (.callb 31 [(.t 112),(.t 117)])] [3, 9, 10, 11, 118])
 (.cond (.t 118)
 (.seq (xR [xA 2 (.mov .own (xi 7))] [2])
 .ret)
 .skip)))
 (xR [xM 105 11, xA 106 (.bin .add (.t 105) (xi 1)), xM 11 106] [3, 9, 10, 11]))))
def f10_l3 : ACode := .loop f10_b3
theorem u10_l3 : LpEq f10_l3 f10_b3 := K_loop
def f10_b4 : ACode := (.wrap true [3, 9] [2] [(6, [])]
 (.seq (.seq (xR [xM 90 9, xM 91 3, xH 92 91, xA 93 (.bin .lss (.t 90) (.t 92))] [3, 9, 93])
 (.cond (.t 93)
 .skip
 (.exit 6)))
 (.seq (.block 7 (.seq (xR [xM 96 3, xM 97 9, xI 98 6 96 97, xQ 99 6 98, xA 100 (.callb 30 [(.t 99)]), xM 10 100] [3, 9, 10])
 (.seq (xR [xA 11 (.mov .cp (xi 0))] [3, 9, 10, 11])
 (.block 8 f10_l3))))
 (xR [xM 94 9, xA 95 (.bin .add (.t 94) (xi 1)), xM 9 95] [3, 9]))))
def f10_l4 : ACode := .loop f10_b4
theorem u10_l4 : LpEq f10_l4 f10_b4 := K_loop
/-- delver/delverref04.Hier -/
def f10 : AFun := ⟨1,
 (.seq (xR [xB 1 0, xA 2 (.mov .own (xi 0))] [1])
 (.seq (.seq (xR [xQ 12 1 1, xA 13 (.callb 29 [(.t 12)]), xN 14 13] [1, 14])
 (.cond (.t 14)
 (.seq (xR [xA 2 (.mov .own (xi 4))] [2])
 .ret)
 .skip))
 (.seq (xR [xQ 15 1 1, xA 16 (.callb 23 [(.t 15)]), xM 3 16] [3])
 (.seq (.seq (xR [xA 4 (.mov .cp (xi 0))] [3, 4])
 (.block 0 f10_l0))
 (.seq (.seq (xR [xA 5 (.mov .cp (xi 0))] [3, 5])
 (.block 2 f10_l2))
 (.seq (.seq (xR [xA 9 (.mov .cp (xi 0))] [3, 9])
 (.block 6 f10_l4))
 (.seq (xR [xA 2 (.mov .own (xi 0))] [2])
 .ret))))))), [(.tmp 2)], .pure, false, false⟩
/-- slices.Clone[[]string,string] -/
def f53 : AFun := ⟨1,
 (.seq (xR [xA 2 (.mov .own (.k (.c (.osl 1 []))))] [0])
 (.seq (.seq (xR [xM 3 0, xA 4 (.eq false 4 [] (.t 3) (.k (.c (.b .nils))))] [0, 4])
 (.cond (.t 4)
 (.seq (xR [xA 2 (.mov .own (.k (.c (.osl 1 []))))] [2])
 .ret)
 .skip))
 (.seq (xR [xA 5 (.bsl .own 1 0 [xa] []), xM 6 0, xA 7 (.app 1 16 (.t 5) (.t 6)), xO 2 7] [2])
 .ret))), [(.tmp 2)], .pure, true, false⟩
/-- slices.Clone[[]delver/api.Field,delver/api.Field] -/
def f54 : AFun := ⟨1,
 (.seq (xR [xA 2 (.mov .own (.k (.c (.osl 4 []))))] [0])
 (.seq (.seq (xR [xM 3 0, xA 4 (.eq false 4 [] (.t 3) (.k (.c (.b .nils))))] [0, 4])
 (.cond (.t 4)
 (.seq (xR [xA 2 (.mov .own (.k (.c (.osl 4 []))))] [2])
 .ret)
 .skip))
 (.seq (xR [xA 5 (.bsl .own 4 0 [xa,xc,xa,xb] []), xM 6 0, xA 7 (.app 4 48 (.t 5) (.t 6)), xO 2 7] [2])
 .ret))), [(.tmp 2)], .pure, true, false⟩
/-- slices.Clone[[]delver/api.Type,delver/api.Type] -/
def f70 : AFun := ⟨1,
 (.seq (xR [xA 2 (.mov .own (.k (.c (.osl 2 []))))] [0])
 (.seq (.seq (xR [xM 3 0, xA 4 (.eq false 4 [] (.t 3) (.k (.c (.b .nils))))] [0, 4])
 (.cond (.t 4)
 (.seq (xR [xA 2 (.mov .own (.k (.c (.osl 2 []))))] [2])
 .ret)
 .skip))
 (.seq (xR [xA 5 (.bsl .own 2 0 [xc,xa] []), xM 6 0, xA 7 (.app 2 24 (.t 5) (.t 6)), xO 2 7] [2])
 .ret))), [(.tmp 2)], .pure, true, false⟩
/-- slices.Clone[[]delver/api.Instr,delver/api.Instr] -/
def f71 : AFun := ⟨1,
 (.seq (xR [xA 2 (.mov .own (.k (.c (.osl 4 []))))] [0])
 (.seq (.seq (xR [xM 3 0, xA 4 (.eq false 4 [] (.t 3) (.k (.c (.b .nils))))] [0, 4])
 (.cond (.t 4)
 (.seq (xR [xA 2 (.mov .own (.k (.c (.osl 4 []))))] [2])
 .ret)
 .skip))
 (.seq (xR [xA 5 (.bsl .own 4 0 [xc,xc,xa,xa] []), xM 6 0, xA 7 (.app 4 48 (.t 5) (.t 6)), xO 2 7] [2])
 .ret))), [(.tmp 2)], .pure, true, false⟩
/-- slices.Clone[[]delver/api.Catch,delver/api.Catch] -/
def f72 : AFun := ⟨1,
 (.seq (xR [xA 2 (.mov .own (.k (.c (.osl 4 []))))] [0])
 (.seq (.seq (xR [xM 3 0, xA 4 (.eq false 4 [] (.t 3) (.k (.c (.b .nils))))] [0, 4])
 (.cond (.t 4)
 (.seq (xR [xA 2 (.mov .own (.k (.c (.osl 4 []))))] [2])
 .ret)
 .skip))
 (.seq (xR [xA 5 (.bsl .own 4 0 [xa,xc,xc,xc] []), xM 6 0, xA 7 (.app 4 40 (.t 5) (.t 6)), xO 2 7] [2])
 .ret))), [(.tmp 2)], .pure, true, false⟩
/-- delver/hier.TwinMethod -/
def f55 : AFun := ⟨1,
 (.seq (xR [xB 1 0, xA 2 (.alloc [xa,xb,xb,(.osl 2 []),xc,xa,xc,(.osl 4 []),(.osl 4 [])])] [1, 2])
 (.seq (xG [xF 3 3 1, xL 4 3, xA 5 (.callb 70 [(.t 4)]), xF 6 7 1, xL 7 6, xA 8 (.callb 71 [(.t 7)]), xF 9 8 1, xL 10 9, xA 11 (.callb 72 [(.t 10)]), xF 12 3 1, xS 1 12 5, xF 13 7 1, xS 1 13 8, xF 14 8 1, xS 1 14 11] [1, 2])
 (.seq (xR [xQ 15 9 1, xS 9 2 15] [2])
 .ret))), [(.cell 2 (some 9))], .pure, false, false⟩
def f38_b0 : ACode := (.wrap true [1, 2, 3, 15, 16, 17] [2] [(0, [1, 2, 3])]
 (.seq (xR [xA 18 (.bin .lss (.t 17) (.t 16))] [1, 2, 3, 15, 16, 17, 18])
 (.seq (.cond (.t 18)
 .skip
 (.exit 0))
 (.seq (.block 1 (.seq (xR [xI 19 9 15 17, xQ 20 9 19, xA 5 (.alloc [xa,xb,xb,(.osl 2 []),xc,xa,xc,(.osl 4 []),(.osl 4 [])]), xS 9 5 20] [1, 2, 3, 5, 15, 16, 17])
 (xR [xO 21 3, xQ 22 9 5, xA 23 (.callb 55 [(.t 22)]), xA 24 (.bsl .own 9 1 [xa,xb,xb,(.osl 2 []),xc,xa,xc,(.osl 4 []),(.osl 4 [])] [(0,(.t 23))]), xA 25 (.app 9 128 (.t 21) (.t 24)), xO 3 25] [1, 2, 3, 15, 16, 17])))
 (xR [xA 26 (.bin .add (.t 17) (xi 1)), xM 17 26] [1, 2, 3, 15, 16, 17])))))
def f38_l0 : ACode := .loop f38_b0
theorem u38_l0 : LpEq f38_l0 f38_b0 := K_loop
/-- delver/hier.twin -/
def f38 : AFun := ⟨1,
 (.seq (xR [xB 1 0, xA 2 (.alloc [xa,xb,xa,(.osl 1 []),(.osl 4 []),(.osl 9 [])])] [1, 2])
 (.seq (xG [xF 6 3 1, xL 7 6, xA 8 (.callb 53 [(.t 7)]), xF 9 4 1, xL 10 9, xA 11 (.callb 54 [(.t 10)]), xF 12 3 1, xS 1 12 8, xF 13 4 1, xS 1 13 11] [1, 2])
 (.seq (xR [xA 3 (.mov .own (.k (.c (.osl 9 []))))] [1, 2, 3])
 (.seq (.seq (xR [xF 14 5 1, xL 15 14, xH 16 15, xA 17 (.mov .cp (xi 0))] [1, 2, 3, 15, 16, 17])
 (.block 0 f38_l0))
 (.seq (xR [xM 27 3, xF 28 5 1, xS 1 28 27] [1, 2])
 (.seq (xR [xQ 29 6 1, xS 6 2 29] [2])
 .ret)))))), [(.cell 2 (some 6))], .pure, false, false⟩
def f73_b0 : ACode := (.wrap true [0, 1, 5, 6, 14] [4] [(0, [0, 5, 6])]
 (.seq (xR [xA 15 (.bad), xE 16 0 15] [0, 1, 5, 6, 14, 15, 16])
 (.seq (.cond (.t 16)
 .skip
 (.exit 0))
 (.block 1 (.seq (xR [xE 17 1 15, xE 18 2 15, xM 7 17, xM 8 18] [0, 1, 5, 6, 7, 8, 14])
 (.seq (xR [xM 19 1, xM 20 8, xA 21 (.callv (.t 19) [(.t 20)])] [0, 1, 5, 6, 7, 14, 21])
 (.cond (.t 21)
 (.seq (xR [xM 22 6, xA 23 (.bin .geq (.t 22) (xi 0))] [0, 1, 5, 6, 7, 14, 23])
 (.cond (.t 23)
 (.seq (xR [xO 24 5, xM 25 6, xM 26 7, xA 27 (.build [xc,xc] [(0,1,(.t 25)),(1,1,(.t 26))]), xA 28 (.bsl .own 2 1 [xc,xc] [(0,(.t 27))]), xA 29 (.app 2 16 (.t 24) (.t 28)), xO 5 29] [0, 1, 5, 6, 14])
 (xR [xM 30 6, xA 31 (.un .xor (.t 30)), xM 6 31] [0, 1, 5, 6, 14]))
 .skip))
 (.seq (xR [xM 32 6, xA 33 (.bin .lss (.t 32) (xi 0))] [0, 1, 5, 6, 7, 14, 33])
 (.cond (.t 33)
 (xR [xM 34 7, xM 6 34] [0, 1, 5, 6, 14])
 .skip)))))))))
def f73_l0 : ACode := .loop f73_b0
theorem u73_l0 : LpEq f73_l0 f73_b0 := K_loop
def f73_b1 : ACode := (.wrap true [0, 9, 47, 48, 49] [4] [(2, [9])]
 (.seq (xR [xA 50 (.bin .lss (.t 49) (.t 48))] [0, 9, 47, 48, 49, 50])
 (.seq (.cond (.t 50)
 .skip
 (.exit 2))
 (.seq (.block 3 (.seq (xR [xM 51 49, xI 52 2 47 49, xQ 53 2 52, xA 11 (.alloc [xc,xc]), xM 10 51, xS 2 11 53] [0, 9, 10, 11, 47, 48, 49])
 (xR [xM 54 9, xM 55 10, xM 56 0, xF 57 0 11, xL 58 57, xF 59 1 11, xL 60 59, xA 61 (.slcs (.t 56) (some (.t 58)) (some (.t 60))), xI 62 1 54 55, xS 1 62 61] [0, 9, 47, 48, 49])))
 (xR [xA 63 (.bin .add (.t 49) (xi 1)), xM 49 63] [0, 9, 47, 48, 49])))))
def f73_l1 : ACode := .loop f73_b1
theorem u73_l1 : LpEq f73_l1 f73_b1 := K_loop
/-- strings.FieldsFunc -/
def f73 : AFun := ⟨2,
 (.seq (xR [xA 4 (.mov .own (.k (.c (.osl 1 []))))] [0, 1])
 (.seq (xR [xA 12 (.mks .own 2 16 [xc,xc] (xi 0) (xi 32)), xO 5 12] [0, 1, 5])
 (.seq (xR [xA 6 (.mov .cp (xi (-1)))] [0, 1, 5, 6])
 (.seq (.seq (xR [xM 13 0, xA 14 (.bad)] [0, 1, 5, 6, 14])
 (.block 0 f73_l0))
 (.seq (.seq (xR [xM 35 6, xA 36 (.bin .geq (.t 35) (xi 0))] [0, 5, 6, 36])
 (.cond (.t 36)
 (xR [xO 37 5, xM 38 6, xM 39 0, xA 40 (.len 1 (.t 39)), xA 41 (.build [xc,xc] [(0,1,(.t 38)),(1,1,(.t 40))]), xA 42 (.bsl .own 2 1 [xc,xc] [(0,(.t 41))]), xA 43 (.app 2 16 (.t 37) (.t 42)), xO 5 43] [0, 5])
 .skip))
 (.seq (xR [xM 44 5, xH 45 44, xA 46 (.mks .own 1 16 [xa] (.t 45) (.t 45)), xO 9 46] [0, 5, 9])
 (.seq (.seq (xR [xM 47 5, xH 48 47, xA 49 (.mov .cp (xi 0))] [0, 9, 47, 48, 49])
 (.block 2 f73_l1))
 (.seq (xR [xO 64 9, xO 4 64] [4])
 .ret)))))))), [(.tmp 4)], .pure, false, false⟩
def f100_b0 : ACode := (.wrap true [0, 1, 19, 20] [4] [(0, [])]
 (.seq (xR [xA 21 (.bin .lss (.t 20) (.t 19))] [0, 1, 19, 20, 21])
 (.seq (.cond (.t 21)
 .skip
 (.exit 0))
 (.seq (.block 1 (.seq (xR [xM 22 20, xM 5 22] [0, 1, 5, 19, 20])
 (.seq (xR [xM 23 0, xM 24 5, xI 25 3 23 24, xM 6 25] [0, 1, 6, 19, 20])
 (.seq (.seq (xR [xM 26 1, xM 27 6, xA 28 (.nilc (.t 27)), xF 29 0 28, xL 30 29, xA 31 (.bin .lss (.t 26) (.t 30))] [0, 1, 6, 19, 20, 31])
 (.cond (.t 31)
 (.seq (xR [xA 4 (.mov .own xU)] [4])
 .ret)
 .skip))
 (.seq (xR [xM 32 1, xM 33 6, xA 34 (.nilc (.t 33)), xF 35 1 34, xL 36 35, xA 37 (.bin .leq (.t 32) (.t 36))] [0, 1, 6, 19, 20, 37])
 (.cond (.t 37)
 (.seq (xG [xM 38 6, xA 39 (.nilc (.t 38)), xF 40 2 39, xL 41 40, xA 42 (.bin .eql (.t 41) (.k (.c (.b (.d (.int .u16 1)))))), xM 43 42, xMF 44 1 43, xMF 45 6 43, xAF 46 (.nilc (.t 45)) 43, xFF 47 0 46 43, xLF 48 47 43, xAF 49 (.bin .sub (.t 44) (.t 48)) 43, xMF 50 6 43, xAF 51 (.nilc (.t 50)) 43, xFF 52 2 51 43, xLF 53 52 43, xAF 54 (.bin .rem (.t 49) (.t 53)) 43, xAF 55 (.bin .eql (.t 54) (.k (.c (.b (.d (.int .u16 0)))))) 43, xA 56 (.pick (.t 43) xT (.t 55)), xO 4 56] [4])
 .ret)
 .skip))))))
 (xR [xA 57 (.bin .add (.t 20) (xi 1)), xM 20 57] [0, 1, 19, 20])))))
def f100_l0 : ACode := .loop f100_b0
theorem u100_l0 : LpEq f100_l0 f100_b0 := K_loop
def f100_b1 : ACode := (.wrap true [0, 1, 7, 8] [4] [(2, [])]
 (.seq (.seq (xR [xM 60 7, xM 61 8, xA 62 (.bin .lss (.t 60) (.t 61))] [0, 1, 7, 8, 62])
 (.cond (.t 62)
 .skip
 (.exit 2)))
 (.block 3 (.seq (xR [xM 63 7, xM 64 8, xA 65 (.bin .add (.t 63) (.t 64)), xA 66 (.conv .u64 (.t 65)), xA 67 (.bin .shr (.t 66) (.k (.c (.b (.d (.int .u64 1)))))), xA 68 (.conv .i64 (.t 67)), xM 9 68] [0, 1, 7, 8, 9])
 (.seq (xR [xM 69 0, xM 70 9, xI 71 3 69 70, xM 10 71] [0, 1, 7, 8, 9, 10])
 (.seq (.seq (xR [xM 72 10, xA 73 (.nilc (.t 72)), xF 74 0 73, xL 75 74, xM 76 1, xA 77 (.bin .leq (.t 75) (.t 76)), xM 78 77, xMT 79 1 78, xMT 80 10 78, xAT 81 (.nilc (.t 80)) 78, xFT 82 1 81 78, xLT 83 82 78, xAT 84 (.bin .leq (.t 79) (.t 83)) 78, xA 85 (.pick (.t 78) (.t 84) xU)] [0, 1, 7, 8, 9, 10, 85])
 (.cond (.t 85)
 (.seq (xG [xM 86 10, xA 87 (.nilc (.t 86)), xF 88 2 87, xL 89 88, xA 90 (.bin .eql (.t 89) (.k (.c (.b (.d (.int .u16 1)))))), xM 91 90, xMF 92 1 91, xMF 93 10 91, xAF 94 (.nilc (.t 93)) 91, xFF 95 0 94 91, xLF 96 95 91, xAF 97 (.bin .sub (.t 92) (.t 96)) 91, xMF 98 10 91, xAF 99 (.nilc (.t 98)) 91, xFF 100 2 99 91, xLF 101 100 91, xAF 102 (.bin .rem (.t 97) (.t 101)) 91, xAF 103 (.bin .eql (.t 102) (.k (.c (.b (.d (.int .u16 0)))))) 91, xA 104 (.pick (.t 91) xT (.t 103)), xO 4 104] [4])
 .ret)
 .skip))
 (.seq (xR [xM 105 1, xM 106 10, xA 107 (.nilc (.t 106)), xF 108 0 107, xL 109 108, xA 110 (.bin .lss (.t 105) (.t 109))] [0, 1, 7, 8, 9, 110])
 (.cond (.t 110)
 (xR [xM 111 9, xM 8 111] [0, 1, 7, 8])
 (xR [xM 112 9, xA 113 (.bin .add (.t 112) (xi 1)), xM 7 113] [0, 1, 7, 8])))))))))
def f100_l1 : ACode := .loop f100_b1
theorem u100_l1 : LpEq f100_l1 f100_b1 := K_loop
/-- unicode.is16 -/
def f100 : AFun := ⟨2,
 (.seq (xR [xA 4 (.mov .own xU)] [0, 1])
 (.seq (.seq (xR [xM 11 0, xH 12 11, xA 13 (.bin .leq (.t 12) (xi 18)), xM 14 13, xMF 15 1 14, xAF 16 (.bin .leq (.t 15) (.k (.c (.b (.d (.int .u16 255)))))) 14, xA 17 (.pick (.t 14) xT (.t 16))] [0, 1, 17])
 (.cond (.t 17)
 (.seq (.seq (xR [xM 18 0, xH 19 18, xA 20 (.mov .cp (xi 0))] [0, 1, 19, 20])
 (.block 0 f100_l0))
 (.seq (xR [xA 4 (.mov .own xU)] [4])
 .ret))
 .skip))
 (.seq (xR [xA 7 (.mov .cp (xi 0))] [0, 1, 7])
 (.seq (xR [xM 58 0, xH 59 58, xM 8 59] [0, 1, 7, 8])
 (.seq (.block 2 f100_l1)
 (.seq (xR [xA 4 (.mov .own xU)] [4])
 .ret)))))), [(.tmp 4)], .pure, false, false⟩
def f101_b0 : ACode := (.wrap true [0, 1, 15, 16] [4] [(0, [])]
 (.seq (xR [xA 17 (.bin .lss (.t 16) (.t 15))] [0, 1, 15, 16, 17])
 (.seq (.cond (.t 17)
 .skip
 (.exit 0))
 (.seq (.block 1 (.seq (xR [xM 18 16, xM 5 18] [0, 1, 5, 15, 16])
 (.seq (xR [xM 19 0, xM 20 5, xI 21 3 19 20, xM 6 21] [0, 1, 6, 15, 16])
 (.seq (.seq (xR [xM 22 1, xM 23 6, xA 24 (.nilc (.t 23)), xF 25 0 24, xL 26 25, xA 27 (.bin .lss (.t 22) (.t 26))] [0, 1, 6, 15, 16, 27])
 (.cond (.t 27)
 (.seq (xR [xA 4 (.mov .own xU)] [4])
 .ret)
 .skip))
 (.seq (xR [xM 28 1, xM 29 6, xA 30 (.nilc (.t 29)), xF 31 1 30, xL 32 31, xA 33 (.bin .leq (.t 28) (.t 32))] [0, 1, 6, 15, 16, 33])
 (.cond (.t 33)
 (.seq (xG [xM 34 6, xA 35 (.nilc (.t 34)), xF 36 2 35, xL 37 36, xA 38 (.bin .eql (.t 37) (.k (.c (.b (.d (.int .u32 1)))))), xM 39 38, xMF 40 1 39, xMF 41 6 39, xAF 42 (.nilc (.t 41)) 39, xFF 43 0 42 39, xLF 44 43 39, xAF 45 (.bin .sub (.t 40) (.t 44)) 39, xMF 46 6 39, xAF 47 (.nilc (.t 46)) 39, xFF 48 2 47 39, xLF 49 48 39, xAF 50 (.bin .rem (.t 45) (.t 49)) 39, xAF 51 (.bin .eql (.t 50) (.k (.c (.b (.d (.int .u32 0)))))) 39, xA 52 (.pick (.t 39) xT (.t 51)), xO 4 52] [4])
 .ret)
 .skip))))))
 (xR [xA 53 (.bin .add (.t 16) (xi 1)), xM 16 53] [0, 1, 15, 16])))))
def f101_l0 : ACode := .loop f101_b0
theorem u101_l0 : LpEq f101_l0 f101_b0 := K_loop
def f101_b1 : ACode := (.wrap true [0, 1, 7, 8] [4] [(2, [])]
 (.seq (.seq (xR [xM 56 7, xM 57 8, xA 58 (.bin .lss (.t 56) (.t 57))] [0, 1, 7, 8, 58])
 (.cond (.t 58)
 .skip
 (.exit 2)))
 (.block 3 (.seq (xR [xM 59 7, xM 60 8, xA 61 (.bin .add (.t 59) (.t 60)), xA 62 (.conv .u64 (.t 61)), xA 63 (.bin .shr (.t 62) (.k (.c (.b (.d (.int .u64 1)))))), xA 64 (.conv .i64 (.t 63)), xM 9 64] [0, 1, 7, 8, 9])
 (.seq (xR [xM 65 0, xM 66 9, xI 67 3 65 66, xQ 68 3 67, xA 10 (.alloc [(.b (.d (.int .u32 0))),(.b (.d (.int .u32 0))),(.b (.d (.int .u32 0)))]), xS 3 10 68] [0, 1, 7, 8, 9, 10])
 (.seq (.seq (xR [xF 69 0 10, xL 70 69, xM 71 1, xA 72 (.bin .leq (.t 70) (.t 71)), xM 73 72, xMT 74 1 73, xFT 75 1 10 73, xLT 76 75 73, xAT 77 (.bin .leq (.t 74) (.t 76)) 73, xA 78 (.pick (.t 73) (.t 77) xU)] [0, 1, 7, 8, 9, 10, 78])
 (.cond (.t 78)
 (.seq (xR [xF 79 2 10, xL 80 79, xA 81 (.bin .eql (.t 80) (.k (.c (.b (.d (.int .u32 1)))))), xM 82 81, xMF 83 1 82, xFF 84 0 10 82, xLF 85 84 82, xAF 86 (.bin .sub (.t 83) (.t 85)) 82, xFF 87 2 10 82, xLF 88 87 82, xAF 89 (.bin .rem (.t 86) (.t 88)) 82, xAF 90 (.bin .eql (.t 89) (.k (.c (.b (.d (.int .u32 0)))))) 82, xA 91 (.pick (.t 82) xT (.t 90)), xO 4 91] [4])
 .ret)
 .skip))
 (.seq (xR [xM 92 1, xF 93 0 10, xL 94 93, xA 95 (.bin .lss (.t 92) (.t 94))] [0, 1, 7, 8, 9, 95])
 (.cond (.t 95)
 (xR [xM 96 9, xM 8 96] [0, 1, 7, 8])
 (xR [xM 97 9, xA 98 (.bin .add (.t 97) (xi 1)), xM 7 98] [0, 1, 7, 8])))))))))
def f101_l1 : ACode := .loop f101_b1
theorem u101_l1 : LpEq f101_l1 f101_b1 := K_loop
/-- unicode.is32 -/
def f101 : AFun := ⟨2,
 (.seq (xR [xA 4 (.mov .own xU)] [0, 1])
 (.seq (.seq (xR [xM 11 0, xH 12 11, xA 13 (.bin .leq (.t 12) (xi 18))] [0, 1, 13])
 (.cond (.t 13)
 (.seq (.seq (xR [xM 14 0, xH 15 14, xA 16 (.mov .cp (xi 0))] [0, 1, 15, 16])
 (.block 0 f101_l0))
 (.seq (xR [xA 4 (.mov .own xU)] [4])
 .ret))
 .skip))
 (.seq (xR [xA 7 (.mov .cp (xi 0))] [0, 1, 7])
 (.seq (xR [xM 54 0, xH 55 54, xM 8 55] [0, 1, 7, 8])
 (.seq (.block 2 f101_l1)
 (.seq (xR [xA 4 (.mov .own xU)] [4])
 .ret)))))), [(.tmp 4)], .pure, false, false⟩
/-- unicode.isExcludingLatin -/
def f85 : AFun := ⟨2,
 (.seq (xR [xA 4 (.mov .own xU)] [0, 1])
 (.seq (xR [xM 8 0, xA 9 (.nilc (.t 8)), xF 10 0 9, xL 11 10, xM 5 11] [0, 1, 5])
 (.seq (.seq (xR [xM 12 0, xA 13 (.nilc (.t 12)), xF 14 2 13, xL 15 14, xM 6 15] [0, 1, 5, 6])
 (.seq (xR [xM 16 5, xH 17 16, xM 18 6, xA 19 (.bin .gtr (.t 17) (.t 18)), xM 20 19, xMT 21 1 20, xAT 22 (.conv .u32 (.t 21)) 20, xMT 23 5 20, xMT 24 5 20, xAT 25 (.len 0 (.t 24)) 20, xAT 26 (.bin .sub (.t 25) (xi 1)) 20, xIT 27 3 23 26 20, xFT 28 1 27 20, xLT 29 28 20, xAT 30 (.conv .u32 (.t 29)) 20, xAT 31 (.bin .leq (.t 22) (.t 30)) 20, xA 32 (.pick (.t 20) (.t 31) xU)] [0, 1, 5, 6, 32])
 (.cond (.t 32)
 (.seq (xR [xM 33 5, xM 34 6, xA 35 (.slc .cp 3 (.t 33) (some (.t 34)) none), xM 36 1, xA 37 (.conv .u16 (.t 36)), xA 38 (.callb 100 [(.t 35),(.t 37)]), xO 4 38] [4])
 .ret)
 .skip)))
 (.seq (xR [xM 39 0, xA 40 (.nilc (.t 39)), xF 41 1 40, xL 42 41, xM 7 42] [1, 7])
 (.seq (.seq (xR [xM 43 7, xH 44 43, xA 45 (.bin .gtr (.t 44) (xi 0)), xM 46 45, xMT 47 1 46, xMT 48 7 46, xAT 49 (.ia 3 (.t 48) (xi 0)) 46, xFT 50 0 49 46, xLT 51 50 46, xAT 52 (.conv .i32 (.t 51)) 46, xAT 53 (.bin .geq (.t 47) (.t 52)) 46, xA 54 (.pick (.t 46) (.t 53) xU)] [1, 7, 54])
 (.cond (.t 54)
 (.seq (xR [xM 55 7, xM 56 1, xA 57 (.conv .u32 (.t 56)), xA 58 (.callb 101 [(.t 55),(.t 57)]), xO 4 58] [4])
 .ret)
 .skip))
 (.seq (xR [xA 4 (.mov .own xU)] [4])
 .ret)))))), [(.tmp 4)], .pure, false, false⟩
/-- unicode.IsSpace -/
def f74 : AFun := ⟨1,
 (.seq (xR [xA 2 (.mov .own xU)] [0])
 (.seq (.seq (xR [xM 3 0, xA 4 (.conv .u32 (.t 3)), xA 5 (.bin .leq (.t 4) (.k (.c (.b (.d (.int .u32 255))))))] [0, 5])
 (.cond (.t 5)
 (.seq (.seq (xR [xM 6 0] [6])
 (.block 0 (.seq (.seq (xR [xA 8 (.bin .eql (.t 6) (.k (.c (.b (.d (.int .i32 9)))))), xM 7 8] [6, 7])
 (.cond (.t 7)
 .skip
 (.seq (xR [xA 9 (.bin .eql (.t 6) (.k (.c (.b (.d (.int .i32 10)))))), xM 7 9] [6, 7])
 (.cond (.t 7)
 .skip
 (.seq (xR [xA 10 (.bin .eql (.t 6) (.k (.c (.b (.d (.int .i32 11)))))), xM 7 10] [6, 7])
 (.cond (.t 7)
 .skip
 (.seq (xR [xA 11 (.bin .eql (.t 6) (.k (.c (.b (.d (.int .i32 12)))))), xM 7 11] [6, 7])
 (.cond (.t 7)
 .skip
 (.seq (xR [xA 12 (.bin .eql (.t 6) (.k (.c (.b (.d (.int .i32 13)))))), xM 7 12] [6, 7])
 (.cond (.t 7)
 .skip
 (.seq (xR [xA 13 (.bin .eql (.t 6) (.k (.c (.b (.d (.int .i32 32)))))), xM 7 13] [6, 7])
 (.cond (.t 7)
 .skip
 (.seq (xR [xA 14 (.bin .eql (.t 6) (.k (.c (.b (.d (.int .i32 133)))))), xM 7 14] [6, 7])
 (.cond (.t 7)
 .skip
 (xR [xA 15 (.bin .eql (.t 6) (.k (.c (.b (.d (.int .i32 160)))))), xM 7 15] [7])))))))))))))))
 (.cond (.t 7)
 (.seq (xR [xA 2 (.mov .own xT)] [2])
 .ret)
 .skip))))
 (.seq (xR [xA 2 (.mov .own xU)] [2])
 .ret))
 .skip))
 (.seq (xR [xA 16 (.bad), xM 17 0, xA 18 (.call 85 [(.t 16),(.t 17)]), xO 2 18] [2])
 .ret))), [(.tmp 2)], .pure, false, false⟩
def f57_b0 : ACode := (.wrap true [0, 3, 4, 5, 6] [2] [(0, [0, 3, 5])]
 (.seq (.seq (xR [xM 13 6, xM 14 0, xA 15 (.len 1 (.t 14)), xA 16 (.bin .lss (.t 13) (.t 15))] [0, 3, 4, 5, 6, 16])
 (.cond (.t 16)
 .skip
 (.exit 0)))
 (.seq (.block 1 (.seq (xR [xM 19 0, xM 20 6, xA 21 (.ixs (.t 19) (.t 20)), xM 7 21] [0, 3, 4, 5, 6, 7])
 (.seq (xR [xM 22 5, xM 23 7, xA 24 (.bin .or (.t 22) (.t 23)), xM 5 24] [0, 3, 4, 5, 6, 7])
 (.seq (xR [xM 25 7, xA 26 (.ga 0 1 (.t 25)), xL 27 26, xA 28 (.conv .i64 (.t 27)), xM 8 28] [0, 3, 4, 5, 6, 8])
 (.seq (xR [xM 29 3, xM 30 4, xM 31 8, xA 32 (.un .xor (.t 31)), xA 33 (.bin .and (.t 30) (.t 32)), xA 34 (.bin .add (.t 29) (.t 33)), xM 3 34] [0, 3, 5, 6, 8])
 (xR [xM 35 8, xM 4 35] [0, 3, 4, 5, 6]))))))
 (xR [xM 17 6, xA 18 (.bin .add (.t 17) (xi 1)), xM 6 18] [0, 3, 4, 5, 6]))))
def f57_l0 : ACode := .loop f57_b0
theorem u57_l0 : LpEq f57_l0 f57_b0 := K_loop
def f57_b1 : ACode := (.wrap true [0, 9, 10, 12] [2] [(2, [0, 9, 10, 12])]
 (.seq (.seq (xR [xM 42 12, xM 43 0, xA 44 (.len 1 (.t 43)), xA 45 (.bin .lss (.t 42) (.t 44)), xM 46 45, xMT 47 0 46, xMT 48 12 46, xAT 49 (.ixs (.t 47) (.t 48)) 46, xAT 50 (.ga 0 1 (.t 49)) 46, xLT 51 50 46, xAT 52 (.bin .neq (.t 51) (.k (.c (.b (.d (.int .u8 0)))))) 46, xA 53 (.pick (.t 46) (.t 52) xU)] [0, 9, 10, 12, 53])
 (.cond (.t 53)
 .skip
 (.exit 2)))
 (.block 3 (xR [xM 54 12, xA 55 (.bin .add (.t 54) (xi 1)), xM 12 55] [0, 9, 10, 12]))))
def f57_l1 : ACode := .loop f57_b1
theorem u57_l1 : LpEq f57_l1 f57_b1 := K_loop
def f57_b2 : ACode := (.wrap true [0, 9, 10, 12] [2] [(6, [0, 9, 10, 12])]
 (.seq (.seq (xR [xM 80 12, xM 81 0, xA 82 (.len 1 (.t 81)), xA 83 (.bin .lss (.t 80) (.t 82)), xM 84 83, xMT 85 0 84, xMT 86 12 84, xAT 87 (.ixs (.t 85) (.t 86)) 84, xAT 88 (.ga 0 1 (.t 87)) 84, xLT 89 88 84, xAT 90 (.bin .neq (.t 89) (.k (.c (.b (.d (.int .u8 0)))))) 84, xA 91 (.pick (.t 84) (.t 90) xU)] [0, 9, 10, 12, 91])
 (.cond (.t 91)
 .skip
 (.exit 6)))
 (.block 7 (xR [xM 92 12, xA 93 (.bin .add (.t 92) (xi 1)), xM 12 93] [0, 9, 10, 12]))))
def f57_l2 : ACode := .loop f57_b2
theorem u57_l2 : LpEq f57_l2 f57_b2 := K_loop
def f57_b3 : ACode := (.wrap true [0, 9, 10, 11, 12] [2] [(4, [0, 9, 10, 11])]
 (.seq (.seq (xR [xM 57 12, xM 58 0, xA 59 (.len 1 (.t 58)), xA 60 (.bin .lss (.t 57) (.t 59))] [0, 9, 10, 11, 12, 60])
 (.cond (.t 60)
 .skip
 (.exit 4)))
 (.block 5 (.seq (.seq (xR [xM 61 0, xM 62 12, xA 63 (.ixs (.t 61) (.t 62)), xA 64 (.ga 0 1 (.t 63)), xL 65 64, xA 66 (.bin .eql (.t 65) (.k (.c (.b (.d (.int .u8 0))))))] [0, 9, 10, 11, 12, 66])
 (.cond (.t 66)
 (.seq (xR [xM 67 12, xA 68 (.bin .add (.t 67) (xi 1)), xM 12 68] [0, 9, 10, 11, 12])
 (.exit 5))
 .skip))
 (.seq (xR [xM 69 9, xM 70 10, xM 71 0, xM 72 11, xM 73 12, xA 74 (.slcs (.t 71) (some (.t 72)) (some (.t 73))), xI 75 1 69 70, xS 1 75 74] [0, 9, 10, 12])
 (.seq (xR [xM 76 10, xA 77 (.bin .add (.t 76) (xi 1)), xM 10 77] [0, 9, 10, 12])
 (.seq (xR [xM 78 12, xA 79 (.bin .add (.t 78) (xi 1)), xM 12 79] [0, 9, 10, 12])
 (.seq (.block 6 f57_l2)
 (xR [xM 94 12, xM 11 94] [0, 9, 10, 11, 12])))))))))
def f57_l3 : ACode := .loop f57_b3
theorem u57_l3 : LpEq f57_l3 f57_b3 := K_loop
/-- strings.Fields -/
def f57 : AFun := ⟨1,
 (.seq (xR [xA 2 (.mov .own (.k (.c (.osl 1 []))))] [0])
 (.seq (xR [xA 3 (.mov .cp (xi 0))] [0, 3])
 (.seq (xR [xA 4 (.mov .cp (xi 1))] [0, 3, 4])
 (.seq (xR [xA 5 (.mov .cp (.k (.c (.b (.d (.int .u8 0))))))] [0, 3, 4, 5])
 (.seq (.seq (xR [xA 6 (.mov .cp (xi 0))] [0, 3, 4, 5, 6])
 (.block 0 f57_l0))
 (.seq (.seq (xR [xM 36 5, xA 37 (.bin .geq (.t 36) (.k (.c (.b (.d (.int .u8 128))))))] [0, 3, 37])
 (.cond (.t 37)
 (.seq (xR [xM 38 0, xA 39 (.call 73 [(.t 38),(.k (.c (.fn 74 [] [])))]), xO 2 39] [2])
 .ret)
 .skip))
 (.seq (xR [xM 40 3, xA 41 (.mks .arr 1 16 [xa] (.t 40) (.t 40)), xM 9 41] [0, 9])
 (.seq (xR [xA 10 (.mov .cp (xi 0))] [0, 9, 10])
 (.seq (xR [xA 11 (.mov .cp (xi 0))] [0, 9, 10])
 (.seq (xR [xA 12 (.mov .cp (xi 0))] [0, 9, 10, 12])
 (.seq (.block 2 f57_l1)
 (.seq (xR [xM 56 12, xM 11 56] [0, 9, 10, 11, 12])
 (.seq (.block 4 f57_l3)
 (.seq (.seq (xR [xM 95 11, xM 96 0, xA 97 (.len 1 (.t 96)), xA 98 (.bin .lss (.t 95) (.t 97))] [0, 9, 10, 11, 98])
 (.cond (.t 98)
 (xR [xM 99 9, xM 100 10, xM 101 0, xM 102 11, xA 103 (.slcs (.t 101) (some (.t 102)) none), xI 104 1 99 100, xS 1 104 103] [9])
 .skip))
 (.seq (xR [xM 105 9, xO 2 105] [2])
 .ret))))))))))))))), [(.tmp 2)], .pure, false, false⟩
def f40_b0 : ACode := (.wrap true [1, 7, 8, 9] [0] [(0, [1])]
 (.seq (xR [xA 10 (.bin .lss (.t 9) (.t 8))] [1, 7, 8, 9, 10])
 (.seq (.cond (.t 10)
 .skip
 (.exit 0))
 (.seq (.block 1 (.seq (xR [xI 11 1 7 9, xL 12 11, xM 3 12] [1, 3, 7, 8, 9])
 (xR [xO 13 1, xM 14 3, xA 15 (.build [xa,xb,xa,(.osl 1 []),(.osl 4 []),(.osl 9 [])] [(0,1,(.t 14)),(2,1,(xs ⟨#[69,114,114,111,114]⟩))]), xA 16 (.bsl .own 6 1 [xa,xb,xa,(.osl 1 []),(.osl 4 []),(.osl 9 [])] [(0,(.t 15))]), xA 17 (.app 6 112 (.t 13) (.t 16)), xO 1 17] [1, 7, 8, 9])))
 (xR [xA 18 (.bin .add (.t 9) (xi 1)), xM 9 18] [1, 7, 8, 9])))))
def f40_l0 : ACode := .loop f40_b0
theorem u40_l0 : LpEq f40_l0 f40_b0 := K_loop
/-- delver/hier.always -/
def f40 : AFun := ⟨0,
 (.seq (xR [xA 0 (.mov .own (.k (.c (.osl 6 []))))] [])
 (.seq (xR [xA 4 (.build [xa,xb,xa,(.osl 1 []),(.osl 4 []),(.osl 9 [])] [(0,1,(xs ⟨#[79,98,106,101,99,116]⟩))]), xA 5 (.build [xa,xb,xa,(.osl 1 []),(.osl 4 []),(.osl 9 [])] [(0,1,(xs ⟨#[69,114,114,111,114]⟩)),(2,1,(xs ⟨#[79,98,106,101,99,116]⟩))]), xA 6 (.bsl .own 6 2 [xa,xb,xa,(.osl 1 []),(.osl 4 []),(.osl 9 [])] [(0,(.t 4)),(1,(.t 5))]), xO 1 6] [1])
 (.seq (.seq (xR [xA 7 (.callb 57 [(xs ⟨#[78,117,108,108,69,114,114,111,114,32,82,97,110,103,101,69,114,114,111,114,32,67,97,115,116,69,114,114,111,114,32,78,117,109,69,114,114,111,114,32,83,105,122,101,69,114,114,111,114,32,68,101,112,116,104,69,114,114,111,114]⟩)]), xH 8 7, xA 9 (.mov .cp (xi 0))] [1, 7, 8, 9])
 (.block 0 f40_l0))
 (.seq (xR [xO 19 1, xO 0 19] [0])
 .ret)))), [(.tmp 0)], .pure, false, false⟩
def f22_b0 : ACode := (.wrap true [3, 8, 9, 10] [2] [(0, [3])]
 (.seq (xR [xA 11 (.bin .lss (.t 10) (.t 9))] [3, 8, 9, 10, 11])
 (.seq (.cond (.t 11)
 .skip
 (.exit 0))
 (.seq (.block 1 (.seq (xR [xI 12 6 8 10, xQ 13 6 12, xA 5 (.alloc [xa,xb,xa,(.osl 1 []),(.osl 4 []),(.osl 9 [])]), xS 6 5 13] [3, 5, 8, 9, 10])
 (xR [xO 14 3, xQ 15 6 5, xA 16 (.callb 38 [(.t 15)]), xA 17 (.bsl .own 6 1 [xa,xb,xa,(.osl 1 []),(.osl 4 []),(.osl 9 [])] [(0,(.t 16))]), xA 18 (.app 6 112 (.t 14) (.t 17)), xO 3 18] [3, 8, 9, 10])))
 (xR [xA 19 (.bin .add (.t 10) (xi 1)), xM 10 19] [3, 8, 9, 10])))))
def f22_l0 : ACode := .loop f22_b0
theorem u22_l0 : LpEq f22_l0 f22_b0 := K_loop
/-- delver/hier.All -/
def f22 : AFun := ⟨1,
 (.seq (xR [xB 1 0, xA 2 (.mov .own (.k (.c (.osl 6 []))))] [1])
 (.seq (xR [xA 6 (.callb 40 []), xO 3 6] [1, 3])
 (.seq (.seq (xR [xF 7 0 1, xL 8 7, xH 9 8, xA 10 (.mov .cp (xi 0))] [3, 8, 9, 10])
 (.block 0 f22_l0))
 (.seq (xR [xO 20 3, xO 2 20] [2])
 .ret)))), [(.tmp 2)], .pure, false, false⟩
def f11_b0 : ACode := (.wrap true [3, 4, 5] [2] [(0, [4])]
 (.seq (.seq (xR [xM 8 5, xM 9 3, xH 10 9, xA 11 (.bin .lss (.t 8) (.t 10))] [3, 4, 5, 11])
 (.cond (.t 11)
 .skip
 (.exit 0)))
 (.seq (.block 1 (xR [xO 14 4, xM 15 3, xM 16 5, xI 17 6 15 16, xF 18 0 17, xL 19 18, xA 20 (.bsl .own 1 1 [xa] [(0,(.t 19))]), xA 21 (.app 1 16 (.t 14) (.t 20)), xO 4 21] [3, 4, 5]))
 (xR [xM 12 5, xA 13 (.bin .add (.t 12) (xi 1)), xM 5 13] [3, 4, 5]))))
def f11_l0 : ACode := .loop f11_b0
theorem u11_l0 : LpEq f11_l0 f11_b0 := K_loop
/-- delver/delverlaw04.names -/
def f11 : AFun := ⟨1,
 (.seq (xR [xB 1 0, xA 2 (.mov .own (.k (.c (.osl 1 []))))] [1])
 (.seq (xR [xQ 6 1 1, xA 7 (.callb 22 [(.t 6)]), xM 3 7] [3])
 (.seq (xR [xA 4 (.mov .own (.k (.c (.osl 1 []))))] [3, 4])
 (.seq (.seq (xR [xA 5 (.mov .cp (xi 0))] [3, 4, 5])
 (.block 0 f11_l0))
 (.seq (xR [xO 22 4, xO 2 22] [2])
 .ret))))), [(.tmp 2)], .pure, false, false⟩
def f65_b0 : ACode := (.wrap true [0, 1, 7, 8] [4] [(0, [])]
 (.seq (xR [xA 9 (.bin .lss (.t 8) (.t 7))] [0, 1, 7, 8, 9])
 (.seq (.cond (.t 9)
 .skip
 (.exit 0))
 (.seq (.block 1 (.seq (xR [xO 10 8, xO 5 10] [0, 1, 5, 7, 8])
 (.seq (xR [xM 11 1, xM 12 0, xM 13 5, xI 14 6 12 13, xQ 15 6 14, xA 16 (.callv (.t 11) [(.t 15)])] [0, 1, 5, 7, 8, 16])
 (.cond (.t 16)
 (.seq (xR [xO 17 5, xO 4 17] [4])
 .ret)
 .skip))))
 (xR [xA 18 (.bin .add (.t 8) (xi 1)), xO 8 18] [0, 1, 7, 8])))))
def f65_l0 : ACode := .loop f65_b0
theorem u65_l0 : LpEq f65_l0 f65_b0 := K_loop
/-- slices.IndexFunc[[]delver/api.Class,delver/api.Class] -/
def f65 : AFun := ⟨2,
 (.seq (xR [xA 4 (.mov .own (xi 0))] [0, 1])
 (.seq (.seq (xR [xM 6 0, xH 7 6, xA 8 (.mov .own (xi 0))] [0, 1, 7, 8])
 (.block 0 f65_l0))
 (.seq (xR [xA 4 (.mov .own (xi (-1)))] [4])
 .ret))), [(.tmp 4)], .pure, false, false⟩
/-- slices.ContainsFunc[[]delver/api.Class,delver/api.Class] -/
def f47 : AFun := ⟨2,
 (.seq (xR [xA 4 (.mov .own xU)] [0, 1])
 (.seq (xR [xM 5 0, xM 6 1, xA 7 (.call 65 [(.t 5),(.t 6)]), xA 8 (.bin .geq (.t 7) (xi 0)), xO 4 8] [4])
 .ret)), [(.tmp 4)], .pure, false, false⟩
/-- delver/show.each[delver/api.Class]$1 -/
def f78 : AFun := ⟨2,
 (.seq (xR [xB 2 0, xA 3 (.mov .own xU)] [1, 2])
 (.seq (xR [xL 4 1, xQ 5 6 2, xA 6 (.callv (.t 4) [(.t 5)]), xN 7 6, xO 3 7] [3])
 .ret)), [(.tmp 3)], .pure, false, false⟩
/-- delver/show.each[delver/api.Class] -/
def f63 : AFun := ⟨3,
 (.seq (xR [xB 5 2, xA 6 (.mov .own xU)] [0, 1, 5])
 (.seq (xR [xM 7 0, xH 8 7, xM 9 1, xA 10 (.bin .leq (.t 8) (.t 9)), xM 11 10, xMT 12 0 11, xAT 13 (.mkf 78 [] [(.t 5)]) 11, xAT 14 (.call 47 [(.t 12),(.t 13)]) 11, xNT 15 14 11, xA 16 (.pick (.t 11) (.t 15) xU), xO 6 16] [6])
 .ret)), [(.tmp 6)], .pure, false, false⟩
/-- delver/lex.letter -/
def f102 : AFun := ⟨1,
 (.seq (xR [xA 2 (.mov .own xU)] [0])
 (.seq (xR [xM 3 0, xA 4 (.bin .geq (.t 3) (.k (.c (.b (.d (.int .u8 97)))))), xM 5 4, xMT 6 0 5, xAT 7 (.bin .leq (.t 6) (.k (.c (.b (.d (.int .u8 122)))))) 5, xA 8 (.pick (.t 5) (.t 7) xU), xM 9 8, xMF 10 0 9, xAF 11 (.bin .geq (.t 10) (.k (.c (.b (.d (.int .u8 65)))))) 9, xMF 12 11 9, xMT 13 0 12, xAT 14 (.bin .leq (.t 13) (.k (.c (.b (.d (.int .u8 90)))))) 12, xAF 15 (.pick (.t 12) (.t 14) xU) 9, xA 16 (.pick (.t 9) xT (.t 15)), xM 17 16, xMF 18 0 17, xAF 19 (.bin .eql (.t 18) (.k (.c (.b (.d (.int .u8 95)))))) 17, xA 20 (.pick (.t 17) xT (.t 19)), xO 2 20] [2])
 .ret)), [(.tmp 2)], .pure, false, false⟩
/-- delver/lex.digit -/
def f103 : AFun := ⟨1,
 (.seq (xR [xA 2 (.mov .own xU)] [0])
 (.seq (xR [xM 3 0, xA 4 (.bin .geq (.t 3) (.k (.c (.b (.d (.int .u8 48)))))), xM 5 4, xMT 6 0 5, xAT 7 (.bin .leq (.t 6) (.k (.c (.b (.d (.int .u8 57)))))) 5, xA 8 (.pick (.t 5) (.t 7) xU), xO 2 8] [2])
 .ret)), [(.tmp 2)], .pure, false, false⟩
def f86_b0 : ACode := (.wrap true [0, 18, 19] [2] [(0, [])]
 (.seq (xR [xA 20 (.bin .lss (.t 19) (.t 18))] [0, 18, 19, 20])
 (.seq (.cond (.t 20)
 .skip
 (.exit 0))
 (.seq (.block 1 (.seq (xR [xM 21 19, xM 3 21] [0, 3, 18, 19])
 (.seq (xR [xM 22 0, xM 23 3, xA 24 (.ixs (.t 22) (.t 23)), xA 25 (.callb 102 [(.t 24)]), xN 26 25, xM 27 26, xMT 28 0 27, xMT 29 3 27, xAT 30 (.ixs (.t 28) (.t 29)) 27, xAT 31 (.callb 103 [(.t 30)]) 27, xNT 32 31 27, xA 33 (.pick (.t 27) (.t 32) xU)] [0, 18, 19, 33])
 (.cond (.t 33)
 (.seq (xR [xA 2 (.mov .own xU)] [2])
 .ret)
 .skip))))
 (xR [xA 34 (.bin .add (.t 19) (xi 1)), xM 19 34] [0, 18, 19])))))
def f86_l0 : ACode := .loop f86_b0
theorem u86_l0 : LpEq f86_l0 f86_b0 := K_loop
/-- delver/lex.Name -/
def f86 : AFun := ⟨1,
 (.seq (xR [xA 2 (.mov .own xU)] [0])
 (.seq (.seq (xR [xM 4 0, xA 5 (.bin .eql (.t 4) (xs ⟨#[]⟩)), xM 6 5, xMF 7 0 6, xAF 8 (.len 1 (.t 7)) 6, xAF 9 (.bin .gtr (.t 8) (xi 20)) 6, xA 10 (.pick (.t 6) xT (.t 9)), xM 11 10, xMF 12 0 11, xAF 13 (.ixs (.t 12) (xi 0)) 11, xAF 14 (.callb 102 [(.t 13)]) 11, xNF 15 14 11, xA 16 (.pick (.t 11) xT (.t 15))] [0, 16])
 (.cond (.t 16)
 (.seq (xR [xA 2 (.mov .own xU)] [2])
 .ret)
 .skip))
 (.seq (.seq (xR [xM 17 0, xA 18 (.len 1 (.t 17)), xA 19 (.mov .cp (xi 0))] [0, 18, 19])
 (.block 0 f86_l0))
 (.seq (xR [xA 2 (.mov .own xT)] [2])
 .ret)))), [(.tmp 2)], .pure, false, false⟩
def f116_b0 : ACode := (.wrap true [0, 1, 7, 8] [4] [(0, [])]
 (.seq (xR [xA 9 (.bin .lss (.t 8) (.t 7))] [0, 1, 7, 8, 9])
 (.seq (.cond (.t 9)
 .skip
 (.exit 0))
 (.seq (.block 1 (.seq (xR [xO 10 8, xO 5 10] [0, 1, 5, 7, 8])
 (.seq (xR [xM 11 1, xM 12 0, xM 13 5, xI 14 1 12 13, xL 15 14, xA 16 (.bin .eql (.t 11) (.t 15))] [0, 1, 5, 7, 8, 16])
 (.cond (.t 16)
 (.seq (xR [xO 17 5, xO 4 17] [4])
 .ret)
 .skip))))
 (xR [xA 18 (.bin .add (.t 8) (xi 1)), xO 8 18] [0, 1, 7, 8])))))
def f116_l0 : ACode := .loop f116_b0
theorem u116_l0 : LpEq f116_l0 f116_b0 := K_loop
/-- slices.Index[[]string,string] -/
def f116 : AFun := ⟨2,
 (.seq (xR [xA 4 (.mov .own (xi 0))] [0, 1])
 (.seq (.seq (xR [xM 6 0, xH 7 6, xA 8 (.mov .own (xi 0))] [0, 1, 7, 8])
 (.block 0 f116_l0))
 (.seq (xR [xA 4 (.mov .own (xi (-1)))] [4])
 .ret))), [(.tmp 4)], .pure, false, false⟩
/-- slices.Contains[[]string,string] -/
def f104 : AFun := ⟨2,
 (.seq (xR [xA 4 (.mov .own xU)] [0, 1])
 (.seq (xR [xM 5 0, xM 6 1, xA 7 (.callb 116 [(.t 5),(.t 6)]), xA 8 (.bin .geq (.t 7) (xi 0)), xO 4 8] [4])
 .ret)), [(.tmp 4)], .pure, false, false⟩
/-- delver/parse.Kept -/
def f87 : AFun := ⟨1,
 (.seq (xR [xA 2 (.mov .own xU)] [0])
 (.seq (xR [xA 3 (.callb 57 [(xs ⟨#[99,108,97,115,115,32,105,110,116,101,114,102,97,99,101,32,101,120,116,101,110,100,115,32,105,109,112,108,101,109,101,110,116,115,32,102,105,101,108,100,32,115,116,97,116,105,99,32,109,101,116,104,111,100,32,102,117,110,99,116,105,111,110,32,108,111,99,97,108,115,32,99,97,116,99,104,32,105,110,116,32,118,111,105,100]⟩)]), xM 4 0, xA 5 (.callb 104 [(.t 3),(.t 4)]), xO 2 5] [2])
 .ret)), [(.tmp 2)], .pure, false, false⟩
/-- delver/parse.Fresh -/
def f79 : AFun := ⟨1,
 (.seq (xR [xA 2 (.mov .own xU)] [0])
 (.seq (xR [xM 3 0, xA 4 (.callb 86 [(.t 3)]), xM 5 4, xMT 6 0 5, xAT 7 (.callb 87 [(.t 6)]) 5, xNT 8 7 5, xA 9 (.pick (.t 5) (.t 8) xU), xO 2 9] [2])
 .ret)), [(.tmp 2)], .pure, false, false⟩
def f67_b0 : ACode := (.wrap true [0, 1, 7, 8] [4] [(0, [])]
 (.seq (xR [xA 9 (.bin .lss (.t 8) (.t 7))] [0, 1, 7, 8, 9])
 (.seq (.cond (.t 9)
 .skip
 (.exit 0))
 (.seq (.block 1 (.seq (xR [xO 10 8, xO 5 10] [0, 1, 5, 7, 8])
 (.seq (xR [xM 11 1, xM 12 0, xM 13 5, xI 14 1 12 13, xL 15 14, xA 16 (.callv (.t 11) [(.t 15)])] [0, 1, 5, 7, 8, 16])
 (.cond (.t 16)
 (.seq (xR [xO 17 5, xO 4 17] [4])
 .ret)
 .skip))))
 (xR [xA 18 (.bin .add (.t 8) (xi 1)), xO 8 18] [0, 1, 7, 8])))))
def f67_l0 : ACode := .loop f67_b0
theorem u67_l0 : LpEq f67_l0 f67_b0 := K_loop
/-- slices.IndexFunc[[]string,string] -/
def f67 : AFun := ⟨2,
 (.seq (xR [xA 4 (.mov .own (xi 0))] [0, 1])
 (.seq (.seq (xR [xM 6 0, xH 7 6, xA 8 (.mov .own (xi 0))] [0, 1, 7, 8])
 (.block 0 f67_l0))
 (.seq (xR [xA 4 (.mov .own (xi (-1)))] [4])
 .ret))), [(.tmp 4)], .pure, false, false⟩
/-- slices.ContainsFunc[[]string,string] -/
def f49 : AFun := ⟨2,
 (.seq (xR [xA 4 (.mov .own xU)] [0, 1])
 (.seq (xR [xM 5 0, xM 6 1, xA 7 (.call 67 [(.t 5),(.t 6)]), xA 8 (.bin .geq (.t 7) (xi 0)), xO 4 8] [4])
 .ret)), [(.tmp 4)], .pure, false, false⟩
/-- delver/show.each[string]$1 -/
def f88 : AFun := ⟨2,
 (.seq (xR [xA 3 (.mov .own xU)] [0, 1])
 (.seq (xR [xL 4 1, xM 5 0, xA 6 (.callv (.t 4) [(.t 5)]), xN 7 6, xO 3 7] [3])
 .ret)), [(.tmp 3)], .pure, false, false⟩
/-- delver/show.each[string] -/
def f80 : AFun := ⟨3,
 (.seq (xR [xB 5 2, xA 6 (.mov .own xU)] [0, 1, 5])
 (.seq (xR [xM 7 0, xH 8 7, xM 9 1, xA 10 (.bin .leq (.t 8) (.t 9)), xM 11 10, xMT 12 0 11, xAT 13 (.mkf 88 [] [(.t 5)]) 11, xAT 14 (.call 49 [(.t 12),(.t 13)]) 11, xNT 15 14 11, xA 16 (.pick (.t 11) (.t 15) xU), xO 6 16] [6])
 .ret)), [(.tmp 6)], .pure, false, false⟩
def f105_b0 : ACode := (.wrap true [0, 1, 7, 8] [4] [(0, [])]
 (.seq (xR [xA 9 (.bin .lss (.t 8) (.t 7))] [0, 1, 7, 8, 9])
 (.seq (.cond (.t 9)
 .skip
 (.exit 0))
 (.seq (.block 1 (.seq (xR [xO 10 8, xO 5 10] [0, 1, 5, 7, 8])
 (.seq (xR [xM 11 1, xM 12 0, xM 13 5, xI 14 4 12 13, xQ 15 4 14, xA 16 (.callv (.t 11) [(.t 15)])] [0, 1, 5, 7, 8, 16])
 (.cond (.t 16)
 (.seq (xR [xO 17 5, xO 4 17] [4])
 .ret)
 .skip))))
 (xR [xA 18 (.bin .add (.t 8) (xi 1)), xO 8 18] [0, 1, 7, 8])))))
def f105_l0 : ACode := .loop f105_b0
theorem u105_l0 : LpEq f105_l0 f105_b0 := K_loop
/-- slices.IndexFunc[[]delver/api.Field,delver/api.Field] -/
def f105 : AFun := ⟨2,
 (.seq (xR [xA 4 (.mov .own (xi 0))] [0, 1])
 (.seq (.seq (xR [xM 6 0, xH 7 6, xA 8 (.mov .own (xi 0))] [0, 1, 7, 8])
 (.block 0 f105_l0))
 (.seq (xR [xA 4 (.mov .own (xi (-1)))] [4])
 .ret))), [(.tmp 4)], .pure, false, false⟩
/-- slices.ContainsFunc[[]delver/api.Field,delver/api.Field] -/
def f89 : AFun := ⟨2,
 (.seq (xR [xA 4 (.mov .own xU)] [0, 1])
 (.seq (xR [xM 5 0, xM 6 1, xA 7 (.call 105 [(.t 5),(.t 6)]), xA 8 (.bin .geq (.t 7) (xi 0)), xO 4 8] [4])
 .ret)), [(.tmp 4)], .pure, false, false⟩
/-- delver/show.each[delver/api.Field]$1 -/
def f90 : AFun := ⟨2,
 (.seq (xR [xB 2 0, xA 3 (.mov .own xU)] [1, 2])
 (.seq (xR [xL 4 1, xQ 5 4 2, xA 6 (.callv (.t 4) [(.t 5)]), xN 7 6, xO 3 7] [3])
 .ret)), [(.tmp 3)], .pure, false, false⟩
/-- delver/show.each[delver/api.Field] -/
def f81 : AFun := ⟨3,
 (.seq (xR [xB 5 2, xA 6 (.mov .own xU)] [0, 1, 5])
 (.seq (xR [xM 7 0, xH 8 7, xM 9 1, xA 10 (.bin .leq (.t 8) (.t 9)), xM 11 10, xMT 12 0 11, xAT 13 (.mkf 90 [] [(.t 5)]) 11, xAT 14 (.call 89 [(.t 12),(.t 13)]) 11, xNT 15 14 11, xA 16 (.pick (.t 11) (.t 15) xU), xO 6 16] [6])
 .ret)), [(.tmp 6)], .pure, false, false⟩
/-- delver/show.typed -/
def f91 : AFun := ⟨1,
 (.seq (xR [xB 1 0, xA 2 (.mov .own xU)] [1])
 (.seq (.seq (xR [xF 3 0 1, xL 4 3] [1, 4])
 (.block 0 (.seq (.seq (xR [xA 6 (.bin .eql (.t 4) (xi 1)), xM 5 6] [1, 4, 5])
 (.cond (.t 5)
 .skip
 (.seq (xR [xA 7 (.bin .eql (.t 4) (xi 2)), xM 5 7] [1, 4, 5])
 (.cond (.t 5)
 .skip
 (xR [xA 8 (.bin .eql (.t 4) (xi 4)), xM 5 8] [1, 4, 5])))))
 (.cond (.t 5)
 (.seq (xR [xF 9 1 1, xL 10 9, xA 11 (.bin .eql (.t 10) (xs ⟨#[]⟩)), xO 2 11] [2])
 .ret)
 (.seq (.seq (xR [xA 13 (.bin .eql (.t 4) (xi 3)), xM 12 13] [1, 4, 12])
 (.cond (.t 12)
 .skip
 (xR [xA 14 (.bin .eql (.t 4) (xi 5)), xM 12 14] [1, 12])))
 (.cond (.t 12)
 (.seq (xR [xF 15 1 1, xL 16 15, xA 17 (.callb 79 [(.t 16)]), xO 2 17] [2])
 .ret)
 .skip))))))
 (.seq (xR [xA 2 (.mov .own xU)] [2])
 .ret))), [(.tmp 2)], .pure, false, false⟩
/-- delver/show.field -/
def f82 : AFun := ⟨1,
 (.seq (xR [xB 1 0, xA 2 (.mov .own xU)] [1])
 (.seq (xR [xF 3 0 1, xL 4 3, xA 5 (.callb 79 [(.t 4)]), xM 6 5, xFT 7 1 1 6, xAT 8 (.ld .cp (some 2) (.t 7)) 6, xAT 9 (.callb 91 [(.t 8)]) 6, xA 10 (.pick (.t 6) (.t 9) xU), xO 2 10] [2])
 .ret)), [(.tmp 2)], .pure, false, false⟩
def f106_b0 : ACode := (.wrap true [0, 1, 7, 8] [4] [(0, [])]
 (.seq (xR [xA 9 (.bin .lss (.t 8) (.t 7))] [0, 1, 7, 8, 9])
 (.seq (.cond (.t 9)
 .skip
 (.exit 0))
 (.seq (.block 1 (.seq (xR [xO 10 8, xO 5 10] [0, 1, 5, 7, 8])
 (.seq (xR [xM 11 1, xM 12 0, xM 13 5, xI 14 9 12 13, xQ 15 9 14, xA 16 (.callv (.t 11) [(.t 15)])] [0, 1, 5, 7, 8, 16])
 (.cond (.t 16)
 (.seq (xR [xO 17 5, xO 4 17] [4])
 .ret)
 .skip))))
 (xR [xA 18 (.bin .add (.t 8) (xi 1)), xO 8 18] [0, 1, 7, 8])))))
def f106_l0 : ACode := .loop f106_b0
theorem u106_l0 : LpEq f106_l0 f106_b0 := K_loop
/-- slices.IndexFunc[[]delver/api.Method,delver/api.Method] -/
def f106 : AFun := ⟨2,
 (.seq (xR [xA 4 (.mov .own (xi 0))] [0, 1])
 (.seq (.seq (xR [xM 6 0, xH 7 6, xA 8 (.mov .own (xi 0))] [0, 1, 7, 8])
 (.block 0 f106_l0))
 (.seq (xR [xA 4 (.mov .own (xi (-1)))] [4])
 .ret))), [(.tmp 4)], .pure, false, false⟩
/-- slices.ContainsFunc[[]delver/api.Method,delver/api.Method] -/
def f92 : AFun := ⟨2,
 (.seq (xR [xA 4 (.mov .own xU)] [0, 1])
 (.seq (xR [xM 5 0, xM 6 1, xA 7 (.call 106 [(.t 5),(.t 6)]), xA 8 (.bin .geq (.t 7) (xi 0)), xO 4 8] [4])
 .ret)), [(.tmp 4)], .pure, false, false⟩
/-- delver/show.each[delver/api.Method]$1 -/
def f93 : AFun := ⟨2,
 (.seq (xR [xB 2 0, xA 3 (.mov .own xU)] [1, 2])
 (.seq (xR [xL 4 1, xQ 5 9 2, xA 6 (.callv (.t 4) [(.t 5)]), xN 7 6, xO 3 7] [3])
 .ret)), [(.tmp 3)], .pure, false, false⟩
/-- delver/show.each[delver/api.Method] -/
def f83 : AFun := ⟨3,
 (.seq (xR [xB 5 2, xA 6 (.mov .own xU)] [0, 1, 5])
 (.seq (xR [xM 7 0, xH 8 7, xM 9 1, xA 10 (.bin .leq (.t 8) (.t 9)), xM 11 10, xMT 12 0 11, xAT 13 (.mkf 93 [] [(.t 5)]) 11, xAT 14 (.call 92 [(.t 12),(.t 13)]) 11, xNT 15 14 11, xA 16 (.pick (.t 11) (.t 15) xU), xO 6 16] [6])
 .ret)), [(.tmp 6)], .pure, false, false⟩
def f117_b0 : ACode := (.wrap true [0, 1, 7, 8] [4] [(0, [])]
 (.seq (xR [xA 9 (.bin .lss (.t 8) (.t 7))] [0, 1, 7, 8, 9])
 (.seq (.cond (.t 9)
 .skip
 (.exit 0))
 (.seq (.block 1 (.seq (xR [xO 10 8, xO 5 10] [0, 1, 5, 7, 8])
 (.seq (xR [xM 11 1, xM 12 0, xM 13 5, xI 14 2 12 13, xQ 15 2 14, xA 16 (.callv (.t 11) [(.t 15)])] [0, 1, 5, 7, 8, 16])
 (.cond (.t 16)
 (.seq (xR [xO 17 5, xO 4 17] [4])
 .ret)
 .skip))))
 (xR [xA 18 (.bin .add (.t 8) (xi 1)), xO 8 18] [0, 1, 7, 8])))))
def f117_l0 : ACode := .loop f117_b0
theorem u117_l0 : LpEq f117_l0 f117_b0 := K_loop
/-- slices.IndexFunc[[]delver/api.Type,delver/api.Type] -/
def f117 : AFun := ⟨2,
 (.seq (xR [xA 4 (.mov .own (xi 0))] [0, 1])
 (.seq (.seq (xR [xM 6 0, xH 7 6, xA 8 (.mov .own (xi 0))] [0, 1, 7, 8])
 (.block 0 f117_l0))
 (.seq (xR [xA 4 (.mov .own (xi (-1)))] [4])
 .ret))), [(.tmp 4)], .pure, false, false⟩
/-- slices.ContainsFunc[[]delver/api.Type,delver/api.Type] -/
def f107 : AFun := ⟨2,
 (.seq (xR [xA 4 (.mov .own xU)] [0, 1])
 (.seq (xR [xM 5 0, xM 6 1, xA 7 (.call 117 [(.t 5),(.t 6)]), xA 8 (.bin .geq (.t 7) (xi 0)), xO 4 8] [4])
 .ret)), [(.tmp 4)], .pure, false, false⟩
/-- delver/show.each[delver/api.Type]$1 -/
def f108 : AFun := ⟨2,
 (.seq (xR [xB 2 0, xA 3 (.mov .own xU)] [1, 2])
 (.seq (xR [xL 4 1, xQ 5 2 2, xA 6 (.callv (.t 4) [(.t 5)]), xN 7 6, xO 3 7] [3])
 .ret)), [(.tmp 3)], .pure, false, false⟩
/-- delver/show.each[delver/api.Type] -/
def f94 : AFun := ⟨3,
 (.seq (xR [xB 5 2, xA 6 (.mov .own xU)] [0, 1, 5])
 (.seq (xR [xM 7 0, xH 8 7, xM 9 1, xA 10 (.bin .leq (.t 8) (.t 9)), xM 11 10, xMT 12 0 11, xAT 13 (.mkf 108 [] [(.t 5)]) 11, xAT 14 (.call 107 [(.t 12),(.t 13)]) 11, xNT 15 14 11, xA 16 (.pick (.t 11) (.t 15) xU), xO 6 16] [6])
 .ret)), [(.tmp 6)], .pure, false, false⟩
/-- delver/show.in -/
def f95 : AFun := ⟨3,
 (.seq (xR [xA 6 (.mov .own xU)] [0, 1, 2])
 (.seq (xR [xM 7 0, xM 8 1, xA 9 (.bin .geq (.t 7) (.t 8)), xM 10 9, xMT 11 0 10, xMT 12 2 10, xAT 13 (.bin .leq (.t 11) (.t 12)) 10, xA 14 (.pick (.t 10) (.t 13) xU), xO 6 14] [6])
 .ret)), [(.tmp 6)], .pure, false, false⟩
def f118_b0 : ACode := (.wrap true [0, 1, 7, 8] [4] [(0, [])]
 (.seq (xR [xA 9 (.bin .lss (.t 8) (.t 7))] [0, 1, 7, 8, 9])
 (.seq (.cond (.t 9)
 .skip
 (.exit 0))
 (.seq (.block 1 (.seq (xR [xO 10 8, xO 5 10] [0, 1, 5, 7, 8])
 (.seq (xR [xM 11 1, xM 12 0, xM 13 5, xI 14 4 12 13, xQ 15 4 14, xA 16 (.callv (.t 11) [(.t 15)])] [0, 1, 5, 7, 8, 16])
 (.cond (.t 16)
 (.seq (xR [xO 17 5, xO 4 17] [4])
 .ret)
 .skip))))
 (xR [xA 18 (.bin .add (.t 8) (xi 1)), xO 8 18] [0, 1, 7, 8])))))
def f118_l0 : ACode := .loop f118_b0
theorem u118_l0 : LpEq f118_l0 f118_b0 := K_loop
/-- slices.IndexFunc[[]delver/api.Instr,delver/api.Instr] -/
def f118 : AFun := ⟨2,
 (.seq (xR [xA 4 (.mov .own (xi 0))] [0, 1])
 (.seq (.seq (xR [xM 6 0, xH 7 6, xA 8 (.mov .own (xi 0))] [0, 1, 7, 8])
 (.block 0 f118_l0))
 (.seq (xR [xA 4 (.mov .own (xi (-1)))] [4])
 .ret))), [(.tmp 4)], .pure, false, false⟩
/-- slices.ContainsFunc[[]delver/api.Instr,delver/api.Instr] -/
def f109 : AFun := ⟨2,
 (.seq (xR [xA 4 (.mov .own xU)] [0, 1])
 (.seq (xR [xM 5 0, xM 6 1, xA 7 (.call 118 [(.t 5),(.t 6)]), xA 8 (.bin .geq (.t 7) (xi 0)), xO 4 8] [4])
 .ret)), [(.tmp 4)], .pure, false, false⟩
/-- delver/show.each[delver/api.Instr]$1 -/
def f110 : AFun := ⟨2,
 (.seq (xR [xB 2 0, xA 3 (.mov .own xU)] [1, 2])
 (.seq (xR [xL 4 1, xQ 5 4 2, xA 6 (.callv (.t 4) [(.t 5)]), xN 7 6, xO 3 7] [3])
 .ret)), [(.tmp 3)], .pure, false, false⟩
/-- delver/show.each[delver/api.Instr] -/
def f96 : AFun := ⟨3,
 (.seq (xR [xB 5 2, xA 6 (.mov .own xU)] [0, 1, 5])
 (.seq (xR [xM 7 0, xH 8 7, xM 9 1, xA 10 (.bin .leq (.t 8) (.t 9)), xM 11 10, xMT 12 0 11, xAT 13 (.mkf 110 [] [(.t 5)]) 11, xAT 14 (.call 109 [(.t 12),(.t 13)]) 11, xNT 15 14 11, xA 16 (.pick (.t 11) (.t 15) xU), xO 6 16] [6])
 .ret)), [(.tmp 6)], .pure, false, false⟩
/-- delver/parse.Jump -/
def f119 : AFun := ⟨1,
 (.seq (xR [xA 2 (.mov .own xU)] [0])
 (.seq (xR [xM 3 0, xA 4 (.bin .geq (.t 3) (xi 14)), xM 5 4, xMT 6 0 5, xAT 7 (.bin .leq (.t 6) (xi 26)) 5, xA 8 (.pick (.t 5) (.t 7) xU), xO 2 8] [2])
 .ret)), [(.tmp 2)], .pure, false, false⟩
/-- delver/parse.Num -/
def f111 : AFun := ⟨1,
 (.seq (xR [xA 2 (.mov .own (xi 0)), xA 3 (.mov .own (xi 0)), xA 4 (.mov .own xU)] [0])
 (.seq (.block 0 (.seq (xR [xM 6 0, xA 7 (.bin .eql (.t 6) (xi 1)), xM 5 7] [0, 5])
 (.cond (.t 5)
 (.seq (xR [xA 2 (.mov .own (xi (-2147483648))), xA 3 (.mov .own (xi 2147483647)), xA 4 (.mov .own xT)] [2, 3, 4])
 .ret)
 (.seq (xR [xM 9 0, xA 10 (.bin .eql (.t 9) (xi 3)), xM 11 10, xMF 12 0 11, xAF 13 (.bin .eql (.t 12) (xi 4)) 11, xA 14 (.pick (.t 11) xT (.t 13)), xM 8 14] [0, 8])
 (.cond (.t 8)
 (.seq (xR [xA 2 (.mov .own (xi 0)), xA 3 (.mov .own (xi 7)), xA 4 (.mov .own xT)] [2, 3, 4])
 .ret)
 (.seq (xR [xM 16 0, xA 17 (.callb 119 [(.t 16)]), xM 15 17] [15])
 (.cond (.t 15)
 (.seq (xR [xA 2 (.mov .own (xi 0)), xA 3 (.mov .own (xi 47)), xA 4 (.mov .own xT)] [2, 3, 4])
 .ret)
 .skip)))))))
 (.seq (xR [xA 2 (.mov .own (xi 0)), xA 3 (.mov .own (xi 0)), xA 4 (.mov .own xU)] [2, 3, 4])
 .ret))), [(.tmp 2), (.tmp 3), (.tmp 4)], .pure, false, false⟩
/-- delver/show.named -/
def f112 : AFun := ⟨2,
 (.seq (xR [xA 4 (.mov .own xU)] [0, 1])
 (.seq (xR [xM 5 1, xM 6 5, xMT 7 0 6, xAT 8 (.callb 79 [(.t 7)]) 6, xA 9 (.pick (.t 6) (.t 8) xU), xM 10 9, xMF 11 1 10, xNF 12 11 10, xMF 13 12 10, xMT 14 0 13, xAT 15 (.bin .eql (.t 14) (xs ⟨#[]⟩)) 13, xAF 16 (.pick (.t 13) (.t 15) xU) 10, xA 17 (.pick (.t 10) xT (.t 16)), xO 4 17] [4])
 .ret)), [(.tmp 4)], .pure, false, false⟩
/-- delver/parse.Names -/
def f113 : AFun := ⟨1,
 (.seq (xR [xA 2 (.mov .own (xi 0))] [0])
 (.seq (.seq (xR [xM 3 0] [3])
 (.block 0 (.seq (.seq (xR [xA 5 (.bin .eql (.t 3) (xi 27)), xM 4 5] [3, 4])
 (.cond (.t 4)
 .skip
 (.seq (xR [xA 6 (.bin .eql (.t 3) (xi 33)), xM 4 6] [3, 4])
 (.cond (.t 4)
 .skip
 (.seq (xR [xA 7 (.bin .eql (.t 3) (xi 37)), xM 4 7] [3, 4])
 (.cond (.t 4)
 .skip
 (xR [xA 8 (.bin .eql (.t 3) (xi 38)), xM 4 8] [3, 4])))))))
 (.cond (.t 4)
 (.seq (xR [xA 2 (.mov .own (xi 1))] [2])
 .ret)
 (.seq (.seq (xR [xA 10 (.bin .eql (.t 3) (xi 28)), xM 9 10] [3, 9])
 (.cond (.t 9)
 .skip
 (.seq (xR [xA 11 (.bin .eql (.t 3) (xi 29)), xM 9 11] [3, 9])
 (.cond (.t 9)
 .skip
 (.seq (xR [xA 12 (.bin .eql (.t 3) (xi 30)), xM 9 12] [3, 9])
 (.cond (.t 9)
 .skip
 (.seq (xR [xA 13 (.bin .eql (.t 3) (xi 31)), xM 9 13] [3, 9])
 (.cond (.t 9)
 .skip
 (.seq (xR [xA 14 (.bin .eql (.t 3) (xi 39)), xM 9 14] [3, 9])
 (.cond (.t 9)
 .skip
 (xR [xA 15 (.bin .eql (.t 3) (xi 40)), xM 9 15] [9])))))))))))
 (.cond (.t 9)
 (.seq (xR [xA 2 (.mov .own (xi 2))] [2])
 .ret)
 .skip))))))
 (.seq (xR [xA 2 (.mov .own (xi 0))] [2])
 .ret))), [(.tmp 2)], .pure, false, false⟩
/-- delver/show.instr -/
def f97 : AFun := ⟨1,
 (.seq (xR [xB 1 0, xA 2 (.mov .own xU)] [1])
 (.seq (xR [xF 7 0 1, xL 8 7, xA 9 (.callb 111 [(.t 8)]), xO 6 9, xE 10 0 6, xE 11 1 6, xE 12 2 6, xM 3 10, xM 4 11, xM 5 12] [1, 3, 4])
 (.seq (xG [xF 13 0 1, xL 14 13, xA 15 (.callb 95 [(.t 14),(xi 0),(xi 43)]), xM 16 15, xFT 17 1 1 16, xLT 18 17 16, xMT 19 3 16, xMT 20 4 16, xAT 21 (.callb 95 [(.t 18),(.t 19),(.t 20)]) 16, xA 22 (.pick (.t 16) (.t 21) xU), xM 23 22, xFT 24 2 1 23, xLT 25 24 23, xFT 26 0 1 23, xLT 27 26 23, xAT 28 (.callb 113 [(.t 27)]) 23, xAT 29 (.bin .gtr (.t 28) (xi 0)) 23, xAT 30 (.callb 112 [(.t 25),(.t 29)]) 23, xA 31 (.pick (.t 23) (.t 30) xU), xM 32 31, xFT 33 3 1 32, xLT 34 33 32, xFT 35 0 1 32, xLT 36 35 32, xAT 37 (.callb 113 [(.t 36)]) 32, xAT 38 (.bin .gtr (.t 37) (xi 1)) 32, xAT 39 (.callb 112 [(.t 34),(.t 38)]) 32, xA 40 (.pick (.t 32) (.t 39) xU), xO 2 40] [2])
 .ret))), [(.tmp 2)], .pure, false, false⟩
def f120_b0 : ACode := (.wrap true [0, 1, 7, 8] [4] [(0, [])]
 (.seq (xR [xA 9 (.bin .lss (.t 8) (.t 7))] [0, 1, 7, 8, 9])
 (.seq (.cond (.t 9)
 .skip
 (.exit 0))
 (.seq (.block 1 (.seq (xR [xO 10 8, xO 5 10] [0, 1, 5, 7, 8])
 (.seq (xR [xM 11 1, xM 12 0, xM 13 5, xI 14 4 12 13, xQ 15 4 14, xA 16 (.callv (.t 11) [(.t 15)])] [0, 1, 5, 7, 8, 16])
 (.cond (.t 16)
 (.seq (xR [xO 17 5, xO 4 17] [4])
 .ret)
 .skip))))
 (xR [xA 18 (.bin .add (.t 8) (xi 1)), xO 8 18] [0, 1, 7, 8])))))
def f120_l0 : ACode := .loop f120_b0
theorem u120_l0 : LpEq f120_l0 f120_b0 := K_loop
/-- slices.IndexFunc[[]delver/api.Catch,delver/api.Catch] -/
def f120 : AFun := ⟨2,
 (.seq (xR [xA 4 (.mov .own (xi 0))] [0, 1])
 (.seq (.seq (xR [xM 6 0, xH 7 6, xA 8 (.mov .own (xi 0))] [0, 1, 7, 8])
 (.block 0 f120_l0))
 (.seq (xR [xA 4 (.mov .own (xi (-1)))] [4])
 .ret))), [(.tmp 4)], .pure, false, false⟩
/-- slices.ContainsFunc[[]delver/api.Catch,delver/api.Catch] -/
def f114 : AFun := ⟨2,
 (.seq (xR [xA 4 (.mov .own xU)] [0, 1])
 (.seq (xR [xM 5 0, xM 6 1, xA 7 (.call 120 [(.t 5),(.t 6)]), xA 8 (.bin .geq (.t 7) (xi 0)), xO 4 8] [4])
 .ret)), [(.tmp 4)], .pure, false, false⟩
/-- delver/show.each[delver/api.Catch]$1 -/
def f115 : AFun := ⟨2,
 (.seq (xR [xB 2 0, xA 3 (.mov .own xU)] [1, 2])
 (.seq (xR [xL 4 1, xQ 5 4 2, xA 6 (.callv (.t 4) [(.t 5)]), xN 7 6, xO 3 7] [3])
 .ret)), [(.tmp 3)], .pure, false, false⟩
/-- delver/show.each[delver/api.Catch] -/
def f98 : AFun := ⟨3,
 (.seq (xR [xB 5 2, xA 6 (.mov .own xU)] [0, 1, 5])
 (.seq (xR [xM 7 0, xH 8 7, xM 9 1, xA 10 (.bin .leq (.t 8) (.t 9)), xM 11 10, xMT 12 0 11, xAT 13 (.mkf 115 [] [(.t 5)]) 11, xAT 14 (.call 114 [(.t 12),(.t 13)]) 11, xNT 15 14 11, xA 16 (.pick (.t 11) (.t 15) xU), xO 6 16] [6])
 .ret)), [(.tmp 6)], .pure, false, false⟩
/-- delver/show.catch -/
def f99 : AFun := ⟨1,
 (.seq (xR [xB 1 0, xA 2 (.mov .own xU)] [1])
 (.seq (xR [xF 3 0 1, xL 4 3, xA 5 (.callb 79 [(.t 4)]), xM 6 5, xFT 7 1 1 6, xLT 8 7 6, xAT 9 (.callb 95 [(.t 8),(xi 0),(xi 48)]) 6, xA 10 (.pick (.t 6) (.t 9) xU), xM 11 10, xFT 12 2 1 11, xLT 13 12 11, xAT 14 (.callb 95 [(.t 13),(xi 0),(xi 48)]) 11, xA 15 (.pick (.t 11) (.t 14) xU), xM 16 15, xFT 17 3 1 16, xLT 18 17 16, xAT 19 (.callb 95 [(.t 18),(xi 0),(xi 48)]) 16, xA 20 (.pick (.t 16) (.t 19) xU), xO 2 20] [2])
 .ret)), [(.tmp 2)], .pure, false, false⟩
/-- delver/show.method -/
def f84 : AFun := ⟨1,
 (.seq (xR [xB 1 0, xA 2 (.mov .own xU)] [1])
 (.seq (.seq (xR [xF 3 2 1, xL 4 3, xM 5 4, xFT 6 6 1 5, xLT 7 6 5, xAT 8 (.bin .neq (.t 7) (xi 0)) 5, xMT 9 8 5, xFF 10 7 1 9, xLF 11 10 9, xAF 12 (.len 0 (.t 11)) 9, xFF 13 8 1 9, xLF 14 13 9, xAF 15 (.len 0 (.t 14)) 9, xAF 16 (.bin .add (.t 12) (.t 15)) 9, xAF 17 (.bin .gtr (.t 16) (xi 0)) 9, xAT 18 (.pick (.t 9) xT (.t 17)) 5, xA 19 (.pick (.t 5) (.t 18) xU)] [1, 19])
 (.cond (.t 19)
 (.seq (xR [xA 2 (.mov .own xU)] [2])
 .ret)
 .skip))
 (.seq (xR [xF 20 0 1, xL 21 20, xA 22 (.callb 79 [(.t 21)]), xM 23 22, xFT 24 3 1 23, xLT 25 24 23, xAT 26 (.call 94 [(.t 25),(xi 4),(.k (.c (.fn 91 [] [])))]) 23, xA 27 (.pick (.t 23) (.t 26) xU), xM 28 27, xFT 29 4 1 28, xAT 30 (.ld .cp (some 2) (.t 29)) 28, xAT 31 (.callb 91 [(.t 30)]) 28, xA 32 (.pick (.t 28) (.t 31) xU), xM 33 32, xFT 34 6 1 33, xLT 35 34 33, xAT 36 (.callb 95 [(.t 35),(xi 0),(xi 8)]) 33, xA 37 (.pick (.t 33) (.t 36) xU), xM 38 37, xFT 39 7 1 38, xLT 40 39 38, xAT 41 (.call 96 [(.t 40),(xi 48),(.k (.c (.fn 97 [] [])))]) 38, xA 42 (.pick (.t 38) (.t 41) xU), xM 43 42, xFT 44 8 1 43, xLT 45 44 43, xAT 46 (.call 98 [(.t 45),(xi 4),(.k (.c (.fn 99 [] [])))]) 43, xA 47 (.pick (.t 43) (.t 46) xU), xO 2 47] [2])
 .ret))), [(.tmp 2)], .pure, false, false⟩
/-- delver/show.class -/
def f64 : AFun := ⟨1,
 (.seq (xR [xB 1 0, xA 2 (.mov .own xU)] [1])
 (.seq (xR [xF 4 2 1, xL 5 4, xA 6 (.bin .eql (.t 5) (xs ⟨#[]⟩)), xM 7 6, xFF 8 1 1 7, xLF 9 8 7, xNF 10 9 7, xMF 11 10 7, xFT 12 2 1 11, xLT 13 12 11, xAT 14 (.callb 79 [(.t 13)]) 11, xAF 15 (.pick (.t 11) (.t 14) xU) 7, xA 16 (.pick (.t 7) xT (.t 15)), xM 3 16] [1, 3])
 (.seq (xR [xF 17 0 1, xL 18 17, xA 19 (.callb 79 [(.t 18)]), xM 20 19, xMT 21 3 20, xA 22 (.pick (.t 20) (.t 21) xU), xM 23 22, xFT 24 3 1 23, xLT 25 24 23, xAT 26 (.call 80 [(.t 25),(xi 4),(.k (.c (.fn 79 [] [])))]) 23, xA 27 (.pick (.t 23) (.t 26) xU), xM 28 27, xFT 29 4 1 28, xLT 30 29 28, xAT 31 (.call 81 [(.t 30),(xi 6),(.k (.c (.fn 82 [] [])))]) 28, xA 32 (.pick (.t 28) (.t 31) xU), xM 33 32, xFT 34 5 1 33, xLT 35 34 33, xAT 36 (.call 83 [(.t 35),(xi 6),(.k (.c (.fn 84 [] [])))]) 33, xA 37 (.pick (.t 33) (.t 36) xU), xO 2 37] [2])
 .ret))), [(.tmp 2)], .pure, false, false⟩
/-- delver/show.Check -/
def f46 : AFun := ⟨1,
 (.seq (xR [xB 1 0, xA 2 (.mov .own (xi 0))] [1])
 (.seq (.seq (xR [xF 3 0 1, xL 4 3, xA 5 (.call 63 [(.t 4),(xi 10),(.k (.c (.fn 64 [] [])))]), xN 6 5] [6])
 (.cond (.t 6)
 (.seq (xR [xA 2 (.mov .own (xi 4))] [2])
 .ret)
 .skip))
 (.seq (xR [xA 2 (.mov .own (xi 0))] [2])
 .ret))), [(.tmp 2)], .pure, false, false⟩
/-- (*delver/hier.Tree).super -/
def f56 : AFun := ⟨2,
 (.seq (xR [xB 3 1, xA 4 (.mov .own (xs ⟨#[]⟩)), xA 5 (.mov .own xU)] [3])
 (.seq (.block 0 (.seq (xR [xF 7 1 3, xL 8 7, xM 9 8, xFF 10 0 3 9, xLF 11 10 9, xAF 12 (.bin .eql (.t 11) (xs ⟨#[79,98,106,101,99,116]⟩)) 9, xA 13 (.pick (.t 9) xT (.t 12)), xM 6 13] [3, 6])
 (.cond (.t 6)
 (.seq (xR [xA 4 (.mov .own (xs ⟨#[]⟩)), xA 5 (.mov .own xU)] [4, 5])
 .ret)
 (.seq (xR [xF 15 2 3, xL 16 15, xA 17 (.bin .eql (.t 16) (xs ⟨#[]⟩)), xM 14 17] [3, 14])
 (.cond (.t 14)
 (.seq (xR [xA 4 (.mov .own (xs ⟨#[79,98,106,101,99,116]⟩)), xA 5 (.mov .own xT)] [4, 5])
 .ret)
 .skip)))))
 (.seq (xR [xF 18 2 3, xW 19 18, xO 4 19, xA 5 (.mov .own xT)] [4, 5])
 .ret))), [(.tmp 4), (.tmp 5)], .pure, false, false⟩
/-- (*delver/hier.Tree).lost$1 -/
def f66 : AFun := ⟨2,
 (.seq (xR [xA 3 (.mov .own xU)] [0, 1])
 (.seq (xR [xL 7 1, xA 8 (.nilc (.t 7)), xF 9 3 8, xL 10 9, xM 11 0, xA 12 (.lkp [2] (.agg [xa,xb,xa,xd,xd,xd]) true (.t 10) (.t 11)), xO 6 12, xE 13 0 6, xE 14 1 6, xA 4 (.alloc [xa,xb,xa,(.osl 1 []),(.osl 4 []),(.osl 9 [])]), xS 6 4 13, xM 5 14] [4, 5])
 (.seq (xR [xM 15 5, xN 16 15, xM 17 16, xFF 18 1 4 17, xLF 19 18 17, xNF 20 19 17, xA 21 (.pick (.t 17) xT (.t 20)), xO 3 21] [3])
 .ret))), [(.tmp 3)], .pure, false, false⟩
/-- (*delver/hier.Tree).lost -/
def f48 : AFun := ⟨2,
 (.seq (xR [xB 2 0, xB 3 1, xA 4 (.mov .own xU)] [2, 3])
 (.seq (.seq (xR [xL 10 2, xQ 11 6 3, xA 12 (.call 56 [(.t 10),(.t 11)]), xO 9 12, xE 13 0 9, xE 14 1 9, xM 5 13, xM 6 14] [2, 3, 5, 6])
 (.seq (xR [xM 15 6] [2, 3, 5, 15])
 (.cond (.t 15)
 (.seq (xR [xL 17 2, xA 18 (.nilc (.t 17)), xF 19 3 18, xL 20 19, xM 21 5, xA 22 (.lkp [2] (.agg [xa,xb,xa,xd,xd,xd]) true (.t 20) (.t 21)), xO 16 22, xE 23 0 16, xE 24 1 16, xA 7 (.alloc [xa,xb,xa,(.osl 1 []),(.osl 4 []),(.osl 9 [])]), xS 6 7 23, xM 8 24] [2, 3, 7, 8])
 (.seq (xR [xM 25 8, xN 26 25, xM 27 26, xFF 28 1 7 27, xLF 29 28 27, xA 30 (.pick (.t 27) xT (.t 29))] [2, 3, 30])
 (.cond (.t 30)
 (.seq (xR [xA 4 (.mov .own xT)] [4])
 .ret)
 .skip)))
 .skip)))
 (.seq (xR [xF 31 3 3, xL 32 31, xA 33 (.mkf 66 [] [(.t 2)]), xA 34 (.call 49 [(.t 32),(.t 33)]), xO 4 34] [4])
 .ret))), [(.tmp 4)], .pure, false, false⟩
/-- (*delver/hier.Tree).next -/
def f68 : AFun := ⟨2,
 (.seq (xR [xA 4 (.mov .own (.k (.c (.osl 1 []))))] [0, 1])
 (.seq (xR [xM 9 0, xA 10 (.nilc (.t 9)), xF 11 3 10, xL 12 11, xM 13 1, xA 14 (.lkp [2] (.agg [xa,xb,xa,xd,xd,xd]) false (.t 12) (.t 13)), xA 5 (.alloc [xa,xb,xa,(.osl 1 []),(.osl 4 []),(.osl 9 [])]), xS 6 5 14] [0, 5])
 (.seq (xR [xF 15 3 5, xL 16 15, xA 17 (.callb 53 [(.t 16)]), xO 6 17] [0, 5, 6])
 (.seq (.seq (xR [xM 19 0, xQ 20 6 5, xA 21 (.call 56 [(.t 19),(.t 20)]), xO 18 21, xE 22 0 18, xE 23 1 18, xM 7 22, xM 8 23] [6, 7, 8])
 (.seq (xR [xM 24 8] [6, 7, 24])
 (.cond (.t 24)
 (xR [xO 25 6, xM 26 7, xA 27 (.bsl .own 1 1 [xa] [(0,(.t 26))]), xA 28 (.app 1 16 (.t 25) (.t 27)), xO 6 28] [6])
 .skip)))
 (.seq (xR [xO 29 6, xO 4 29] [4])
 .ret))))), [(.tmp 4)], .pure, false, false⟩
def f51_b0 : ACode := (.wrap true [0, 2, 12, 13, 14] [] [(0, [])]
 (.seq (xR [xA 15 (.bin .lss (.t 14) (.t 13))] [0, 2, 12, 13, 14, 15])
 (.seq (.cond (.t 15)
 .skip
 (.exit 0))
 (.seq (.block 1 (.seq (xR [xI 16 1 12 14, xL 17 16, xM 7 17] [0, 2, 7, 12, 13, 14])
 (.seq (xR [xM 18 2, xM 19 7, xA 20 (.lkp [2] (.c xb) false (.t 18) (.t 19)), xN 21 20] [0, 2, 7, 12, 13, 14, 21])
 (.cond (.t 21)
 (xR [xM 22 0, xM 23 7, xM 24 2, xA 25 (.call 51 [(.t 22),(.t 23),(.t 24)])] [0, 2, 12, 13, 14])
 .skip))))
 (xR [xA 26 (.bin .add (.t 14) (xi 1)), xM 14 26] [0, 2, 12, 13, 14])))))
def f51_l0 : ACode := .loop f51_b0
theorem u51_l0 : LpEq f51_l0 f51_b0 := K_loop
/-- (*delver/hier.Tree).climb -/
def f51 : AFun := ⟨3,
 (.seq (xR [xM 8 2, xM 9 1, xZ (.upd [2] (.t 8) (.t 9) xT)] [0, 1, 2])
 (.seq (xR [xM 10 0, xM 11 1, xA 12 (.call 68 [(.t 10),(.t 11)]), xH 13 12, xA 14 (.mov .cp (xi 0))] [0, 2, 12, 13, 14])
 (.block 0 f51_l0))), [], .trim, false, false⟩
def f50_b0 : ACode := (.wrap true [0, 1, 5, 11, 12, 13] [4] [(0, [1, 5])]
 (.seq (xR [xA 14 (.bin .lss (.t 13) (.t 12))] [0, 1, 5, 11, 12, 13, 14])
 (.seq (.cond (.t 14)
 .skip
 (.exit 0))
 (.seq (.block 1 (.seq (xR [xI 15 1 11 13, xL 16 15, xM 7 16] [0, 1, 5, 7, 11, 12, 13])
 (.seq (xR [xM 17 5, xM 18 7, xA 19 (.lkp [2] (.c xb) false (.t 17) (.t 18)), xN 20 19] [0, 1, 5, 7, 11, 12, 13, 20])
 (.cond (.t 20)
 (xR [xM 21 0, xM 22 7, xM 23 5, xA 24 (.call 51 [(.t 21),(.t 22),(.t 23)])] [0, 1, 5, 11, 12, 13])
 .skip))))
 (xR [xA 25 (.bin .add (.t 13) (xi 1)), xM 13 25] [0, 1, 5, 11, 12, 13])))))
def f50_l0 : ACode := .loop f50_b0
theorem u50_l0 : LpEq f50_l0 f50_b0 := K_loop
/-- (*delver/hier.Tree).ring -/
def f50 : AFun := ⟨2,
 (.seq (xR [xA 4 (.mov .own xU)] [0, 1])
 (.seq (xR [xA 8 (.mkm), xM 5 8] [0, 1, 5])
 (.seq (.seq (xR [xM 9 0, xM 10 1, xA 11 (.call 68 [(.t 9),(.t 10)]), xH 12 11, xA 13 (.mov .cp (xi 0))] [0, 1, 5, 11, 12, 13])
 (.block 0 f50_l0))
 (.seq (xR [xM 26 5, xM 27 1, xA 28 (.lkp [2] (.c xb) false (.t 26) (.t 27)), xO 4 28] [4])
 .ret)))), [(.tmp 4)], .pure, false, false⟩
def f33_b0 : ACode := (.wrap false [3, 4, 34, 35, 36] [2] [(0, [3, 4])]
 (.seq (xR [xA 37 (.bin .lss (.t 36) (.t 35))] [3, 4, 34, 35, 36, 37])
 (.seq (.cond (.t 37)
 .skip
 (.exit 0))
 (.seq (.block 1 (.seq (xR [xI 38 6 34 36, xQ 39 6 38, xA 6 (.alloc [xa,xb,xa,(.osl 1 []),(.osl 4 []),(.osl 9 [])]), xS 6 6 39] [3, 4, 6, 34, 35, 36])
 (.seq (xG [xM 40 3, xM 41 3, xA 42 (.nilc (.t 41)), xF 43 1 42, xW 44 43, xF 45 0 6, xL 46 45, xA 47 (.bsl .own 1 1 [xa] [(0,(.t 46))]), xA 48 (.app 1 16 (.t 44) (.t 47)), xA 49 (.nilc (.t 40)), xF 50 1 49, xS 1 50 48] [3, 4, 6, 34, 35, 36])
 (xG [xM 51 3, xA 52 (.nilc (.t 51)), xF 53 3 52, xL 54 53, xF 55 0 6, xL 56 55, xQ 57 6 6, xZ (.upd [2] (.t 54) (.t 56) (.t 57))] [3, 4, 34, 35, 36]))))
 (xR [xA 58 (.bin .add (.t 36) (xi 1)), xM 36 58] [3, 4, 34, 35, 36])))))
def f33_l0 : ACode := .loop f33_b0
theorem u33_l0 : LpEq f33_l0 f33_b0 := K_loop
def f33_b1 : ACode := (.wrap false [3, 99, 100, 101] [2] [(3, [3])]
 (.seq (xR [xA 102 (.bin .lss (.t 101) (.t 100))] [3, 99, 100, 101, 102])
 (.seq (.cond (.t 102)
 .skip
 (.exit 3))
 (.seq (.block 4 (.seq (xR [xI 103 1 99 101, xL 104 103, xM 8 104] [3, 8, 99, 100, 101])
 (.seq (xR [xM 105 3, xA 106 (.nilc (.t 105)), xF 107 4 106, xL 108 107, xM 109 8, xA 110 (.mkm), xZ (.upd [2] (.t 110) (xs ⟨#[79,98,106,101,99,116]⟩) xT), xM 111 110, xZ (.upd [2] (.t 108) (.t 109) (.t 111))] [3, 8, 99, 100, 101])
 (xR [xM 112 3, xM 113 8, xM 114 3, xA 115 (.nilc (.t 114)), xF 116 4 115, xL 117 116, xM 118 8, xA 119 (.lkp [2] (.c (.b .nilm)) false (.t 117) (.t 118)), xA 120 (.call 51 [(.t 112),(.t 113),(.t 119)])] [3, 99, 100, 101]))))
 (xR [xA 121 (.bin .add (.t 101) (xi 1)), xM 101 121] [3, 99, 100, 101])))))
def f33_l1 : ACode := .loop f33_b1
theorem u33_l1 : LpEq f33_l1 f33_b1 := K_loop
/-- delver/hier.Of -/
def f33 : AFun := ⟨1,
 (.seq (xR [xB 1 0, xA 2 (.mov .own (.k (.c (.b .nilp))))] [1])
 (.seq (xR [xQ 9 1 1, xA 10 (.callb 46 [(.t 9)]), xA 11 (.mkm), xA 12 (.mkm), xA 13 (.build [xc,(.osl 1 []),xc,(.b .nilm),(.b .nilm)] [(2,1,(.t 10)),(3,1,(.t 11)),(4,1,(.t 12))]), xB 14 13, xO 3 14] [1, 3])
 (.seq (.seq (xR [xM 15 3, xA 16 (.nilc (.t 15)), xF 17 2 16, xL 18 17, xA 19 (.bin .neq (.t 18) (xi 0))] [1, 3, 19])
 (.cond (.t 19)
 (.seq (xR [xO 20 3, xO 2 20] [2])
 .ret)
 .skip))
 (.seq (xG [xA 21 (.callb 40 []), xF 22 0 1, xL 23 22, xA 24 (.app 6 112 (.t 21) (.t 23)), xM 4 24] [1, 3, 4])
 (.seq (xR [xM 25 3, xM 26 4, xH 27 26, xF 28 0 1, xL 29 28, xH 30 29, xA 31 (.bin .sub (.t 27) (.t 30)), xA 32 (.nilc (.t 25)), xF 33 0 32, xS 1 33 31] [3, 4])
 (.seq (.seq (xR [xM 34 4, xH 35 34, xA 36 (.mov .cp (xi 0))] [3, 4, 34, 35, 36])
 (.block 0 f33_l0))
 (.seq (.block 2 (.seq (xR [xM 60 3, xA 61 (.nilc (.t 60)), xF 62 3 61, xL 63 62, xA 64 (.len 2 (.t 63)), xM 65 4, xH 66 65, xA 67 (.bin .lss (.t 64) (.t 66)), xM 59 67] [3, 4, 59])
 (.cond (.t 59)
 (xR [xM 68 3, xA 69 (.nilc (.t 68)), xF 70 2 69, xZ (.st 1 (.t 70) (xi 6))] [3])
 (.seq (xR [xM 72 4, xM 73 3, xA 74 (.mkf 48 [(.t 73)] []), xA 75 (.call 47 [(.t 72),(.t 74)]), xM 71 75] [3, 71])
 (.cond (.t 71)
 (xR [xM 76 3, xA 77 (.nilc (.t 76)), xF 78 2 77, xZ (.st 1 (.t 78) (xi 5))] [3])
 (.seq (xR [xM 80 3, xA 81 (.nilc (.t 80)), xF 82 1 81, xL 83 82, xM 84 3, xA 85 (.mkf 50 [(.t 84)] []), xA 86 (.call 49 [(.t 83),(.t 85)]), xM 79 86] [3, 79])
 (.cond (.t 79)
 (xR [xM 87 3, xA 88 (.nilc (.t 87)), xF 89 2 88, xZ (.st 1 (.t 89) (xi 7))] [3])
 .skip)))))))
 (.seq (.seq (xR [xM 90 3, xA 91 (.nilc (.t 90)), xF 92 2 91, xL 93 92, xA 94 (.bin .neq (.t 93) (xi 0))] [3, 94])
 (.cond (.t 94)
 (.seq (xR [xO 95 3, xO 2 95] [2])
 .ret)
 .skip))
 (.seq (.seq (xR [xM 96 3, xA 97 (.nilc (.t 96)), xF 98 1 97, xL 99 98, xH 100 99, xA 101 (.mov .cp (xi 0))] [3, 99, 100, 101])
 (.block 3 f33_l1))
 (.seq (xR [xO 122 3, xO 2 122] [2])
 .ret)))))))))), [(.tmp 2)], .free, false, false⟩
/-- (*delver/hier.Tree).Under -/
def f34 : AFun := ⟨3,
 (.seq (xR [xA 6 (.mov .own xU)] [0, 1, 2])
 (.seq (xR [xM 7 0, xA 8 (.nilc (.t 7)), xF 9 2 8, xL 10 9, xA 11 (.bin .eql (.t 10) (xi 0)), xM 12 11, xMT 13 0 12, xAT 14 (.nilc (.t 13)) 12, xFT 15 4 14 12, xLT 16 15 12, xMT 17 1 12, xAT 18 (.lkp [2] (.c (.b .nilm)) false (.t 16) (.t 17)) 12, xMT 19 2 12, xAT 20 (.lkp [2] (.c xb) false (.t 18) (.t 19)) 12, xA 21 (.pick (.t 12) (.t 20) xU), xO 6 21] [6])
 .ret)), [(.tmp 6)], .pure, false, false⟩
/-- delver/hier.Under -/
def f12 : AFun := ⟨3,
 (.seq (xR [xB 3 0, xA 6 (.mov .own xU)] [1, 2, 3])
 (.seq (xR [xQ 7 1 3, xA 8 (.call 33 [(.t 7)]), xM 9 1, xM 10 2, xA 11 (.call 34 [(.t 8),(.t 9),(.t 10)]), xO 6 11] [6])
 .ret)), [(.tmp 6)], .pure, false, false⟩
def f14_b0 : ACode := (.wrap true [0, 1, 5] [4] [(0, [])]
 (.seq (.seq (xR [xM 11 5, xM 12 0, xH 13 12, xA 14 (.bin .lss (.t 11) (.t 13))] [0, 1, 5, 14])
 (.cond (.t 14)
 .skip
 (.exit 0)))
 (.seq (.block 1 (.seq (xG [xM 17 0, xM 18 5, xI 19 1 17 18, xL 20 19, xM 21 1, xM 22 5, xI 23 1 21 22, xL 24 23, xA 25 (.bin .neq (.t 20) (.t 24))] [0, 1, 5, 25])
 (.cond (.t 25)
 (.seq (xR [xA 4 (.mov .own xU)] [4])
 .ret)
 .skip)))
 (xR [xM 15 5, xA 16 (.bin .add (.t 15) (xi 1)), xM 5 16] [0, 1, 5]))))
def f14_l0 : ACode := .loop f14_b0
theorem u14_l0 : LpEq f14_l0 f14_b0 := K_loop
/-- delver/delverkeep.Strings -/
def f14 : AFun := ⟨2,
 (.seq (xR [xA 4 (.mov .own xU)] [0, 1])
 (.seq (.seq (xR [xM 6 0, xH 7 6, xM 8 1, xH 9 8, xA 10 (.bin .neq (.t 7) (.t 9))] [0, 1, 10])
 (.cond (.t 10)
 (.seq (xR [xA 4 (.mov .own xU)] [4])
 .ret)
 .skip))
 (.seq (.seq (xR [xA 5 (.mov .cp (xi 0))] [0, 1, 5])
 (.block 0 f14_l0))
 (.seq (xR [xA 4 (.mov .own xT)] [4])
 .ret)))), [(.tmp 4)], .pure, false, false⟩
def f35_b0 : ACode := (.wrap true [0, 1, 5, 21, 22, 23] [4] [(0, [5])]
 (.seq (xR [xA 24 (.bin .lss (.t 23) (.t 22))] [0, 1, 5, 21, 22, 23, 24])
 (.seq (.cond (.t 24)
 .skip
 (.exit 0))
 (.seq (.block 1 (.seq (xR [xI 25 1 21 23, xL 26 25, xM 7 26] [0, 1, 5, 7, 21, 22, 23])
 (.seq (xR [xM 27 0, xA 28 (.nilc (.t 27)), xF 29 3 28, xL 30 29, xM 31 7, xA 32 (.lkp [2] (.agg [xa,xb,xa,xd,xd,xd]) false (.t 30) (.t 31)), xA 33 (.fld 1 none (.t 32)), xN 34 33, xM 35 34, xMT 36 0 35, xMT 37 7 35, xMT 38 1 35, xAT 39 (.call 34 [(.t 36),(.t 37),(.t 38)]) 35, xA 40 (.pick (.t 35) (.t 39) xU)] [0, 1, 5, 7, 21, 22, 23, 40])
 (.cond (.t 40)
 (xR [xO 41 5, xM 42 7, xA 43 (.bsl .own 1 1 [xa] [(0,(.t 42))]), xA 44 (.app 1 16 (.t 41) (.t 43)), xO 5 44] [0, 1, 5, 21, 22, 23])
 .skip))))
 (xR [xA 45 (.bin .add (.t 23) (xi 1)), xM 23 45] [0, 1, 5, 21, 22, 23])))))
def f35_l0 : ACode := .loop f35_b0
theorem u35_l0 : LpEq f35_l0 f35_b0 := K_loop
/-- (*delver/hier.Tree).Kinds -/
def f35 : AFun := ⟨2,
 (.seq (xR [xA 4 (.mov .own (.k (.c (.osl 1 []))))] [0, 1])
 (.seq (xR [xA 5 (.mov .own (.k (.c (.osl 1 []))))] [0, 1, 5])
 (.seq (.seq (xR [xM 8 0, xA 9 (.nilc (.t 8)), xF 10 2 9, xL 11 10, xA 12 (.bin .neq (.t 11) (xi 0))] [0, 1, 5, 12])
 (.cond (.t 12)
 (.seq (xR [xA 4 (.mov .own (.k (.c (.osl 1 []))))] [4])
 .ret)
 .skip))
 (.seq (.seq (xG [xM 13 0, xA 14 (.nilc (.t 13)), xF 15 1 14, xL 16 15, xM 17 0, xA 18 (.nilc (.t 17)), xF 19 0 18, xL 20 19, xA 21 (.slc .cp 1 (.t 16) (some (.t 20)) none), xH 22 21, xA 23 (.mov .cp (xi 0))] [0, 1, 5, 21, 22, 23])
 (.block 0 f35_l0))
 (.seq (xR [xO 46 5, xO 4 46] [4])
 .ret))))), [(.tmp 4)], .pure, false, false⟩
/-- delver/hier.Kinds -/
def f15 : AFun := ⟨2,
 (.seq (xR [xB 2 0, xA 4 (.mov .own (.k (.c (.osl 1 []))))] [1, 2])
 (.seq (xR [xQ 5 1 2, xA 6 (.call 33 [(.t 5)]), xM 7 1, xA 8 (.call 35 [(.t 6),(.t 7)]), xO 4 8] [4])
 .ret)), [(.tmp 4)], .pure, false, false⟩
/-- delver/hier.Check -/
def f18 : AFun := ⟨1,
 (.seq (xR [xB 1 0, xA 2 (.mov .own (xi 0))] [1])
 (.seq (xR [xQ 3 1 1, xA 4 (.call 33 [(.t 3)]), xA 5 (.nilc (.t 4)), xF 6 2 5, xW 7 6, xO 2 7] [2])
 .ret)), [(.tmp 2)], .pure, false, false⟩
/-- (*delver/hier.Tree).Class -/
def f37 : AFun := ⟨2,
 (.seq (xR [xA 4 (.alloc [xa,xb,xa,(.osl 1 []),(.osl 4 []),(.osl 9 [])]), xA 5 (.mov .own xU)] [0, 1, 4])
 (.seq (xR [xM 9 0, xA 10 (.nilc (.t 9)), xF 11 3 10, xL 12 11, xM 13 1, xA 14 (.lkp [2] (.agg [xa,xb,xa,xd,xd,xd]) true (.t 12) (.t 13)), xO 8 14, xE 15 0 8, xE 16 1 8, xA 6 (.alloc [xa,xb,xa,(.osl 1 []),(.osl 4 []),(.osl 9 [])]), xS 6 6 15, xM 7 16] [0, 4, 6, 7])
 (.seq (xG [xQ 17 6 6, xM 18 7, xM 19 18, xMT 20 0 19, xAT 21 (.nilc (.t 20)) 19, xFT 22 2 21 19, xLT 23 22 19, xAT 24 (.bin .eql (.t 23) (xi 0)) 19, xA 25 (.pick (.t 19) (.t 24) xU), xZ (.stl 6 (.t 4) (.t 17) [6,22]), xO 5 25] [4, 5])
 .ret))), [(.cell 4 (some 6)), (.tmp 5)], .pure, false, false⟩
/-- (*delver/hier.Tree).Super -/
def f39 : AFun := ⟨2,
 (.seq (xR [xA 4 (.mov .own (xs ⟨#[]⟩)), xA 5 (.mov .own xU)] [0, 1])
 (.seq (xR [xM 9 0, xM 10 1, xA 11 (.call 37 [(.t 9),(.t 10)]), xO 8 11, xE 12 0 8, xE 13 1 8, xA 6 (.alloc [xa,xb,xa,(.osl 1 []),(.osl 4 []),(.osl 9 [])]), xS 6 6 12, xM 7 13] [0, 6, 7])
 (.seq (.seq (xR [xM 14 7, xN 15 14] [0, 6, 15])
 (.cond (.t 15)
 (.seq (xR [xA 4 (.mov .own (xs ⟨#[]⟩)), xA 5 (.mov .own xU)] [4, 5])
 .ret)
 .skip))
 (.seq (xR [xM 16 0, xQ 17 6 6, xA 18 (.call 56 [(.t 16),(.t 17)]), xE 19 0 18, xE 20 1 18, xO 4 19, xO 5 20] [4, 5])
 .ret)))), [(.tmp 4), (.tmp 5)], .pure, false, false⟩
/-- delver/hier.Super -/
def f20 : AFun := ⟨2,
 (.seq (xR [xB 2 0, xA 4 (.mov .own (xs ⟨#[]⟩)), xA 5 (.mov .own xU)] [1, 2])
 (.seq (xR [xQ 6 1 2, xA 7 (.call 33 [(.t 6)]), xM 8 1, xA 9 (.call 39 [(.t 7),(.t 8)]), xE 10 0 9, xE 11 1 9, xO 4 10, xO 5 11] [4, 5])
 .ret)), [(.tmp 4), (.tmp 5)], .pure, false, false⟩
/-- delver/delverlaw04.wakes -/
def f13 : AFun := ⟨0,
 (.seq (xR [xA 0 (.mov .own xU)] [])
 (.seq (xR [xA 5 (.build [xa,xb,xa,(.osl 1 []),(.osl 4 []),(.osl 9 [])] [(0,1,(xs ⟨#[65]⟩))]), xA 6 (.build [xa,xb,xa,(.osl 1 []),(.osl 4 []),(.osl 9 [])] [(0,1,(xs ⟨#[66]⟩)),(2,1,(xs ⟨#[65]⟩))]), xA 7 (.bsl .own 6 2 [xa,xb,xa,(.osl 1 []),(.osl 4 []),(.osl 9 [])] [(0,(.t 5)),(1,(.t 6))]), xA 8 (.build [(.osl 6 [])] [(0,1,(.t 7))]), xA 1 (.alloc [(.osl 6 [])]), xS 1 1 8] [1])
 (.seq (xR [xQ 10 1 1, xA 11 (.callb 20 [(.t 10),(xs ⟨#[65]⟩)]), xO 9 11, xE 12 0 9, xE 13 1 9, xM 2 12, xM 3 13] [1, 2, 3])
 (.seq (xR [xQ 14 1 1, xA 15 (.callb 15 [(.t 14),(xs ⟨#[65]⟩)]), xM 4 15] [1, 2, 3, 4])
 (.seq (xR [xQ 16 1 1, xA 17 (.callb 22 [(.t 16)]), xH 18 17, xA 19 (.bin .eql (.t 18) (xi 10)), xM 20 19, xAT 21 (.ld .cp (some 1) (.t 1)) 20, xAT 22 (.callb 18 [(.t 21)]) 20, xAT 23 (.bin .eql (.t 22) (xi 0)) 20, xA 24 (.pick (.t 20) (.t 23) xU), xM 25 24, xAT 26 (.ld .cp (some 1) (.t 1)) 25, xAT 27 (.callb 12 [(.t 26),(xs ⟨#[78,117,108,108,69,114,114,111,114]⟩),(xs ⟨#[69,114,114,111,114]⟩)]) 25, xA 28 (.pick (.t 25) (.t 27) xU), xM 29 28, xAT 30 (.ld .cp (some 1) (.t 1)) 29, xAT 31 (.callb 12 [(.t 30),(xs ⟨#[65]⟩),(xs ⟨#[66]⟩)]) 29, xNT 32 31 29, xA 33 (.pick (.t 29) (.t 32) xU), xM 34 33, xMT 35 3 34, xA 36 (.pick (.t 34) (.t 35) xU), xM 37 36, xMT 38 2 37, xAT 39 (.bin .eql (.t 38) (xs ⟨#[79,98,106,101,99,116]⟩)) 37, xA 40 (.pick (.t 37) (.t 39) xU), xM 41 40, xMT 42 4 41, xAT 43 (.bsl .own 1 2 [xa] [(0,(xs ⟨#[65]⟩)),(1,(xs ⟨#[66]⟩))]) 41, xAT 44 (.callb 14 [(.t 42),(.t 43)]) 41, xA 45 (.pick (.t 41) (.t 44) xU), xM 46 45, xAT 47 (.build [xa,xb,xa,(.osl 1 []),(.osl 4 []),(.osl 9 [])] [(0,1,(xs ⟨#[69,114,114,111,114]⟩))]) 46, xAT 48 (.bsl .own 6 1 [xa,xb,xa,(.osl 1 []),(.osl 4 []),(.osl 9 [])] [(0,(.t 47))]) 46, xAT 49 (.build [(.osl 6 [])] [(0,1,(.t 48))]) 46, xAT 50 (.callb 18 [(.t 49)]) 46, xAT 51 (.bin .eql (.t 50) (xi 6)) 46, xA 52 (.pick (.t 46) (.t 51) xU), xO 0 52] [0])
 .ret))))), [(.tmp 0)], .pure, false, false⟩
/-- delver/delverlaw04.HierOrder -/
def f3 : AFun := ⟨4,
 (.seq (xR [xB 4 0, xA 8 (.mov .own xU)] [1, 2, 3, 4])
 (.seq (.seq (xR [xQ 13 1 4, xA 14 (.callb 9 [(.t 13)]), xM 15 14, xAF 16 (.ld .cp (some 1) (.t 4)) 15, xAF 17 (.callb 10 [(.t 16)]) 15, xAF 18 (.bin .neq (.t 17) (xi 0)) 15, xA 19 (.pick (.t 15) xT (.t 18))] [1, 2, 3, 4, 19])
 (.cond (.t 19)
 (.seq (xR [xA 8 (.mov .own xT)] [8])
 .ret)
 .skip))
 (.seq (xR [xQ 20 1 4, xA 21 (.callb 11 [(.t 20)]), xM 9 21] [1, 2, 3, 4, 9])
 (.seq (.seq (xR [xM 22 9, xH 23 22, xA 24 (.bin .eql (.t 23) (xi 0))] [1, 2, 3, 4, 9, 24])
 (.cond (.t 24)
 (.seq (xR [xA 8 (.mov .own xU)] [8])
 .ret)
 .skip))
 (.seq (xG [xM 25 9, xM 26 1, xA 27 (.conv .u64 (.t 26)), xM 28 9, xH 29 28, xA 30 (.conv .u64 (.t 29)), xA 31 (.bin .rem (.t 27) (.t 30)), xA 32 (.conv .i64 (.t 31)), xI 33 1 25 32, xL 34 33, xM 35 9, xM 36 2, xA 37 (.conv .u64 (.t 36)), xM 38 9, xH 39 38, xA 40 (.conv .u64 (.t 39)), xA 41 (.bin .rem (.t 37) (.t 40)), xA 42 (.conv .i64 (.t 41)), xI 43 1 35 42, xL 44 43, xM 45 9, xM 46 3, xA 47 (.conv .u64 (.t 46)), xM 48 9, xH 49 48, xA 50 (.conv .u64 (.t 49)), xA 51 (.bin .rem (.t 47) (.t 50)), xA 52 (.conv .i64 (.t 51)), xI 53 1 45 52, xL 54 53, xM 10 34, xM 11 44, xM 12 54] [4, 10, 11, 12])
 (.seq (.seq (xR [xQ 55 1 4, xM 56 10, xM 57 10, xA 58 (.callb 12 [(.t 55),(.t 56),(.t 57)]), xN 59 58, xM 60 59, xAF 61 (.ld .cp (some 1) (.t 4)) 60, xMF 62 10 60, xAF 63 (.callb 12 [(.t 61),(.t 62),(xs ⟨#[79,98,106,101,99,116]⟩)]) 60, xNF 64 63 60, xA 65 (.pick (.t 60) xT (.t 64))] [4, 10, 11, 12, 65])
 (.cond (.t 65)
 (.seq (xR [xA 8 (.mov .own xU)] [8])
 .ret)
 .skip))
 (.seq (.seq (xR [xQ 66 1 4, xM 67 10, xM 68 11, xA 69 (.callb 12 [(.t 66),(.t 67),(.t 68)]), xM 70 69, xAT 71 (.ld .cp (some 1) (.t 4)) 70, xMT 72 11 70, xMT 73 12 70, xAT 74 (.callb 12 [(.t 71),(.t 72),(.t 73)]) 70, xA 75 (.pick (.t 70) (.t 74) xU), xM 76 75, xAT 77 (.ld .cp (some 1) (.t 4)) 76, xMT 78 10 76, xMT 79 12 76, xAT 80 (.callb 12 [(.t 77),(.t 78),(.t 79)]) 76, xNT 81 80 76, xA 82 (.pick (.t 76) (.t 81) xU)] [4, 10, 11, 82])
 (.cond (.t 82)
 (.seq (xR [xA 8 (.mov .own xU)] [8])
 .ret)
 .skip))
 (.seq (xR [xM 83 10, xM 84 11, xA 85 (.bin .eql (.t 83) (.t 84)), xM 86 85, xAF 87 (.ld .cp (some 1) (.t 4)) 86, xMF 88 10 86, xMF 89 11 86, xAF 90 (.callb 12 [(.t 87),(.t 88),(.t 89)]) 86, xNF 91 90 86, xA 92 (.pick (.t 86) xT (.t 91)), xM 93 92, xAF 94 (.ld .cp (some 1) (.t 4)) 93, xMF 95 11 93, xMF 96 10 93, xAF 97 (.callb 12 [(.t 94),(.t 95),(.t 96)]) 93, xNF 98 97 93, xA 99 (.pick (.t 93) xT (.t 98)), xM 100 99, xAT 101 (.callb 13 []) 100, xA 102 (.pick (.t 100) (.t 101) xU), xO 8 102] [8])
 .ret)))))))), [(.tmp 8)], .pure, false, false⟩
def f4_b0 : ACode := (.wrap true [3, 8, 9, 10, 11] [6] [(0, [3, 8, 9, 10])]
 (.seq (.seq (xR [xM 48 11, xF 49 0 3, xL 50 49, xH 51 50, xA 52 (.bin .lss (.t 48) (.t 51))] [3, 8, 9, 10, 11, 52])
 (.cond (.t 52)
 .skip
 (.exit 0)))
 (.seq (.block 1 (.seq (xG [xF 55 0 3, xL 56 55, xM 57 11, xI 58 6 56 57, xF 59 1 58, xL 60 59, xN 61 60, xM 62 61, xAT 63 (.ld .cp (some 1) (.t 3)) 62, xFT 64 0 3 62, xLT 65 64 62, xMT 66 11 62, xIT 67 6 65 66 62, xFT 68 0 67 62, xLT 69 68 62, xMT 70 8 62, xAT 71 (.callb 12 [(.t 63),(.t 69),(.t 70)]) 62, xA 72 (.pick (.t 62) (.t 71) xU)] [3, 8, 9, 10, 11, 72])
 (.cond (.t 72)
 (xR [xO 73 10, xF 74 0 3, xL 75 74, xM 76 11, xI 77 6 75 76, xF 78 0 77, xL 79 78, xA 80 (.bsl .own 1 1 [xa] [(0,(.t 79))]), xA 81 (.app 1 16 (.t 73) (.t 80)), xO 10 81] [3, 8, 9, 10, 11])
 .skip)))
 (xR [xM 53 11, xA 54 (.bin .add (.t 53) (xi 1)), xM 11 54] [3, 8, 9, 10, 11]))))
def f4_l0 : ACode := .loop f4_b0
theorem u4_l0 : LpEq f4_l0 f4_b0 := K_loop
def f4_b1 : ACode := (.wrap true [10, 12, 13, 14, 15] [6] [(4, [10, 12, 13, 14])]
 (.seq (.seq (xR [xM 103 15, xM 104 10, xH 105 104, xA 106 (.bin .lss (.t 103) (.t 105))] [10, 12, 13, 14, 15, 106])
 (.cond (.t 106)
 .skip
 (.exit 4)))
 (.seq (.block 5 (xG [xM 109 14, xM 110 109, xMF 111 10 110, xMF 112 15 110, xIF 113 1 111 112 110, xLF 114 113 110, xMF 115 12 110, xMF 116 13 110, xIF 117 1 115 116 110, xLF 118 117 110, xAF 119 (.bin .eql (.t 114) (.t 118)) 110, xA 120 (.pick (.t 110) xT (.t 119)), xM 14 120] [10, 12, 13, 14, 15]))
 (xR [xM 107 15, xA 108 (.bin .add (.t 107) (xi 1)), xM 15 108] [10, 12, 13, 14, 15]))))
def f4_l1 : ACode := .loop f4_b1
theorem u4_l1 : LpEq f4_l1 f4_b1 := K_loop
def f4_b2 : ACode := (.wrap true [10, 12, 13] [6] [(2, [])]
 (.seq (.seq (xR [xM 97 13, xM 98 12, xH 99 98, xA 100 (.bin .lss (.t 97) (.t 99))] [10, 12, 13, 100])
 (.cond (.t 100)
 .skip
 (.exit 2)))
 (.seq (.block 3 (.seq (xR [xA 14 (.mov .cp xU)] [10, 12, 13, 14])
 (.seq (.seq (xR [xA 15 (.mov .cp (xi 0))] [10, 12, 13, 14, 15])
 (.block 4 f4_l1))
 (.seq (xR [xM 121 14, xN 122 121] [10, 12, 13, 122])
 (.cond (.t 122)
 (.seq (xR [xA 6 (.mov .own xU)] [6])
 .ret)
 .skip)))))
 (xR [xM 101 13, xA 102 (.bin .add (.t 101) (xi 1)), xM 13 102] [10, 12, 13]))))
def f4_l2 : ACode := .loop f4_b2
theorem u4_l2 : LpEq f4_l2 f4_b2 := K_loop
/-- delver/delverlaw04.HierKinds -/
def f4 : AFun := ⟨3,
 (.seq (xR [xB 3 0, xA 6 (.mov .own xU)] [1, 2, 3])
 (.seq (.seq (xR [xQ 16 1 3, xA 17 (.callb 9 [(.t 16)]), xM 18 17, xAF 19 (.ld .cp (some 1) (.t 3)) 18, xAF 20 (.callb 10 [(.t 19)]) 18, xAF 21 (.bin .neq (.t 20) (xi 0)) 18, xA 22 (.pick (.t 18) xT (.t 21))] [1, 2, 3, 22])
 (.cond (.t 22)
 (.seq (xR [xA 6 (.mov .own xT)] [6])
 .ret)
 .skip))
 (.seq (xR [xQ 23 1 3, xA 24 (.callb 11 [(.t 23)]), xM 7 24] [1, 2, 3, 7])
 (.seq (.seq (xR [xM 25 7, xH 26 25, xA 27 (.bin .eql (.t 26) (xi 0))] [1, 2, 3, 7, 27])
 (.cond (.t 27)
 (.seq (xR [xA 6 (.mov .own xU)] [6])
 .ret)
 .skip))
 (.seq (xG [xM 28 7, xM 29 1, xA 30 (.conv .u64 (.t 29)), xM 31 7, xH 32 31, xA 33 (.conv .u64 (.t 32)), xA 34 (.bin .rem (.t 30) (.t 33)), xA 35 (.conv .i64 (.t 34)), xI 36 1 28 35, xL 37 36, xM 38 7, xM 39 2, xA 40 (.conv .u64 (.t 39)), xM 41 7, xH 42 41, xA 43 (.conv .u64 (.t 42)), xA 44 (.bin .rem (.t 40) (.t 43)), xA 45 (.conv .i64 (.t 44)), xI 46 1 38 45, xL 47 46, xM 8 37, xM 9 47] [3, 8, 9])
 (.seq (xR [xA 10 (.mov .own (.k (.c (.osl 1 []))))] [3, 8, 9, 10])
 (.seq (.seq (xR [xA 11 (.mov .cp (xi 0))] [3, 8, 9, 10, 11])
 (.block 0 f4_l0))
 (.seq (.seq (xR [xQ 82 1 3, xM 83 8, xA 84 (.callb 15 [(.t 82),(.t 83)]), xM 85 10, xA 86 (.callb 14 [(.t 84),(.t 85)]), xN 87 86] [3, 8, 9, 10, 87])
 (.cond (.t 87)
 (.seq (xR [xA 6 (.mov .own xU)] [6])
 .ret)
 .skip))
 (.seq (.seq (xR [xQ 88 1 3, xM 89 9, xM 90 8, xA 91 (.callb 12 [(.t 88),(.t 89),(.t 90)]), xN 92 91] [3, 9, 10, 92])
 (.cond (.t 92)
 (.seq (xR [xA 93 (.callb 13 []), xO 6 93] [6])
 .ret)
 .skip))
 (.seq (xR [xQ 94 1 3, xM 95 9, xA 96 (.callb 15 [(.t 94),(.t 95)]), xM 12 96] [10, 12])
 (.seq (.seq (xR [xA 13 (.mov .cp (xi 0))] [10, 12, 13])
 (.block 2 f4_l2))
 (.seq (xR [xA 123 (.callb 13 []), xO 6 123] [6])
 .ret)))))))))))), [(.tmp 6)], .pure, false, false⟩
/-- delver/delverlaw04.HierMore -/
def f5 : AFun := ⟨3,
 (.seq (xR [xB 3 0, xA 6 (.mov .own xU)] [1, 2, 3])
 (.seq (.seq (xR [xQ 12 1 3, xA 13 (.callb 9 [(.t 12)]), xM 14 13, xAF 15 (.ld .cp (some 1) (.t 3)) 14, xAF 16 (.callb 10 [(.t 15)]) 14, xAF 17 (.bin .neq (.t 16) (xi 0)) 14, xA 18 (.pick (.t 14) xT (.t 17)), xM 19 18, xFF 20 0 3 19, xLF 21 20 19, xAF 22 (.len 0 (.t 21)) 19, xAF 23 (.bin .geq (.t 22) (xi 10)) 19, xA 24 (.pick (.t 19) xT (.t 23)), xM 25 24, xFF 26 0 3 25, xLF 27 26 25, xAF 28 (.callb 16 [(.t 27),(xs ⟨#[90,122,95,110,101,119]⟩)]) 25, xAF 29 (.bin .geq (.t 28) (xi 0)) 25, xA 30 (.pick (.t 25) xT (.t 29))] [1, 2, 3, 30])
 (.cond (.t 30)
 (.seq (xR [xA 6 (.mov .own xT)] [6])
 .ret)
 .skip))
 (.seq (xR [xQ 31 1 3, xA 32 (.callb 4113 [(.t 31)]), xA 7 (.alloc [(.osl 6 [])]), xS 1 7 32] [1, 2, 3, 7])
 (.seq (xR [xF 33 0 7, xW 34 33, xA 35 (.build [xa,xb,xa,(.osl 1 []),(.osl 4 []),(.osl 9 [])] [(0,1,(xs ⟨#[90,122,95,110,101,119]⟩))]), xA 36 (.bsl .own 6 1 [xa,xb,xa,(.osl 1 []),(.osl 4 []),(.osl 9 [])] [(0,(.t 35))]), xA 37 (.app 6 112 (.t 34) (.t 36)), xF 38 0 7, xS 1 38 37] [1, 2, 3, 7])
 (.seq (xR [xQ 39 1 3, xA 40 (.callb 11 [(.t 39)]), xM 8 40] [1, 2, 3, 7, 8])
 (.seq (.seq (xR [xM 41 8, xH 42 41, xA 43 (.bin .eql (.t 42) (xi 0))] [1, 2, 3, 7, 8, 43])
 (.cond (.t 43)
 (.seq (xR [xA 6 (.mov .own xU)] [6])
 .ret)
 .skip))
 (.seq (xG [xM 44 8, xM 45 1, xA 46 (.conv .u64 (.t 45)), xM 47 8, xH 48 47, xA 49 (.conv .u64 (.t 48)), xA 50 (.bin .rem (.t 46) (.t 49)), xA 51 (.conv .i64 (.t 50)), xI 52 1 44 51, xL 53 52, xM 54 8, xM 55 2, xA 56 (.conv .u64 (.t 55)), xM 57 8, xH 58 57, xA 59 (.conv .u64 (.t 58)), xA 60 (.bin .rem (.t 56) (.t 59)), xA 61 (.conv .i64 (.t 60)), xI 62 1 54 61, xL 63 62, xM 9 53, xM 10 63] [3, 7, 9, 10])
 (.seq (xR [xQ 64 1 3, xM 65 9, xA 66 (.callb 15 [(.t 64),(.t 65)]), xO 11 66] [3, 7, 9, 10, 11])
 (.seq (.seq (xR [xM 67 9, xA 68 (.bin .eql (.t 67) (xs ⟨#[79,98,106,101,99,116]⟩))] [3, 7, 9, 10, 11, 68])
 (.cond (.t 68)
 (xR [xO 69 11, xA 70 (.bsl .own 1 1 [xa] [(0,(xs ⟨#[90,122,95,110,101,119]⟩))]), xA 71 (.app 1 16 (.t 69) (.t 70)), xO 11 71] [3, 7, 9, 10, 11])
 .skip))
 (.seq (xG [xQ 72 1 7, xA 73 (.callb 18 [(.t 72)]), xA 74 (.bin .eql (.t 73) (xi 0)), xM 75 74, xAT 76 (.ld .cp (some 1) (.t 3)) 75, xMT 77 9 75, xMT 78 10 75, xAT 79 (.callb 12 [(.t 76),(.t 77),(.t 78)]) 75, xAT 80 (.ld .cp (some 1) (.t 7)) 75, xMT 81 9 75, xMT 82 10 75, xAT 83 (.callb 12 [(.t 80),(.t 81),(.t 82)]) 75, xAT 84 (.eq false 0 [] (.t 79) (.t 83)) 75, xA 85 (.pick (.t 75) (.t 84) xU), xM 86 85, xAT 87 (.ld .cp (some 1) (.t 7)) 86, xMT 88 9 86, xAT 89 (.callb 15 [(.t 87),(.t 88)]) 86, xMT 90 11 86, xAT 91 (.callb 14 [(.t 89),(.t 90)]) 86, xA 92 (.pick (.t 86) (.t 91) xU), xM 93 92, xAT 94 (.ld .cp (some 1) (.t 7)) 93, xMT 95 9 93, xAT 96 (.callb 12 [(.t 94),(xs ⟨#[90,122,95,110,101,119]⟩),(.t 95)]) 93, xMT 97 9 93, xAT 98 (.bin .eql (.t 97) (xs ⟨#[79,98,106,101,99,116]⟩)) 93, xAT 99 (.eq false 0 [] (.t 96) (.t 98)) 93, xA 100 (.pick (.t 93) (.t 99) xU), xM 101 100, xAT 102 (.ld .cp (some 1) (.t 7)) 101, xMT 103 9 101, xAT 104 (.callb 12 [(.t 102),(.t 103),(xs ⟨#[90,122,95,110,101,119]⟩)]) 101, xNT 105 104 101, xA 106 (.pick (.t 101) (.t 105) xU), xM 107 106, xAT 108 (.callb 13 []) 107, xA 109 (.pick (.t 107) (.t 108) xU), xO 6 109] [6])
 .ret)))))))))), [(.tmp 6)], .pure, false, false⟩
/-- delver/hier.Find -/
def f19 : AFun := ⟨2,
 (.seq (xR [xB 2 0, xA 4 (.alloc [xa,xb,xa,(.osl 1 []),(.osl 4 []),(.osl 9 [])]), xA 5 (.mov .own xU)] [1, 2, 4])
 (.seq (xR [xQ 9 1 2, xA 10 (.call 33 [(.t 9)]), xM 11 1, xA 12 (.call 37 [(.t 10),(.t 11)]), xO 8 12, xE 13 0 8, xE 14 1 8, xA 6 (.alloc [xa,xb,xa,(.osl 1 []),(.osl 4 []),(.osl 9 [])]), xS 6 6 13, xM 7 14] [4, 6, 7])
 (.seq (.seq (xR [xM 15 7, xN 16 15] [4, 6, 16])
 (.cond (.t 16)
 (.seq (xR [xA 17 (.build [xa,xb,xa,(.osl 1 []),(.osl 4 []),(.osl 9 [])] []), xS 6 4 17, xA 5 (.mov .own xU)] [4, 5])
 .ret)
 .skip))
 (.seq (xR [xQ 18 6 6, xA 19 (.callb 38 [(.t 18)]), xS 6 4 19, xA 5 (.mov .own xT)] [4, 5])
 .ret)))), [(.cell 4 (some 6)), (.tmp 5)], .pure, false, false⟩
def f58_b0 : ACode := (.wrap true [0, 1, 5] [4] [(0, [])]
 (.seq (.seq (xR [xM 11 5, xM 12 0, xH 13 12, xA 14 (.bin .lss (.t 11) (.t 13))] [0, 1, 5, 14])
 (.cond (.t 14)
 .skip
 (.exit 0)))
 (.seq (.block 1 (.seq (xG [xM 17 0, xM 18 5, xI 19 2 17 18, xQ 20 2 19, xM 21 1, xM 22 5, xI 23 2 21 22, xQ 24 2 23, xA 25 (.eq true 2 [1,2] (.t 20) (.t 24))] [0, 1, 5, 25])
 (.cond (.t 25)
 (.seq (xR [xA 4 (.mov .own xU)] [4])
 .ret)
 .skip)))
 (xR [xM 15 5, xA 16 (.bin .add (.t 15) (xi 1)), xM 5 16] [0, 1, 5]))))
def f58_l0 : ACode := .loop f58_b0
theorem u58_l0 : LpEq f58_l0 f58_b0 := K_loop
/-- delver/delverkeep.Types -/
def f58 : AFun := ⟨2,
 (.seq (xR [xA 4 (.mov .own xU)] [0, 1])
 (.seq (.seq (xR [xM 6 0, xH 7 6, xM 8 1, xH 9 8, xA 10 (.bin .neq (.t 7) (.t 9))] [0, 1, 10])
 (.cond (.t 10)
 (.seq (xR [xA 4 (.mov .own xU)] [4])
 .ret)
 .skip))
 (.seq (.seq (xR [xA 5 (.mov .cp (xi 0))] [0, 1, 5])
 (.block 0 f58_l0))
 (.seq (xR [xA 4 (.mov .own xT)] [4])
 .ret)))), [(.tmp 4)], .pure, false, false⟩
def f42_b0 : ACode := (.wrap true [2, 3, 5] [4] [(0, [2, 3])]
 (.seq (.seq (xR [xM 66 5, xF 67 7 2, xL 68 67, xH 69 68, xA 70 (.bin .lss (.t 66) (.t 69))] [2, 3, 5, 70])
 (.cond (.t 70)
 .skip
 (.exit 0)))
 (.seq (.block 1 (.seq (xG [xF 73 7 2, xL 74 73, xM 75 5, xI 76 4 74 75, xQ 77 4 76, xF 78 7 3, xL 79 78, xM 80 5, xI 81 4 79 80, xQ 82 4 81, xA 83 (.eq true 2 [1,1,2,2] (.t 77) (.t 82))] [2, 3, 5, 83])
 (.cond (.t 83)
 (.seq (xR [xA 4 (.mov .own xU)] [4])
 .ret)
 .skip)))
 (xR [xM 71 5, xA 72 (.bin .add (.t 71) (xi 1)), xM 5 72] [2, 3, 5]))))
def f42_l0 : ACode := .loop f42_b0
theorem u42_l0 : LpEq f42_l0 f42_b0 := K_loop
def f42_b1 : ACode := (.wrap true [2, 3, 6] [4] [(2, [])]
 (.seq (.seq (xR [xM 84 6, xF 85 8 2, xL 86 85, xH 87 86, xA 88 (.bin .lss (.t 84) (.t 87))] [2, 3, 6, 88])
 (.cond (.t 88)
 .skip
 (.exit 2)))
 (.seq (.block 3 (.seq (xG [xF 91 8 2, xL 92 91, xM 93 6, xI 94 4 92 93, xQ 95 4 94, xF 96 8 3, xL 97 96, xM 98 6, xI 99 4 97 98, xQ 100 4 99, xA 101 (.eq true 2 [2,1,1,1] (.t 95) (.t 100))] [2, 3, 6, 101])
 (.cond (.t 101)
 (.seq (xR [xA 4 (.mov .own xU)] [4])
 .ret)
 .skip)))
 (xR [xM 89 6, xA 90 (.bin .add (.t 89) (xi 1)), xM 6 90] [2, 3, 6]))))
def f42_l1 : ACode := .loop f42_b1
theorem u42_l1 : LpEq f42_l1 f42_b1 := K_loop
/-- delver/delverkeep.Method -/
def f42 : AFun := ⟨2,
 (.seq (xR [xB 2 0, xB 3 1, xA 4 (.mov .own xU)] [2, 3])
 (.seq (.seq (xR [xF 7 0 2, xL 8 7, xF 9 0 3, xL 10 9, xA 11 (.bin .neq (.t 8) (.t 10)), xM 12 11, xFF 13 1 2 12, xLF 14 13 12, xFF 15 1 3 12, xLF 16 15 12, xAF 17 (.eq true 0 [] (.t 14) (.t 16)) 12, xA 18 (.pick (.t 12) xT (.t 17)), xM 19 18, xFF 20 2 2 19, xLF 21 20 19, xFF 22 2 3 19, xLF 23 22 19, xAF 24 (.eq true 0 [] (.t 21) (.t 23)) 19, xA 25 (.pick (.t 19) xT (.t 24)), xM 26 25, xFF 27 3 2 26, xLF 28 27 26, xFF 29 3 3 26, xLF 30 29 26, xAF 31 (.callb 58 [(.t 28),(.t 30)]) 26, xNF 32 31 26, xA 33 (.pick (.t 26) xT (.t 32)), xM 34 33, xFF 35 4 2 34, xAF 36 (.ld .cp (some 2) (.t 35)) 34, xFF 37 4 3 34, xAF 38 (.ld .cp (some 2) (.t 37)) 34, xAF 39 (.eq true 2 [1,2] (.t 36) (.t 38)) 34, xA 40 (.pick (.t 34) xT (.t 39)), xM 41 40, xFF 42 6 2 41, xLF 43 42 41, xFF 44 6 3 41, xLF 45 44 41, xAF 46 (.bin .neq (.t 43) (.t 45)) 41, xA 47 (.pick (.t 41) xT (.t 46)), xM 48 47, xFF 49 7 2 48, xLF 50 49 48, xAF 51 (.len 0 (.t 50)) 48, xFF 52 7 3 48, xLF 53 52 48, xAF 54 (.len 0 (.t 53)) 48, xAF 55 (.bin .neq (.t 51) (.t 54)) 48, xA 56 (.pick (.t 48) xT (.t 55)), xM 57 56, xFF 58 8 2 57, xLF 59 58 57, xAF 60 (.len 0 (.t 59)) 57, xFF 61 8 3 57, xLF 62 61 57, xAF 63 (.len 0 (.t 62)) 57, xAF 64 (.bin .neq (.t 60) (.t 63)) 57, xA 65 (.pick (.t 57) xT (.t 64))] [2, 3, 65])
 (.cond (.t 65)
 (.seq (xR [xA 4 (.mov .own xU)] [4])
 .ret)
 .skip))
 (.seq (.seq (xR [xA 5 (.mov .cp (xi 0))] [2, 3, 5])
 (.block 0 f42_l0))
 (.seq (.seq (xR [xA 6 (.mov .cp (xi 0))] [2, 3, 6])
 (.block 2 f42_l1))
 (.seq (xR [xA 4 (.mov .own xT)] [4])
 .ret))))), [(.tmp 4)], .pure, false, false⟩
def f25_b0 : ACode := (.wrap true [2, 3, 5] [4] [(0, [2, 3])]
 (.seq (.seq (xR [xM 52 5, xF 53 4 2, xL 54 53, xH 55 54, xA 56 (.bin .lss (.t 52) (.t 55))] [2, 3, 5, 56])
 (.cond (.t 56)
 .skip
 (.exit 0)))
 (.seq (.block 1 (.seq (xG [xF 59 4 2, xL 60 59, xM 61 5, xI 62 4 60 61, xQ 63 4 62, xF 64 4 3, xL 65 64, xM 66 5, xI 67 4 65 66, xQ 68 4 67, xA 69 (.eq true 2 [2,1,2,0] (.t 63) (.t 68))] [2, 3, 5, 69])
 (.cond (.t 69)
 (.seq (xR [xA 4 (.mov .own xU)] [4])
 .ret)
 .skip)))
 (xR [xM 57 5, xA 58 (.bin .add (.t 57) (xi 1)), xM 5 58] [2, 3, 5]))))
def f25_l0 : ACode := .loop f25_b0
theorem u25_l0 : LpEq f25_l0 f25_b0 := K_loop
def f25_b1 : ACode := (.wrap true [2, 3, 6] [4] [(2, [])]
 (.seq (.seq (xR [xM 70 6, xF 71 5 2, xL 72 71, xH 73 72, xA 74 (.bin .lss (.t 70) (.t 73))] [2, 3, 6, 74])
 (.cond (.t 74)
 .skip
 (.exit 2)))
 (.seq (.block 3 (.seq (xG [xF 77 5 2, xL 78 77, xM 79 6, xI 80 9 78 79, xQ 81 9 80, xF 82 5 3, xL 83 82, xM 84 6, xI 85 9 83 84, xQ 86 9 85, xA 87 (.callb 42 [(.t 81),(.t 86)]), xN 88 87] [2, 3, 6, 88])
 (.cond (.t 88)
 (.seq (xR [xA 4 (.mov .own xU)] [4])
 .ret)
 .skip)))
 (xR [xM 75 6, xA 76 (.bin .add (.t 75) (xi 1)), xM 6 76] [2, 3, 6]))))
def f25_l1 : ACode := .loop f25_b1
theorem u25_l1 : LpEq f25_l1 f25_b1 := K_loop
/-- delver/delverkeep.Class -/
def f25 : AFun := ⟨2,
 (.seq (xR [xB 2 0, xB 3 1, xA 4 (.mov .own xU)] [2, 3])
 (.seq (.seq (xR [xF 7 0 2, xL 8 7, xF 9 0 3, xL 10 9, xA 11 (.bin .neq (.t 8) (.t 10)), xM 12 11, xFF 13 1 2 12, xLF 14 13 12, xFF 15 1 3 12, xLF 16 15 12, xAF 17 (.eq true 0 [] (.t 14) (.t 16)) 12, xA 18 (.pick (.t 12) xT (.t 17)), xM 19 18, xFF 20 2 2 19, xLF 21 20 19, xFF 22 2 3 19, xLF 23 22 19, xAF 24 (.bin .neq (.t 21) (.t 23)) 19, xA 25 (.pick (.t 19) xT (.t 24)), xM 26 25, xFF 27 3 2 26, xLF 28 27 26, xFF 29 3 3 26, xLF 30 29 26, xAF 31 (.callb 14 [(.t 28),(.t 30)]) 26, xNF 32 31 26, xA 33 (.pick (.t 26) xT (.t 32)), xM 34 33, xFF 35 4 2 34, xLF 36 35 34, xAF 37 (.len 0 (.t 36)) 34, xFF 38 4 3 34, xLF 39 38 34, xAF 40 (.len 0 (.t 39)) 34, xAF 41 (.bin .neq (.t 37) (.t 40)) 34, xA 42 (.pick (.t 34) xT (.t 41)), xM 43 42, xFF 44 5 2 43, xLF 45 44 43, xAF 46 (.len 0 (.t 45)) 43, xFF 47 5 3 43, xLF 48 47 43, xAF 49 (.len 0 (.t 48)) 43, xAF 50 (.bin .neq (.t 46) (.t 49)) 43, xA 51 (.pick (.t 43) xT (.t 50))] [2, 3, 51])
 (.cond (.t 51)
 (.seq (xR [xA 4 (.mov .own xU)] [4])
 .ret)
 .skip))
 (.seq (.seq (xR [xA 5 (.mov .cp (xi 0))] [2, 3, 5])
 (.block 0 f25_l0))
 (.seq (.seq (xR [xA 6 (.mov .cp (xi 0))] [2, 3, 6])
 (.block 2 f25_l1))
 (.seq (xR [xA 4 (.mov .own xT)] [4])
 .ret))))), [(.tmp 4)], .pure, false, false⟩
def f21_b0 : ACode := (.wrap true [0, 1, 5] [4] [(0, [])]
 (.seq (.seq (xR [xM 11 5, xM 12 0, xH 13 12, xA 14 (.bin .lss (.t 11) (.t 13))] [0, 1, 5, 14])
 (.cond (.t 14)
 .skip
 (.exit 0)))
 (.seq (.block 1 (.seq (xG [xM 17 0, xM 18 5, xI 19 6 17 18, xQ 20 6 19, xM 21 1, xM 22 5, xI 23 6 21 22, xQ 24 6 23, xA 25 (.callb 25 [(.t 20),(.t 24)]), xN 26 25] [0, 1, 5, 26])
 (.cond (.t 26)
 (.seq (xR [xA 4 (.mov .own xU)] [4])
 .ret)
 .skip)))
 (xR [xM 15 5, xA 16 (.bin .add (.t 15) (xi 1)), xM 5 16] [0, 1, 5]))))
def f21_l0 : ACode := .loop f21_b0
theorem u21_l0 : LpEq f21_l0 f21_b0 := K_loop
/-- delver/delverkeep.Classes -/
def f21 : AFun := ⟨2,
 (.seq (xR [xA 4 (.mov .own xU)] [0, 1])
 (.seq (.seq (xR [xM 6 0, xH 7 6, xM 8 1, xH 9 8, xA 10 (.bin .neq (.t 7) (.t 9))] [0, 1, 10])
 (.cond (.t 10)
 (.seq (xR [xA 4 (.mov .own xU)] [4])
 .ret)
 .skip))
 (.seq (.seq (xR [xA 5 (.mov .cp (xi 0))] [0, 1, 5])
 (.block 0 f21_l0))
 (.seq (xR [xA 4 (.mov .own xT)] [4])
 .ret)))), [(.tmp 4)], .pure, false, false⟩
/-- delver/delverkeep.Program -/
def f24 : AFun := ⟨2,
 (.seq (xR [xB 2 0, xB 3 1, xA 4 (.mov .own xU)] [2, 3])
 (.seq (xR [xF 5 0 2, xL 6 5, xF 7 0 3, xL 8 7, xA 9 (.callb 21 [(.t 6),(.t 8)]), xO 4 9] [4])
 .ret)), [(.tmp 4)], .pure, false, false⟩
/-- delver/delverref04.Under -/
def f28 : AFun := ⟨3,
 (.seq (xR [xB 3 0, xA 6 (.mov .own xU)] [1, 2, 3])
 (.seq (xR [xQ 8 1 3, xA 9 (.callb 23 [(.t 8)]), xM 7 9] [1, 2, 7])
 (.seq (.seq (xR [xM 10 7, xM 11 1, xA 12 (.callb 16 [(.t 10),(.t 11)]), xA 13 (.bin .lss (.t 12) (xi 0)), xM 14 13, xMF 15 7 14, xMF 16 2 14, xAF 17 (.callb 16 [(.t 15),(.t 16)]) 14, xAF 18 (.bin .lss (.t 17) (xi 0)) 14, xA 19 (.pick (.t 14) xT (.t 18))] [1, 2, 7, 19])
 (.cond (.t 19)
 (.seq (xR [xA 6 (.mov .own xU)] [6])
 .ret)
 .skip))
 (.seq (xR [xM 20 2, xA 21 (.bin .eql (.t 20) (xs ⟨#[79,98,106,101,99,116]⟩)), xM 22 21, xMF 23 7 22, xMF 24 1 22, xAF 25 (.callb 32 [(.t 23),(.t 24)]) 22, xMF 26 2 22, xAF 27 (.callb 31 [(.t 25),(.t 26)]) 22, xA 28 (.pick (.t 22) xT (.t 27)), xO 6 28] [6])
 .ret)))), [(.tmp 6)], .pure, false, false⟩
def f26_b0 : ACode := (.wrap true [1, 2, 5, 6] [4] [(0, [5])]
 (.seq (.seq (xR [xM 8 6, xF 9 0 2, xL 10 9, xH 11 10, xA 12 (.bin .lss (.t 8) (.t 11))] [1, 2, 5, 6, 12])
 (.cond (.t 12)
 .skip
 (.exit 0)))
 (.seq (.block 1 (.seq (xR [xF 15 0 2, xL 16 15, xM 17 6, xI 18 6 16 17, xQ 19 6 18, xA 7 (.alloc [xa,xb,xa,(.osl 1 []),(.osl 4 []),(.osl 9 [])]), xS 6 7 19] [1, 2, 5, 6, 7])
 (.seq (xR [xF 20 1 7, xL 21 20, xN 22 21, xM 23 22, xAT 24 (.ld .cp (some 1) (.t 2)) 23, xFT 25 0 7 23, xLT 26 25 23, xMT 27 1 23, xAT 28 (.callb 28 [(.t 24),(.t 26),(.t 27)]) 23, xA 29 (.pick (.t 23) (.t 28) xU)] [1, 2, 5, 6, 7, 29])
 (.cond (.t 29)
 (xR [xO 30 5, xF 31 0 7, xL 32 31, xA 33 (.bsl .own 1 1 [xa] [(0,(.t 32))]), xA 34 (.app 1 16 (.t 30) (.t 33)), xO 5 34] [1, 2, 5, 6])
 .skip))))
 (xR [xM 13 6, xA 14 (.bin .add (.t 13) (xi 1)), xM 6 14] [1, 2, 5, 6]))))
def f26_l0 : ACode := .loop f26_b0
theorem u26_l0 : LpEq f26_l0 f26_b0 := K_loop
/-- delver/delverref04.Kinds -/
def f26 : AFun := ⟨2,
 (.seq (xR [xB 2 0, xA 4 (.mov .own (.k (.c (.osl 1 []))))] [1, 2])
 (.seq (xR [xA 5 (.mov .own (.k (.c (.osl 1 []))))] [1, 2, 5])
 (.seq (.seq (xR [xA 6 (.mov .cp (xi 0))] [1, 2, 5, 6])
 (.block 0 f26_l0))
 (.seq (xR [xO 35 5, xO 4 35] [4])
 .ret)))), [(.tmp 4)], .pure, false, false⟩
/-- delver/delverlaw04.HierExact -/
def f6 : AFun := ⟨3,
 (.seq (xR [xB 3 0, xA 6 (.mov .own xU)] [1, 2, 3])
 (.seq (.seq (xR [xQ 18 1 3, xA 19 (.callb 9 [(.t 18)]), xM 20 19, xMF 21 1 20, xAF 22 (.len 1 (.t 21)) 20, xAF 23 (.bin .gtr (.t 22) (xi 60)) 20, xA 24 (.pick (.t 20) xT (.t 23)), xM 25 24, xMF 26 2 25, xAF 27 (.len 1 (.t 26)) 25, xAF 28 (.bin .gtr (.t 27) (xi 60)) 25, xA 29 (.pick (.t 25) xT (.t 28))] [1, 2, 3, 29])
 (.cond (.t 29)
 (.seq (xR [xA 6 (.mov .own xT)] [6])
 .ret)
 .skip))
 (.seq (xR [xQ 30 1 3, xA 31 (.callb 17 [(.t 30)]), xA 7 (.alloc [(.osl 6 [])]), xS 1 7 31] [1, 2, 3, 7])
 (.seq (xR [xQ 32 1 3, xA 33 (.callb 10 [(.t 32)]), xM 8 33] [1, 2, 3, 7, 8])
 (.seq (xR [xQ 35 1 7, xM 36 1, xA 37 (.callb 19 [(.t 35),(.t 36)]), xO 34 37, xE 38 0 34, xE 39 1 34, xA 9 (.alloc [xa,xb,xa,(.osl 1 []),(.osl 4 []),(.osl 9 [])]), xS 6 9 38, xM 10 39] [1, 2, 3, 7, 8, 9, 10])
 (.seq (xR [xQ 41 1 7, xM 42 1, xA 43 (.callb 20 [(.t 41),(.t 42)]), xO 40 43, xE 44 0 40, xE 45 1 40, xM 11 44, xM 12 45] [1, 2, 3, 7, 8, 9, 10, 11, 12])
 (.seq (xG [xQ 46 1 7, xM 47 1, xM 48 2, xA 49 (.callb 12 [(.t 46),(.t 47),(.t 48)]), xQ 50 1 7, xM 51 1, xA 52 (.callb 15 [(.t 50),(.t 51)]), xM 13 49, xM 14 52] [1, 2, 3, 7, 8, 9, 10, 11, 12, 13, 14])
 (.seq (.seq (xG [xQ 53 1 7, xA 54 (.callb 18 [(.t 53)]), xM 55 8, xA 56 (.bin .neq (.t 54) (.t 55)), xM 57 56, xAF 58 (.ld .cp (some 1) (.t 7)) 57, xAF 59 (.callb 22 [(.t 58)]) 57, xAF 60 (.ld .cp (some 1) (.t 3)) 57, xAF 61 (.callb 23 [(.t 60)]) 57, xAF 62 (.callb 21 [(.t 59),(.t 61)]) 57, xNF 63 62 57, xA 64 (.pick (.t 57) xT (.t 63)), xM 65 64, xAF 66 (.ld .cp (some 1) (.t 7)) 65, xAF 67 (.ld .cp (some 1) (.t 3)) 65, xAF 68 (.callb 24 [(.t 66),(.t 67)]) 65, xNF 69 68 65, xA 70 (.pick (.t 65) xT (.t 69))] [1, 2, 3, 8, 9, 10, 11, 12, 13, 14, 70])
 (.cond (.t 70)
 (.seq (xR [xA 6 (.mov .own xU)] [6])
 .ret)
 .skip))
 (.seq (xR [xQ 71 1 3, xA 72 (.callb 23 [(.t 71)]), xM 15 72] [1, 2, 3, 8, 9, 10, 11, 12, 13, 14, 15])
 (.seq (xR [xM 73 15, xM 74 1, xA 75 (.callb 16 [(.t 73),(.t 74)]), xM 16 75] [1, 2, 3, 8, 9, 10, 11, 12, 13, 14, 15, 16])
 (.seq (.seq (xR [xM 76 8, xA 77 (.bin .neq (.t 76) (xi 0)), xM 78 77, xMF 79 16 78, xAF 80 (.bin .lss (.t 79) (xi 0)) 78, xA 81 (.pick (.t 78) xT (.t 80))] [1, 2, 3, 8, 9, 10, 11, 12, 13, 14, 15, 16, 81])
 (.cond (.t 81)
 (.seq (xR [xM 82 10, xN 83 82, xM 84 83, xMT 85 12 84, xNT 86 85 84, xA 87 (.pick (.t 84) (.t 86) xU), xM 88 87, xMT 89 13 88, xNT 90 89 88, xA 91 (.pick (.t 88) (.t 90) xU), xM 92 91, xMT 93 11 92, xAT 94 (.bin .eql (.t 93) (xs ⟨#[]⟩)) 92, xA 95 (.pick (.t 92) (.t 94) xU), xM 96 95, xAT 97 (.ld .cp (some 6) (.t 9)) 96, xAT 98 (.build [xa,xb,xa,(.osl 1 []),(.osl 4 []),(.osl 9 [])] []) 96, xAT 99 (.callb 25 [(.t 97),(.t 98)]) 96, xA 100 (.pick (.t 96) (.t 99) xU), xM 101 100, xMT 102 8 101, xAT 103 (.bin .eql (.t 102) (xi 0)) 101, xMT 104 103 101, xMF 105 14 104, xAF 106 (.len 0 (.t 105)) 104, xAF 107 (.bin .eql (.t 106) (xi 0)) 104, xAT 108 (.pick (.t 104) xT (.t 107)) 101, xA 109 (.pick (.t 101) (.t 108) xU), xM 110 109, xMT 111 8 110, xAT 112 (.bin .neq (.t 111) (xi 0)) 110, xMT 113 112 110, xMF 114 14 113, xAF 115 (.ld .cp (some 1) (.t 3)) 113, xMF 116 1 113, xAF 117 (.callb 26 [(.t 115),(.t 116)]) 113, xAF 118 (.callb 14 [(.t 114),(.t 117)]) 113, xAT 119 (.pick (.t 113) xT (.t 118)) 110, xA 120 (.pick (.t 110) (.t 119) xU), xM 121 120, xAT 122 (.callb 13 []) 121, xA 123 (.pick (.t 121) (.t 122) xU), xO 6 123] [6])
 .ret)
 .skip))
 (.seq (xR [xM 124 15, xM 125 16, xI 126 6 124 125, xQ 127 6 126, xA 128 (.callb 27 [(.t 127)]), xM 17 128] [1, 2, 3, 9, 10, 11, 12, 13, 14, 15, 16, 17])
 (.seq (xG [xM 129 10, xM 130 129, xAT 131 (.ld .cp (some 6) (.t 9)) 130, xMT 132 15 130, xMT 133 16 130, xIT 134 6 132 133 130, xAT 135 (.ld .cp (some 6) (.t 134)) 130, xAT 136 (.callb 25 [(.t 131),(.t 135)]) 130, xA 137 (.pick (.t 130) (.t 136) xU), xM 138 137, xMT 139 12 138, xMT 140 17 138, xAT 141 (.bin .neq (.t 140) (xs ⟨#[]⟩)) 138, xAT 142 (.eq false 0 [] (.t 139) (.t 141)) 138, xA 143 (.pick (.t 138) (.t 142) xU), xM 144 143, xMT 145 11 144, xMT 146 17 144, xAT 147 (.bin .eql (.t 145) (.t 146)) 144, xA 148 (.pick (.t 144) (.t 147) xU), xM 149 148, xMT 150 13 149, xAT 151 (.ld .cp (some 1) (.t 3)) 149, xMT 152 1 149, xMT 153 2 149, xAT 154 (.callb 28 [(.t 151),(.t 152),(.t 153)]) 149, xAT 155 (.eq false 0 [] (.t 150) (.t 154)) 149, xA 156 (.pick (.t 149) (.t 155) xU), xM 157 156, xMT 158 14 157, xAT 159 (.ld .cp (some 1) (.t 3)) 157, xMT 160 1 157, xAT 161 (.callb 26 [(.t 159),(.t 160)]) 157, xAT 162 (.callb 14 [(.t 158),(.t 161)]) 157, xA 163 (.pick (.t 157) (.t 162) xU), xM 164 163, xAT 165 (.callb 13 []) 164, xA 166 (.pick (.t 164) (.t 165) xU), xO 6 166] [6])
 .ret))))))))))))), [(.tmp 6)], .pure, false, false⟩
def f7_b0 : ACode := (.wrap true [2, 5, 6, 7, 9, 10] [4] [(0, [])]
 (.seq (.seq (xR [xM 44 10, xM 45 5, xH 46 45, xA 47 (.bin .lss (.t 44) (.t 46))] [2, 5, 6, 7, 9, 10, 47])
 (.cond (.t 47)
 .skip
 (.exit 0)))
 (.seq (.block 1 (.seq (.seq (xR [xQ 50 1 2, xM 51 6, xM 52 9, xA 53 (.callb 12 [(.t 50),(.t 51),(.t 52)]), xN 54 53] [2, 5, 6, 7, 9, 10, 54])
 (.cond (.t 54)
 (.seq (xR [xA 4 (.mov .own xU)] [4])
 .ret)
 .skip))
 (.seq (xR [xQ 56 1 2, xM 57 9, xA 58 (.callb 20 [(.t 56),(.t 57)]), xO 55 58, xE 59 0 55, xE 60 1 55, xM 11 59, xM 12 60] [2, 5, 6, 7, 9, 10, 11, 12])
 (.seq (.seq (xR [xM 61 12, xN 62 61] [2, 5, 6, 7, 9, 10, 11, 62])
 (.cond (.t 62)
 (.seq (xR [xM 63 9, xA 64 (.bin .eql (.t 63) (xs ⟨#[79,98,106,101,99,116]⟩)), xM 65 64, xFF 66 1 7 65, xLF 67 66 65, xMF 68 67 65, xMT 69 9 68, xMT 70 6 68, xAT 71 (.bin .eql (.t 69) (.t 70)) 68, xAF 72 (.pick (.t 68) (.t 71) xU) 65, xA 73 (.pick (.t 65) xT (.t 72)), xM 74 73, xAT 75 (.callb 13 []) 74, xA 76 (.pick (.t 74) (.t 75) xU), xO 4 76] [4])
 .ret)
 .skip))
 (xR [xM 77 11, xM 9 77] [2, 5, 6, 7, 9, 10])))))
 (xR [xM 48 10, xA 49 (.bin .add (.t 48) (xi 1)), xM 10 49] [2, 5, 6, 7, 9, 10]))))
def f7_l0 : ACode := .loop f7_b0
theorem u7_l0 : LpEq f7_l0 f7_b0 := K_loop
/-- delver/delverlaw04.HierSupers -/
def f7 : AFun := ⟨2,
 (.seq (xR [xB 2 0, xA 4 (.mov .own xU)] [1, 2])
 (.seq (.seq (xR [xQ 13 1 2, xA 14 (.callb 9 [(.t 13)]), xM 15 14, xAF 16 (.ld .cp (some 1) (.t 2)) 15, xAF 17 (.callb 10 [(.t 16)]) 15, xAF 18 (.bin .neq (.t 17) (xi 0)) 15, xA 19 (.pick (.t 15) xT (.t 18))] [1, 2, 19])
 (.cond (.t 19)
 (.seq (xR [xA 4 (.mov .own xT)] [4])
 .ret)
 .skip))
 (.seq (xR [xQ 20 1 2, xA 21 (.callb 11 [(.t 20)]), xM 5 21] [1, 2, 5])
 (.seq (.seq (xR [xM 22 5, xH 23 22, xA 24 (.bin .eql (.t 23) (xi 0))] [1, 2, 5, 24])
 (.cond (.t 24)
 (.seq (xR [xA 4 (.mov .own xU)] [4])
 .ret)
 .skip))
 (.seq (xR [xM 25 5, xM 26 1, xA 27 (.conv .u64 (.t 26)), xM 28 5, xH 29 28, xA 30 (.conv .u64 (.t 29)), xA 31 (.bin .rem (.t 27) (.t 30)), xA 32 (.conv .i64 (.t 31)), xI 33 1 25 32, xL 34 33, xM 6 34] [2, 5, 6])
 (.seq (xR [xQ 36 1 2, xM 37 6, xA 38 (.callb 19 [(.t 36),(.t 37)]), xO 35 38, xE 39 0 35, xE 40 1 35, xA 7 (.alloc [xa,xb,xa,(.osl 1 []),(.osl 4 []),(.osl 9 [])]), xS 6 7 39, xM 8 40] [2, 5, 6, 7, 8])
 (.seq (.seq (xR [xM 41 8, xN 42 41] [2, 5, 6, 7, 42])
 (.cond (.t 42)
 (.seq (xR [xA 4 (.mov .own xU)] [4])
 .ret)
 .skip))
 (.seq (xR [xM 43 6, xM 9 43] [2, 5, 6, 7, 9])
 (.seq (.seq (xR [xA 10 (.mov .cp (xi 0))] [2, 5, 6, 7, 9, 10])
 (.block 0 f7_l0))
 (.seq (xR [xA 4 (.mov .own xU)] [4])
 .ret)))))))))), [(.tmp 4)], .pure, false, false⟩
def f8_p11 : ACode := (.seq (xG [xF 53 0 7, xL 54 53, xM 55 8, xA 56 (.nilc (.t 55)), xF 57 0 56, xL 58 57, xA 59 (.build [xa,xb,xa,(.osl 1 []),(.osl 4 []),(.osl 9 [])] [(0,1,(.t 58))]), xA 60 (.bsl .own 6 1 [xa,xb,xa,(.osl 1 []),(.osl 4 []),(.osl 9 [])] [(0,(.t 59))]), xA 61 (.appa 6 112 (.t 54) (.t 60)), xF 62 0 7, xS 1 62 61] [3, 7])
 (xR [xA 9 (.mov .cp (xi 6))] [3, 7, 9]))
def f8_p14 : ACode := (.seq (.seq (xR [xQ 66 1 3, xA 67 (.callb 19 [(.t 66),(xs ⟨#[78,111,110,101,95,115,117,99,104]⟩)]), xO 65 67, xE 68 0 65, xE 69 1 65, xA 10 (.alloc [xa,xb,xa,(.osl 1 []),(.osl 4 []),(.osl 9 [])]), xS 6 10 68, xM 11 69] [3, 7, 8, 9, 11])
 (.seq (xR [xM 70 8, xA 71 (.nilc (.t 70)), xF 72 1 71, xL 73 72, xM 74 73, xMF 75 11 74, xA 76 (.pick (.t 74) xT (.t 75)), xM 77 76, xFF 78 0 3 77, xLF 79 78 77, xAF 80 (.callb 16 [(.t 79),(xs ⟨#[78,111,110,101,95,115,117,99,104]⟩)]) 77, xAF 81 (.bin .geq (.t 80) (xi 0)) 77, xA 82 (.pick (.t 77) xT (.t 81))] [3, 7, 8, 9, 82])
 (.cond (.t 82)
 (.seq (xR [xA 83 (.callb 13 []), xO 6 83] [6])
 .ret)
 .skip)))
 (xR [xM 84 8, xA 85 (.nilc (.t 84)), xF 86 2 85, xZ (.st 1 (.t 86) (xs ⟨#[78,111,110,101,95,115,117,99,104]⟩))] [3, 7, 9]))
def f8_p13 : ACode := (.seq (xR [xA 64 (.bin .eql (.t 47) (.k (.c (.b (.d (.int .u64 1)))))), xM 63 64] [3, 7, 8, 9, 47, 63])
 (.cond (.t 63)
 f8_p14
 (.seq (xR [xA 88 (.bin .eql (.t 47) (.k (.c (.b (.d (.int .u64 2)))))), xM 87 88] [3, 7, 8, 9, 47, 87])
 (.cond (.t 87)
 (xR [xM 89 8, xA 90 (.bsl .own 1 1 [xa] [(0,(xs ⟨#[79,98,106,101,99,116]⟩))]), xA 91 (.nilc (.t 89)), xF 92 3 91, xS 1 92 90] [3, 7, 9])
 (.seq (xR [xA 94 (.bin .eql (.t 47) (.k (.c (.b (.d (.int .u64 3)))))), xM 93 94] [3, 7, 8, 93])
 (.cond (.t 93)
 (.seq (.seq (xR [xM 95 8, xA 96 (.nilc (.t 95)), xF 97 1 96, xL 98 97] [3, 7, 8, 98])
 (.cond (.t 98)
 (xR [xM 99 8, xM 100 8, xA 101 (.nilc (.t 100)), xF 102 0 101, xL 103 102, xA 104 (.bsl .own 1 1 [xa] [(0,(.t 103))]), xA 105 (.nilc (.t 99)), xF 106 3 105, xS 1 106 104] [3, 7])
 (xR [xM 107 8, xM 108 8, xA 109 (.nilc (.t 108)), xF 110 0 109, xL 111 110, xA 112 (.nilc (.t 107)), xF 113 2 112, xS 1 113 111] [3, 7])))
 (xR [xA 9 (.mov .cp (xi 7))] [3, 7, 9]))
 (.seq (xR [xM 48 8, xA 49 (.nilc (.t 48)), xF 50 0 49, xZ (.st 1 (.t 50) (xs ⟨#[79,98,106,101,99,116]⟩))] [3, 7])
 (xR [xA 9 (.mov .cp (xi 6))] [3, 7, 9]))))))))
def f8_p25 : ACode := (.seq (xR [xQ 114 1 3, xA 115 (.callb 18 [(.t 114)]), xA 116 (.bin .eql (.t 115) (xi 0)), xM 117 116, xAT 118 (.ld .frz (some 1) (.t 7)) 117, xAT 119 (.callb 18 [(.t 118)]) 117, xMT 120 9 117, xAT 121 (.bin .eql (.t 119) (.t 120)) 117, xA 122 (.pick (.t 117) (.t 121) xU), xM 123 122, xAT 124 (.ld .frz (some 1) (.t 7)) 123, xAT 125 (.callb 15 [(.t 124),(xs ⟨#[79,98,106,101,99,116]⟩)]) 123, xAT 126 (.len 0 (.t 125)) 123, xAT 127 (.bin .eql (.t 126) (xi 0)) 123, xA 128 (.pick (.t 123) (.t 127) xU), xM 129 128, xAT 130 (.ld .frz (some 1) (.t 7)) 129, xAT 131 (.callb 12 [(.t 130),(xs ⟨#[69,114,114,111,114]⟩),(xs ⟨#[79,98,106,101,99,116]⟩)]) 129, xNT 132 131 129, xA 133 (.pick (.t 129) (.t 132) xU), xM 134 133, xAT 135 (.callb 13 []) 134, xA 136 (.pick (.t 134) (.t 135) xU), xO 6 136] [6])
 .ret)
def f8_p7 : ACode := (.seq (.seq (xR [xM 45 2, xA 46 (.conv .u64 (.t 45)), xA 47 (.bin .rem (.t 46) (.k (.c (.b (.d (.int .u64 5))))))] [3, 7, 8, 9, 47])
 (.block 0 (.seq (xR [xA 52 (.bin .eql (.t 47) (.k (.c (.b (.d (.int .u64 0)))))), xM 51 52] [3, 7, 8, 9, 47, 51])
 (.cond (.t 51)
 f8_p11
 f8_p13))))
 f8_p25)
/-- delver/delverlaw04.HierBent -/
def f8 : AFun := ⟨3,
 (.seq (xR [xB 3 0, xA 6 (.mov .own xU)] [1, 2, 3])
 (.seq (.seq (xR [xQ 12 1 3, xA 13 (.callb 9 [(.t 12)]), xM 14 13, xAF 15 (.ld .cp (some 1) (.t 3)) 14, xAF 16 (.callb 10 [(.t 15)]) 14, xAF 17 (.bin .neq (.t 16) (xi 0)) 14, xA 18 (.pick (.t 14) xT (.t 17)), xM 19 18, xFF 20 0 3 19, xLF 21 20 19, xAF 22 (.len 0 (.t 21)) 19, xAF 23 (.bin .eql (.t 22) (xi 0)) 19, xA 24 (.pick (.t 19) xT (.t 23)), xM 25 24, xFF 26 0 3 25, xLF 27 26 25, xAF 28 (.len 0 (.t 27)) 25, xAF 29 (.bin .geq (.t 28) (xi 10)) 25, xA 30 (.pick (.t 25) xT (.t 29))] [1, 2, 3, 30])
 (.cond (.t 30)
 (.seq (xR [xA 6 (.mov .own xT)] [6])
 .ret)
 .skip))
 (.seq (xR [xQ 31 1 3, xA 32 (.call 8209 [(.t 31)]), xA 7 (.alloc [(.b .nils)]), xS 1 7 32] [1, 2, 3, 7])
 (.seq (xR [xM 33 1, xA 34 (.conv .u64 (.t 33)), xF 35 0 7, xL 36 35, xH 37 36, xA 38 (.conv .u64 (.t 37)), xA 39 (.bin .rem (.t 34) (.t 38)), xA 40 (.conv .i64 (.t 39)), xM 1 40] [1, 2, 3, 7])
 (.seq (xR [xF 41 0 7, xL 42 41, xM 43 1, xI 44 6 42 43, xM 8 44] [2, 3, 7, 8])
 (.seq (xR [xA 9 (.mov .cp (xi 5))] [2, 3, 7, 8, 9])
 f8_p7)))))), [(.tmp 6)], .pure, false, false⟩
theorem c9 : chkFun Tryz.prog 9 f9 = true := by kernel_rfl
theorem c16 : chkFun Tryz.prog 16 f16 = true := by kernel_rfl
theorem c69 : chkFun Tryz.prog 69 f69 = true := by kernel_rfl
theorem c52 : chkFun Tryz.prog 52 f52 = true := by kernel_rfl
theorem c36 : chkFun Tryz.prog 36 f36 = true := by kernel_rfl
theorem c17 : chkFun Tryz.prog 17 f17 = true := by kernel_rfl
theorem c17v1 : chkFun Tryz.prog 4113 f17v1 = true := by kernel_rfl
theorem c17v2 : chkFun Tryz.prog 8209 f17v2 = true := by kernel_rfl
theorem c41 : chkFun Tryz.prog 41 f41 = true := by kernel_rfl
theorem c23 : chkFun Tryz.prog 23 f23 = true := by kernel_rfl
theorem c27 : chkFun Tryz.prog 27 f27 = true := by kernel_rfl
theorem c75 : chkFun Tryz.prog 75 f75 = true := by kernel_rfl
theorem c76 : chkFun Tryz.prog 76 f76 = true := by kernel_rfl
theorem c59 : chkFun Tryz.prog 59 f59 = true := by kernel_rfl
theorem c60 : chkFun Tryz.prog 60 f60 = true := by kernel_rfl
theorem c43 : chkFun Tryz.prog 43 f43 = true := by kernel_rfl
theorem c44 : chkFun Tryz.prog 44 f44 = true := by kernel_rfl
theorem c61 : chkFun Tryz.prog 61 f61 = true := by kernel_rfl
theorem c77 : chkFun Tryz.prog 77 f77 = true := by kernel_rfl
theorem c62 : chkFun Tryz.prog 62 f62 = true := by kernel_rfl
theorem c45 : chkFun Tryz.prog 45 f45 = true := by kernel_rfl
theorem c29 : chkFun Tryz.prog 29 f29 = true := by kernel_rfl
theorem c30 : chkFun Tryz.prog 30 f30 = true := by kernel_rfl
theorem c31 : chkFun Tryz.prog 31 f31 = true := by kernel_rfl
theorem c32 : chkFun Tryz.prog 32 f32 = true := by kernel_rfl
theorem c10 : chkFun Tryz.prog 10 f10 = true := by kernel_rfl
theorem c53 : chkFun Tryz.prog 53 f53 = true := by kernel_rfl
theorem c54 : chkFun Tryz.prog 54 f54 = true := by kernel_rfl
theorem c70 : chkFun Tryz.prog 70 f70 = true := by kernel_rfl
theorem c71 : chkFun Tryz.prog 71 f71 = true := by kernel_rfl
theorem c72 : chkFun Tryz.prog 72 f72 = true := by kernel_rfl
theorem c55 : chkFun Tryz.prog 55 f55 = true := by kernel_rfl
theorem c38 : chkFun Tryz.prog 38 f38 = true := by kernel_rfl
theorem c73 : chkFun Tryz.prog 73 f73 = true := by kernel_rfl
theorem c100 : chkFun Tryz.prog 100 f100 = true := by kernel_rfl
theorem c101 : chkFun Tryz.prog 101 f101 = true := by kernel_rfl
theorem c85 : chkFun Tryz.prog 85 f85 = true := by kernel_rfl
theorem c74 : chkFun Tryz.prog 74 f74 = true := by kernel_rfl
theorem c57 : chkFun Tryz.prog 57 f57 = true := by kernel_rfl
theorem c40 : chkFun Tryz.prog 40 f40 = true := by kernel_rfl
theorem c22 : chkFun Tryz.prog 22 f22 = true := by kernel_rfl
theorem c11 : chkFun Tryz.prog 11 f11 = true := by kernel_rfl
theorem c65 : chkFun Tryz.prog 65 f65 = true := by kernel_rfl
theorem c47 : chkFun Tryz.prog 47 f47 = true := by kernel_rfl
theorem c78 : chkFun Tryz.prog 78 f78 = true := by kernel_rfl
theorem c63 : chkFun Tryz.prog 63 f63 = true := by kernel_rfl
theorem c102 : chkFun Tryz.prog 102 f102 = true := by kernel_rfl
theorem c103 : chkFun Tryz.prog 103 f103 = true := by kernel_rfl
theorem c86 : chkFun Tryz.prog 86 f86 = true := by kernel_rfl
theorem c116 : chkFun Tryz.prog 116 f116 = true := by kernel_rfl
theorem c104 : chkFun Tryz.prog 104 f104 = true := by kernel_rfl
theorem c87 : chkFun Tryz.prog 87 f87 = true := by kernel_rfl
theorem c79 : chkFun Tryz.prog 79 f79 = true := by kernel_rfl
theorem c67 : chkFun Tryz.prog 67 f67 = true := by kernel_rfl
theorem c49 : chkFun Tryz.prog 49 f49 = true := by kernel_rfl
theorem c88 : chkFun Tryz.prog 88 f88 = true := by kernel_rfl
theorem c80 : chkFun Tryz.prog 80 f80 = true := by kernel_rfl
theorem c105 : chkFun Tryz.prog 105 f105 = true := by kernel_rfl
theorem c89 : chkFun Tryz.prog 89 f89 = true := by kernel_rfl
theorem c90 : chkFun Tryz.prog 90 f90 = true := by kernel_rfl
theorem c81 : chkFun Tryz.prog 81 f81 = true := by kernel_rfl
theorem c91 : chkFun Tryz.prog 91 f91 = true := by kernel_rfl
theorem c82 : chkFun Tryz.prog 82 f82 = true := by kernel_rfl
theorem c106 : chkFun Tryz.prog 106 f106 = true := by kernel_rfl
theorem c92 : chkFun Tryz.prog 92 f92 = true := by kernel_rfl
theorem c93 : chkFun Tryz.prog 93 f93 = true := by kernel_rfl
theorem c83 : chkFun Tryz.prog 83 f83 = true := by kernel_rfl
theorem c117 : chkFun Tryz.prog 117 f117 = true := by kernel_rfl
theorem c107 : chkFun Tryz.prog 107 f107 = true := by kernel_rfl
theorem c108 : chkFun Tryz.prog 108 f108 = true := by kernel_rfl
theorem c94 : chkFun Tryz.prog 94 f94 = true := by kernel_rfl
theorem c95 : chkFun Tryz.prog 95 f95 = true := by kernel_rfl
theorem c118 : chkFun Tryz.prog 118 f118 = true := by kernel_rfl
theorem c109 : chkFun Tryz.prog 109 f109 = true := by kernel_rfl
theorem c110 : chkFun Tryz.prog 110 f110 = true := by kernel_rfl
theorem c96 : chkFun Tryz.prog 96 f96 = true := by kernel_rfl
theorem c119 : chkFun Tryz.prog 119 f119 = true := by kernel_rfl
theorem c111 : chkFun Tryz.prog 111 f111 = true := by kernel_rfl
theorem c112 : chkFun Tryz.prog 112 f112 = true := by kernel_rfl
theorem c113 : chkFun Tryz.prog 113 f113 = true := by kernel_rfl
theorem c97 : chkFun Tryz.prog 97 f97 = true := by kernel_rfl
theorem c120 : chkFun Tryz.prog 120 f120 = true := by kernel_rfl
theorem c114 : chkFun Tryz.prog 114 f114 = true := by kernel_rfl
theorem c115 : chkFun Tryz.prog 115 f115 = true := by kernel_rfl
theorem c98 : chkFun Tryz.prog 98 f98 = true := by kernel_rfl
theorem c99 : chkFun Tryz.prog 99 f99 = true := by kernel_rfl
theorem c84 : chkFun Tryz.prog 84 f84 = true := by kernel_rfl
theorem c64 : chkFun Tryz.prog 64 f64 = true := by kernel_rfl
theorem c46 : chkFun Tryz.prog 46 f46 = true := by kernel_rfl
theorem c56 : chkFun Tryz.prog 56 f56 = true := by kernel_rfl
theorem c66 : chkFun Tryz.prog 66 f66 = true := by kernel_rfl
theorem c48 : chkFun Tryz.prog 48 f48 = true := by kernel_rfl
theorem c68 : chkFun Tryz.prog 68 f68 = true := by kernel_rfl
theorem c51 : chkFun Tryz.prog 51 f51 = true := by kernel_rfl
theorem c50 : chkFun Tryz.prog 50 f50 = true := by kernel_rfl
theorem c33 : chkFun Tryz.prog 33 f33 = true := by kernel_rfl
theorem c34 : chkFun Tryz.prog 34 f34 = true := by kernel_rfl
theorem c12 : chkFun Tryz.prog 12 f12 = true := by kernel_rfl
theorem c14 : chkFun Tryz.prog 14 f14 = true := by kernel_rfl
theorem c35 : chkFun Tryz.prog 35 f35 = true := by kernel_rfl
theorem c15 : chkFun Tryz.prog 15 f15 = true := by kernel_rfl
theorem c18 : chkFun Tryz.prog 18 f18 = true := by kernel_rfl
theorem c37 : chkFun Tryz.prog 37 f37 = true := by kernel_rfl
theorem c39 : chkFun Tryz.prog 39 f39 = true := by kernel_rfl
theorem c20 : chkFun Tryz.prog 20 f20 = true := by kernel_rfl
theorem c13 : chkFun Tryz.prog 13 f13 = true := by kernel_rfl
theorem c3 : chkFun Tryz.prog 3 f3 = true := by kernel_rfl
theorem c4 : chkFun Tryz.prog 4 f4 = true := by kernel_rfl
theorem c5 : chkFun Tryz.prog 5 f5 = true := by kernel_rfl
theorem c19 : chkFun Tryz.prog 19 f19 = true := by kernel_rfl
theorem c58 : chkFun Tryz.prog 58 f58 = true := by kernel_rfl
theorem c42 : chkFun Tryz.prog 42 f42 = true := by kernel_rfl
theorem c25 : chkFun Tryz.prog 25 f25 = true := by kernel_rfl
theorem c21 : chkFun Tryz.prog 21 f21 = true := by kernel_rfl
theorem c24 : chkFun Tryz.prog 24 f24 = true := by kernel_rfl
theorem c28 : chkFun Tryz.prog 28 f28 = true := by kernel_rfl
theorem c26 : chkFun Tryz.prog 26 f26 = true := by kernel_rfl
theorem c6 : chkFun Tryz.prog 6 f6 = true := by kernel_rfl
theorem c7 : chkFun Tryz.prog 7 f7 = true := by kernel_rfl
theorem c8 : chkFun Tryz.prog 8 f8 = true := by kernel_rfl
def tab : List (Nat × AFun) := [(9, f9), (16, f16), (69, f69), (52, f52), (36, f36), (17, f17), (4113, f17v1), (8209, f17v2), (41, f41), (23, f23), (27, f27), (75, f75), (76, f76), (59, f59), (60, f60), (43, f43), (44, f44), (61, f61), (77, f77), (62, f62), (45, f45), (29, f29), (30, f30), (31, f31), (32, f32), (10, f10), (53, f53), (54, f54), (70, f70), (71, f71), (72, f72), (55, f55), (38, f38), (73, f73), (100, f100), (101, f101), (85, f85), (74, f74), (57, f57), (40, f40), (22, f22), (11, f11), (65, f65), (47, f47), (78, f78), (63, f63), (102, f102), (103, f103), (86, f86), (116, f116), (104, f104), (87, f87), (79, f79), (67, f67), (49, f49), (88, f88), (80, f80), (105, f105), (89, f89), (90, f90), (81, f81), (91, f91), (82, f82), (106, f106), (92, f92), (93, f93), (83, f83), (117, f117), (107, f107), (108, f108), (94, f94), (95, f95), (118, f118), (109, f109), (110, f110), (96, f96), (119, f119), (111, f111), (112, f112), (113, f113), (97, f97), (120, f120), (114, f114), (115, f115), (98, f98), (99, f99), (84, f84), (64, f64), (46, f46), (56, f56), (66, f66), (48, f48), (68, f68), (51, f51), (50, f50), (33, f33), (34, f34), (12, f12), (14, f14), (35, f35), (15, f15), (18, f18), (37, f37), (39, f39), (20, f20), (13, f13), (3, f3), (4, f4), (5, f5), (19, f19), (58, f58), (42, f42), (25, f25), (21, f21), (24, f24), (28, f28), (26, f26), (6, f6), (7, f7), (8, f8)]
def look (f : Nat) : List (Nat × AFun) → Option AFun
  | [] => none
  | (g, a) :: l => bif Nat.beq f g then some a else look f l
theorem look_mem {f : Nat} {a : AFun} : ∀ {l : List (Nat × AFun)}, look f l = some a → (f, a) ∈ l
  | [], h => by simp [look] at h
  | (g, b) :: l, h => by
    simp only [look] at h
    cases hb : Nat.beq f g with
    | true => rw [hb] at h; have := Nat.eq_of_beq_eq_true hb; subst this; simp only [cond_true, Option.some.injEq] at h; subst h; exact List.mem_cons_self
    | false => rw [hb] at h; exact List.mem_cons_of_mem _ (look_mem h)
def fns (f : Nat) : Option AFun := look f tab
theorem t9 : fns 9 = some f9 := rfl
theorem t16 : fns 16 = some f16 := rfl
theorem t69 : fns 69 = some f69 := rfl
theorem t52 : fns 52 = some f52 := rfl
theorem t36 : fns 36 = some f36 := rfl
theorem t17 : fns 17 = some f17 := rfl
theorem t17v1 : fns 4113 = some f17v1 := rfl
theorem t17v2 : fns 8209 = some f17v2 := rfl
theorem t41 : fns 41 = some f41 := rfl
theorem t23 : fns 23 = some f23 := rfl
theorem t27 : fns 27 = some f27 := rfl
theorem t75 : fns 75 = some f75 := rfl
theorem t76 : fns 76 = some f76 := rfl
theorem t59 : fns 59 = some f59 := rfl
theorem t60 : fns 60 = some f60 := rfl
theorem t43 : fns 43 = some f43 := rfl
theorem t44 : fns 44 = some f44 := rfl
theorem t61 : fns 61 = some f61 := rfl
theorem t77 : fns 77 = some f77 := rfl
theorem t62 : fns 62 = some f62 := rfl
theorem t45 : fns 45 = some f45 := rfl
theorem t29 : fns 29 = some f29 := rfl
theorem t30 : fns 30 = some f30 := rfl
theorem t31 : fns 31 = some f31 := rfl
theorem t32 : fns 32 = some f32 := rfl
theorem t10 : fns 10 = some f10 := rfl
theorem t53 : fns 53 = some f53 := rfl
theorem t54 : fns 54 = some f54 := rfl
theorem t70 : fns 70 = some f70 := rfl
theorem t71 : fns 71 = some f71 := rfl
theorem t72 : fns 72 = some f72 := rfl
theorem t55 : fns 55 = some f55 := rfl
theorem t38 : fns 38 = some f38 := rfl
theorem t73 : fns 73 = some f73 := rfl
theorem t100 : fns 100 = some f100 := rfl
theorem t101 : fns 101 = some f101 := rfl
theorem t85 : fns 85 = some f85 := rfl
theorem t74 : fns 74 = some f74 := rfl
theorem t57 : fns 57 = some f57 := rfl
theorem t40 : fns 40 = some f40 := rfl
theorem t22 : fns 22 = some f22 := rfl
theorem t11 : fns 11 = some f11 := rfl
theorem t65 : fns 65 = some f65 := rfl
theorem t47 : fns 47 = some f47 := rfl
theorem t78 : fns 78 = some f78 := rfl
theorem t63 : fns 63 = some f63 := rfl
theorem t102 : fns 102 = some f102 := rfl
theorem t103 : fns 103 = some f103 := rfl
theorem t86 : fns 86 = some f86 := rfl
theorem t116 : fns 116 = some f116 := rfl
theorem t104 : fns 104 = some f104 := rfl
theorem t87 : fns 87 = some f87 := rfl
theorem t79 : fns 79 = some f79 := rfl
theorem t67 : fns 67 = some f67 := rfl
theorem t49 : fns 49 = some f49 := rfl
theorem t88 : fns 88 = some f88 := rfl
theorem t80 : fns 80 = some f80 := rfl
theorem t105 : fns 105 = some f105 := rfl
theorem t89 : fns 89 = some f89 := rfl
theorem t90 : fns 90 = some f90 := rfl
theorem t81 : fns 81 = some f81 := rfl
theorem t91 : fns 91 = some f91 := rfl
theorem t82 : fns 82 = some f82 := rfl
theorem t106 : fns 106 = some f106 := rfl
theorem t92 : fns 92 = some f92 := rfl
theorem t93 : fns 93 = some f93 := rfl
theorem t83 : fns 83 = some f83 := rfl
theorem t117 : fns 117 = some f117 := rfl
theorem t107 : fns 107 = some f107 := rfl
theorem t108 : fns 108 = some f108 := rfl
theorem t94 : fns 94 = some f94 := rfl
theorem t95 : fns 95 = some f95 := rfl
theorem t118 : fns 118 = some f118 := rfl
theorem t109 : fns 109 = some f109 := rfl
theorem t110 : fns 110 = some f110 := rfl
theorem t96 : fns 96 = some f96 := rfl
theorem t119 : fns 119 = some f119 := rfl
theorem t111 : fns 111 = some f111 := rfl
theorem t112 : fns 112 = some f112 := rfl
theorem t113 : fns 113 = some f113 := rfl
theorem t97 : fns 97 = some f97 := rfl
theorem t120 : fns 120 = some f120 := rfl
theorem t114 : fns 114 = some f114 := rfl
theorem t115 : fns 115 = some f115 := rfl
theorem t98 : fns 98 = some f98 := rfl
theorem t99 : fns 99 = some f99 := rfl
theorem t84 : fns 84 = some f84 := rfl
theorem t64 : fns 64 = some f64 := rfl
theorem t46 : fns 46 = some f46 := rfl
theorem t56 : fns 56 = some f56 := rfl
theorem t66 : fns 66 = some f66 := rfl
theorem t48 : fns 48 = some f48 := rfl
theorem t68 : fns 68 = some f68 := rfl
theorem t51 : fns 51 = some f51 := rfl
theorem t50 : fns 50 = some f50 := rfl
theorem t33 : fns 33 = some f33 := rfl
theorem t34 : fns 34 = some f34 := rfl
theorem t12 : fns 12 = some f12 := rfl
theorem t14 : fns 14 = some f14 := rfl
theorem t35 : fns 35 = some f35 := rfl
theorem t15 : fns 15 = some f15 := rfl
theorem t18 : fns 18 = some f18 := rfl
theorem t37 : fns 37 = some f37 := rfl
theorem t39 : fns 39 = some f39 := rfl
theorem t20 : fns 20 = some f20 := rfl
theorem t13 : fns 13 = some f13 := rfl
theorem t3 : fns 3 = some f3 := rfl
theorem t4 : fns 4 = some f4 := rfl
theorem t5 : fns 5 = some f5 := rfl
theorem t19 : fns 19 = some f19 := rfl
theorem t58 : fns 58 = some f58 := rfl
theorem t42 : fns 42 = some f42 := rfl
theorem t25 : fns 25 = some f25 := rfl
theorem t21 : fns 21 = some f21 := rfl
theorem t24 : fns 24 = some f24 := rfl
theorem t28 : fns 28 = some f28 := rfl
theorem t26 : fns 26 = some f26 := rfl
theorem t6 : fns 6 = some f6 := rfl
theorem t7 : fns 7 = some f7 := rfl
theorem t8 : fns 8 = some f8 := rfl
theorem tab_ok : ∀ p ∈ tab, chkFun Tryz.prog p.1 p.2 = true := by
  simp only [tab, List.forall_mem_cons]
  exact ⟨c9, c16, c69, c52, c36, c17, c17v1, c17v2, c41, c23, c27, c75, c76, c59, c60, c43, c44, c61, c77, c62, c45, c29, c30, c31, c32, c10, c53, c54, c70, c71, c72, c55, c38, c73, c100, c101, c85, c74, c57, c40, c22, c11, c65, c47, c78, c63, c102, c103, c86, c116, c104, c87, c79, c67, c49, c88, c80, c105, c89, c90, c81, c91, c82, c106, c92, c93, c83, c117, c107, c108, c94, c95, c118, c109, c110, c96, c119, c111, c112, c113, c97, c120, c114, c115, c98, c99, c84, c64, c46, c56, c66, c48, c68, c51, c50, c33, c34, c12, c14, c35, c15, c18, c37, c39, c20, c13, c3, c4, c5, c19, c58, c42, c25, c21, c24, c28, c26, c6, c7, c8, by simp⟩
theorem fns_ok (f : Nat) (af : AFun) (h : fns f = some af) : chkFun Tryz.prog f af = true := tab_ok _ (look_mem h)
theorem once_ok (f : Nat) (af : AFun) (h : fns f = some af) (ho : af.once = true) : OnceLaw Tryz.prog (fnOf f) := by
  have := List.all_eq_true.mp (by rfl : tab.all (fun p => !p.2.once) = true) _ (look_mem h)
  simp [ho] at this
theorem run_ok (n : Nat) : Sound Tryz.prog (evf fns n) := evf_sound rfl fns_ok once_ok n
end Go.Proofs.YthahhonmkhafkaaGreatDoor.Am
