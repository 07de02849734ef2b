/- The abstract code of the functions, each checked against the loaded program. Printed by wip/tools/gen.py. -/
import Derived.Test.YthahhonmkhafkaaDoorMachF
import Derived.Test.YthahhonmkhafkaaDoorProg
import Derived.KernelRfl
namespace Go.Proofs.YthahhonmkhafkaaDoor.Am
open Go
set_option maxRecDepth 100000
def f4_b0 : ACode := (.wrap true [1, 3, 4, 5] [2] [(2, [1, 3, 4])]
 (.seq (.seq (xR [xM 56 5, xF 57 4 4, xL 58 57, xH 59 58, xA 60 (.bin .lss (.t 56) (.t 59))] [1, 3, 4, 5, 60])
 (.cond (.t 60)
 .skip
 (.exit 2)))
 (.seq (.block 3 (.seq (xR [xF 63 4 4, xL 64 63, xM 65 5, xI 66 4 64 65, xF 67 0 66, xL 68 67, xA 69 (.len 1 (.t 68)), xA 70 (.bin .gtr (.t 69) (xi 60)), xM 71 70, xFF 72 4 4 71, xLF 73 72 71, xMF 74 5 71, xIF 75 4 73 74 71, xFF 76 1 75 71, xFF 77 1 76 71, xLF 78 77 71, xAF 79 (.len 1 (.t 78)) 71, xAF 80 (.bin .gtr (.t 79) (xi 60)) 71, xA 81 (.pick (.t 71) xT (.t 80))] [1, 3, 4, 5, 81])
 (.cond (.t 81)
 (.seq (xR [xA 2 (.mov .own xT)] [2])
 .ret)
 .skip)))
 (xR [xM 61 5, xA 62 (.bin .add (.t 61) (xi 1)), xM 5 62] [1, 3, 4, 5]))))
def f4_l0 : ACode := .loop f4_b0
theorem u4_l0 : LpEq f4_l0 f4_b0 := K_loop
def f4_b1 : ACode := (.wrap true [1, 3, 4, 6] [2] [(4, [1, 3, 4])]
 (.seq (.seq (xR [xM 82 6, xF 83 3 4, xL 84 83, xH 85 84, xA 86 (.bin .lss (.t 82) (.t 85))] [1, 3, 4, 6, 86])
 (.cond (.t 86)
 .skip
 (.exit 4)))
 (.seq (.block 5 (.seq (xR [xF 89 3 4, xL 90 89, xM 91 6, xI 92 1 90 91, xL 93 92, xA 94 (.len 1 (.t 93)), xA 95 (.bin .gtr (.t 94) (xi 60))] [1, 3, 4, 6, 95])
 (.cond (.t 95)
 (.seq (xR [xA 2 (.mov .own xT)] [2])
 .ret)
 .skip)))
 (xR [xM 87 6, xA 88 (.bin .add (.t 87) (xi 1)), xM 6 88] [1, 3, 4, 6]))))
def f4_l1 : ACode := .loop f4_b1
theorem u4_l1 : LpEq f4_l1 f4_b1 := K_loop
def f4_b2 : ACode := (.wrap true [1, 3, 4, 7, 8, 9] [2] [(8, [1, 3, 4, 7, 8])]
 (.seq (.seq (xR [xM 137 9, xF 138 7 8, xL 139 138, xH 140 139, xA 141 (.bin .lss (.t 137) (.t 140))] [1, 3, 4, 7, 8, 9, 141])
 (.cond (.t 141)
 .skip
 (.exit 8)))
 (.seq (.block 9 (.seq (xR [xF 144 7 8, xL 145 144, xM 146 9, xI 147 4 145 146, xF 148 2 147, xL 149 148, xA 150 (.len 1 (.t 149)), xA 151 (.bin .gtr (.t 150) (xi 60)), xM 152 151, xFF 153 7 8 152, xLF 154 153 152, xMF 155 9 152, xIF 156 4 154 155 152, xFF 157 3 156 152, xLF 158 157 152, xAF 159 (.len 1 (.t 158)) 152, xAF 160 (.bin .gtr (.t 159) (xi 60)) 152, xA 161 (.pick (.t 152) xT (.t 160))] [1, 3, 4, 7, 8, 9, 161])
 (.cond (.t 161)
 (.seq (xR [xA 2 (.mov .own xT)] [2])
 .ret)
 .skip)))
 (xR [xM 142 9, xA 143 (.bin .add (.t 142) (xi 1)), xM 9 143] [1, 3, 4, 7, 8, 9]))))
def f4_l2 : ACode := .loop f4_b2
theorem u4_l2 : LpEq f4_l2 f4_b2 := K_loop
def f4_b3 : ACode := (.wrap true [1, 3, 4, 7, 8, 10] [2] [(10, [1, 3, 4, 7, 8])]
 (.seq (.seq (xR [xM 162 10, xF 163 3 8, xL 164 163, xH 165 164, xA 166 (.bin .lss (.t 162) (.t 165))] [1, 3, 4, 7, 8, 10, 166])
 (.cond (.t 166)
 .skip
 (.exit 10)))
 (.seq (.block 11 (.seq (xR [xF 169 3 8, xL 170 169, xM 171 10, xI 172 2 170 171, xF 173 1 172, xL 174 173, xA 175 (.len 1 (.t 174)), xA 176 (.bin .gtr (.t 175) (xi 60))] [1, 3, 4, 7, 8, 10, 176])
 (.cond (.t 176)
 (.seq (xR [xA 2 (.mov .own xT)] [2])
 .ret)
 .skip)))
 (xR [xM 167 10, xA 168 (.bin .add (.t 167) (xi 1)), xM 10 168] [1, 3, 4, 7, 8, 10]))))
def f4_l3 : ACode := .loop f4_b3
theorem u4_l3 : LpEq f4_l3 f4_b3 := K_loop
def f4_b4 : ACode := (.wrap true [1, 3, 4, 7, 8, 11] [2] [(12, [1, 3, 4, 7])]
 (.seq (.seq (xR [xM 177 11, xF 178 8 8, xL 179 178, xH 180 179, xA 181 (.bin .lss (.t 177) (.t 180))] [1, 3, 4, 7, 8, 11, 181])
 (.cond (.t 181)
 .skip
 (.exit 12)))
 (.seq (.block 13 (.seq (xR [xF 184 8 8, xL 185 184, xM 186 11, xI 187 4 185 186, xF 188 0 187, xL 189 188, xA 190 (.len 1 (.t 189)), xA 191 (.bin .gtr (.t 190) (xi 60))] [1, 3, 4, 7, 8, 11, 191])
 (.cond (.t 191)
 (.seq (xR [xA 2 (.mov .own xT)] [2])
 .ret)
 .skip)))
 (xR [xM 182 11, xA 183 (.bin .add (.t 182) (xi 1)), xM 11 183] [1, 3, 4, 7, 8, 11]))))
def f4_l4 : ACode := .loop f4_b4
theorem u4_l4 : LpEq f4_l4 f4_b4 := K_loop
def f4_b5 : ACode := (.wrap true [1, 3, 4, 7] [2] [(6, [1, 3])]
 (.seq (.seq (xR [xM 96 7, xF 97 5 4, xL 98 97, xH 99 98, xA 100 (.bin .lss (.t 96) (.t 99))] [1, 3, 4, 7, 100])
 (.cond (.t 100)
 .skip
 (.exit 6)))
 (.seq (.block 7 (.seq (xR [xF 103 5 4, xL 104 103, xM 105 7, xI 106 9 104 105, xQ 107 9 106, xA 8 (.alloc [xa,xb,xb,(.osl 2 []),xc,xa,xc,(.osl 4 []),(.osl 4 [])]), xS 9 8 107] [1, 3, 4, 7, 8])
 (.seq (.seq (xR [xF 108 0 8, xL 109 108, xA 110 (.len 1 (.t 109)), xA 111 (.bin .gtr (.t 110) (xi 60)), xM 112 111, xFF 113 3 8 112, xLF 114 113 112, xAF 115 (.len 0 (.t 114)) 112, xAF 116 (.bin .gtr (.t 115) (xi 10)) 112, xA 117 (.pick (.t 112) xT (.t 116)), xM 118 117, xFF 119 7 8 118, xLF 120 119 118, xAF 121 (.len 0 (.t 120)) 118, xAF 122 (.bin .gtr (.t 121) (xi 60)) 118, xA 123 (.pick (.t 118) xT (.t 122)), xM 124 123, xFF 125 8 8 124, xLF 126 125 124, xAF 127 (.len 0 (.t 126)) 124, xAF 128 (.bin .gtr (.t 127) (xi 10)) 124, xA 129 (.pick (.t 124) xT (.t 128)), xM 130 129, xFF 131 4 8 130, xFF 132 1 131 130, xLF 133 132 130, xAF 134 (.len 1 (.t 133)) 130, xAF 135 (.bin .gtr (.t 134) (xi 60)) 130, xA 136 (.pick (.t 130) xT (.t 135))] [1, 3, 4, 7, 8, 136])
 (.cond (.t 136)
 (.seq (xR [xA 2 (.mov .own xT)] [2])
 .ret)
 .skip))
 (.seq (.seq (xR [xA 9 (.mov .cp (xi 0))] [1, 3, 4, 7, 8, 9])
 (.block 8 f4_l2))
 (.seq (.seq (xR [xA 10 (.mov .cp (xi 0))] [1, 3, 4, 7, 8, 10])
 (.block 10 f4_l3))
 (.seq (xR [xA 11 (.mov .cp (xi 0))] [1, 3, 4, 7, 8, 11])
 (.block 12 f4_l4)))))))
 (xR [xM 101 7, xA 102 (.bin .add (.t 101) (xi 1)), xM 7 102] [1, 3, 4, 7]))))
def f4_l5 : ACode := .loop f4_b5
theorem u4_l5 : LpEq f4_l5 f4_b5 := K_loop
def f4_b6 : ACode := (.wrap true [1, 3] [2] [(0, [])]
 (.seq (.seq (xR [xM 16 3, xF 17 0 1, xL 18 17, xH 19 18, xA 20 (.bin .lss (.t 16) (.t 19))] [1, 3, 20])
 (.cond (.t 20)
 .skip
 (.exit 0)))
 (.seq (.block 1 (.seq (xR [xF 23 0 1, xL 24 23, xM 25 3, xI 26 6 24 25, xQ 27 6 26, xA 4 (.alloc [xa,xb,xa,(.osl 1 []),(.osl 4 []),(.osl 9 [])]), xS 6 4 27] [1, 3, 4])
 (.seq (.seq (xR [xF 28 4 4, xL 29 28, xH 30 29, xA 31 (.bin .gtr (.t 30) (xi 14)), xM 32 31, xFF 33 5 4 32, xLF 34 33 32, xAF 35 (.len 0 (.t 34)) 32, xAF 36 (.bin .gtr (.t 35) (xi 14)) 32, xA 37 (.pick (.t 32) xT (.t 36)), xM 38 37, xFF 39 3 4 38, xLF 40 39 38, xAF 41 (.len 0 (.t 40)) 38, xAF 42 (.bin .gtr (.t 41) (xi 10)) 38, xA 43 (.pick (.t 38) xT (.t 42)), xM 44 43, xFF 45 0 4 44, xLF 46 45 44, xAF 47 (.len 1 (.t 46)) 44, xAF 48 (.bin .gtr (.t 47) (xi 60)) 44, xA 49 (.pick (.t 44) xT (.t 48)), xM 50 49, xFF 51 2 4 50, xLF 52 51 50, xAF 53 (.len 1 (.t 52)) 50, xAF 54 (.bin .gtr (.t 53) (xi 60)) 50, xA 55 (.pick (.t 50) xT (.t 54))] [1, 3, 4, 55])
 (.cond (.t 55)
 (.seq (xR [xA 2 (.mov .own xT)] [2])
 .ret)
 .skip))
 (.seq (.seq (xR [xA 5 (.mov .cp (xi 0))] [1, 3, 4, 5])
 (.block 2 f4_l0))
 (.seq (.seq (xR [xA 6 (.mov .cp (xi 0))] [1, 3, 4, 6])
 (.block 4 f4_l1))
 (.seq (xR [xA 7 (.mov .cp (xi 0))] [1, 3, 4, 7])
 (.block 6 f4_l5)))))))
 (xR [xM 21 3, xA 22 (.bin .add (.t 21) (xi 1)), xM 3 22] [1, 3]))))
def f4_l6 : ACode := .loop f4_b6
theorem u4_l6 : LpEq f4_l6 f4_b6 := K_loop
/-- delver/delverlaw02.Heavy -/
def f4 : AFun := ⟨1,
 (.seq (xR [xB 1 0, xA 2 (.mov .own xU)] [1])
 (.seq (.seq (xR [xF 12 0 1, xL 13 12, xH 14 13, xA 15 (.bin .gtr (.t 14) (xi 14))] [1, 15])
 (.cond (.t 15)
 (.seq (xR [xA 2 (.mov .own xT)] [2])
 .ret)
 .skip))
 (.seq (.seq (xR [xA 3 (.mov .cp (xi 0))] [1, 3])
 (.block 0 f4_l6))
 (.seq (xR [xA 2 (.mov .own xU)] [2])
 .ret)))), [(.tmp 2)], .pure, false, false⟩
def f33_b0 : ACode := (.wrap true [0, 1, 5, 6, 14] [4] [(0, [0, 5, 6])]
 (.seq (xR [xA 15 (.bad), xE 16 0 15] [0, 1, 5, 6, 14, 15, 16])
 (.seq (.cond (.t 16)
 .skip
 (.exit 0))
 (.block 1 (.seq (xR [xE 17 1 15, xE 18 2 15, xM 7 17, xM 8 18] [0, 1, 5, 6, 7, 8, 14])
 (.seq (xR [xM 19 1, xM 20 8, xA 21 (.callv (.t 19) [(.t 20)])] [0, 1, 5, 6, 7, 14, 21])
 (.cond (.t 21)
 (.seq (xR [xM 22 6, xA 23 (.bin .geq (.t 22) (xi 0))] [0, 1, 5, 6, 7, 14, 23])
 (.cond (.t 23)
 (.seq (xR [xO 24 5, xM 25 6, xM 26 7, xA 27 (.build [xc,xc] [(0,1,(.t 25)),(1,1,(.t 26))]), xA 28 (.bsl .own 2 1 [xc,xc] [(0,(.t 27))]), xA 29 (.app 2 16 (.t 24) (.t 28)), xO 5 29] [0, 1, 5, 6, 14])
 (xR [xM 30 6, xA 31 (.un .xor (.t 30)), xM 6 31] [0, 1, 5, 6, 14]))
 .skip))
 (.seq (xR [xM 32 6, xA 33 (.bin .lss (.t 32) (xi 0))] [0, 1, 5, 6, 7, 14, 33])
 (.cond (.t 33)
 (xR [xM 34 7, xM 6 34] [0, 1, 5, 6, 14])
 .skip)))))))))
def f33_l0 : ACode := .loop f33_b0
theorem u33_l0 : LpEq f33_l0 f33_b0 := K_loop
def f33_b1 : ACode := (.wrap true [0, 9, 47, 48, 49] [4] [(2, [9])]
 (.seq (xR [xA 50 (.bin .lss (.t 49) (.t 48))] [0, 9, 47, 48, 49, 50])
 (.seq (.cond (.t 50)
 .skip
 (.exit 2))
 (.seq (.block 3 (.seq (xR [xM 51 49, xI 52 2 47 49, xQ 53 2 52, xA 11 (.alloc [xc,xc]), xM 10 51, xS 2 11 53] [0, 9, 10, 11, 47, 48, 49])
 (xR [xM 54 9, xM 55 10, xM 56 0, xF 57 0 11, xL 58 57, xF 59 1 11, xL 60 59, xA 61 (.slcs (.t 56) (some (.t 58)) (some (.t 60))), xI 62 1 54 55, xS 1 62 61] [0, 9, 47, 48, 49])))
 (xR [xA 63 (.bin .add (.t 49) (xi 1)), xM 49 63] [0, 9, 47, 48, 49])))))
def f33_l1 : ACode := .loop f33_b1
theorem u33_l1 : LpEq f33_l1 f33_b1 := K_loop
/-- strings.FieldsFunc -/
def f33 : AFun := ⟨2,
 (.seq (xR [xA 4 (.mov .own (.k (.c (.osl 1 []))))] [0, 1])
 (.seq (xR [xA 12 (.mks .own 2 16 [xc,xc] (xi 0) (xi 32)), xO 5 12] [0, 1, 5])
 (.seq (xR [xA 6 (.mov .cp (xi (-1)))] [0, 1, 5, 6])
 (.seq (.seq (xR [xM 13 0, xA 14 (.bad)] [0, 1, 5, 6, 14])
 (.block 0 f33_l0))
 (.seq (.seq (xR [xM 35 6, xA 36 (.bin .geq (.t 35) (xi 0))] [0, 5, 6, 36])
 (.cond (.t 36)
 (xR [xO 37 5, xM 38 6, xM 39 0, xA 40 (.len 1 (.t 39)), xA 41 (.build [xc,xc] [(0,1,(.t 38)),(1,1,(.t 40))]), xA 42 (.bsl .own 2 1 [xc,xc] [(0,(.t 41))]), xA 43 (.app 2 16 (.t 37) (.t 42)), xO 5 43] [0, 5])
 .skip))
 (.seq (xR [xM 44 5, xH 45 44, xA 46 (.mks .own 1 16 [xa] (.t 45) (.t 45)), xO 9 46] [0, 5, 9])
 (.seq (.seq (xR [xM 47 5, xH 48 47, xA 49 (.mov .cp (xi 0))] [0, 9, 47, 48, 49])
 (.block 2 f33_l1))
 (.seq (xR [xO 64 9, xO 4 64] [4])
 .ret)))))))), [(.tmp 4)], .pure, false, false⟩
def f53_b0 : ACode := (.wrap true [0, 1, 19, 20] [4] [(0, [])]
 (.seq (xR [xA 21 (.bin .lss (.t 20) (.t 19))] [0, 1, 19, 20, 21])
 (.seq (.cond (.t 21)
 .skip
 (.exit 0))
 (.seq (.block 1 (.seq (xR [xM 22 20, xM 5 22] [0, 1, 5, 19, 20])
 (.seq (xR [xM 23 0, xM 24 5, xI 25 3 23 24, xM 6 25] [0, 1, 6, 19, 20])
 (.seq (.seq (xR [xM 26 1, xM 27 6, xA 28 (.nilc (.t 27)), xF 29 0 28, xL 30 29, xA 31 (.bin .lss (.t 26) (.t 30))] [0, 1, 6, 19, 20, 31])
 (.cond (.t 31)
 (.seq (xR [xA 4 (.mov .own xU)] [4])
 .ret)
 .skip))
 (.seq (xR [xM 32 1, xM 33 6, xA 34 (.nilc (.t 33)), xF 35 1 34, xL 36 35, xA 37 (.bin .leq (.t 32) (.t 36))] [0, 1, 6, 19, 20, 37])
 (.cond (.t 37)
 (.seq (xG [xM 38 6, xA 39 (.nilc (.t 38)), xF 40 2 39, xL 41 40, xA 42 (.bin .eql (.t 41) (.k (.c (.b (.d (.int .u16 1)))))), xM 43 42, xMF 44 1 43, xMF 45 6 43, xAF 46 (.nilc (.t 45)) 43, xFF 47 0 46 43, xLF 48 47 43, xAF 49 (.bin .sub (.t 44) (.t 48)) 43, xMF 50 6 43, xAF 51 (.nilc (.t 50)) 43, xFF 52 2 51 43, xLF 53 52 43, xAF 54 (.bin .rem (.t 49) (.t 53)) 43, xAF 55 (.bin .eql (.t 54) (.k (.c (.b (.d (.int .u16 0)))))) 43, xA 56 (.pick (.t 43) xT (.t 55)), xO 4 56] [4])
 .ret)
 .skip))))))
 (xR [xA 57 (.bin .add (.t 20) (xi 1)), xM 20 57] [0, 1, 19, 20])))))
def f53_l0 : ACode := .loop f53_b0
theorem u53_l0 : LpEq f53_l0 f53_b0 := K_loop
def f53_b1 : ACode := (.wrap true [0, 1, 7, 8] [4] [(2, [])]
 (.seq (.seq (xR [xM 60 7, xM 61 8, xA 62 (.bin .lss (.t 60) (.t 61))] [0, 1, 7, 8, 62])
 (.cond (.t 62)
 .skip
 (.exit 2)))
 (.block 3 (.seq (xR [xM 63 7, xM 64 8, xA 65 (.bin .add (.t 63) (.t 64)), xA 66 (.conv .u64 (.t 65)), xA 67 (.bin .shr (.t 66) (.k (.c (.b (.d (.int .u64 1)))))), xA 68 (.conv .i64 (.t 67)), xM 9 68] [0, 1, 7, 8, 9])
 (.seq (xR [xM 69 0, xM 70 9, xI 71 3 69 70, xM 10 71] [0, 1, 7, 8, 9, 10])
 (.seq (.seq (xR [xM 72 10, xA 73 (.nilc (.t 72)), xF 74 0 73, xL 75 74, xM 76 1, xA 77 (.bin .leq (.t 75) (.t 76)), xM 78 77, xMT 79 1 78, xMT 80 10 78, xAT 81 (.nilc (.t 80)) 78, xFT 82 1 81 78, xLT 83 82 78, xAT 84 (.bin .leq (.t 79) (.t 83)) 78, xA 85 (.pick (.t 78) (.t 84) xU)] [0, 1, 7, 8, 9, 10, 85])
 (.cond (.t 85)
 (.seq (xG [xM 86 10, xA 87 (.nilc (.t 86)), xF 88 2 87, xL 89 88, xA 90 (.bin .eql (.t 89) (.k (.c (.b (.d (.int .u16 1)))))), xM 91 90, xMF 92 1 91, xMF 93 10 91, xAF 94 (.nilc (.t 93)) 91, xFF 95 0 94 91, xLF 96 95 91, xAF 97 (.bin .sub (.t 92) (.t 96)) 91, xMF 98 10 91, xAF 99 (.nilc (.t 98)) 91, xFF 100 2 99 91, xLF 101 100 91, xAF 102 (.bin .rem (.t 97) (.t 101)) 91, xAF 103 (.bin .eql (.t 102) (.k (.c (.b (.d (.int .u16 0)))))) 91, xA 104 (.pick (.t 91) xT (.t 103)), xO 4 104] [4])
 .ret)
 .skip))
 (.seq (xR [xM 105 1, xM 106 10, xA 107 (.nilc (.t 106)), xF 108 0 107, xL 109 108, xA 110 (.bin .lss (.t 105) (.t 109))] [0, 1, 7, 8, 9, 110])
 (.cond (.t 110)
 (xR [xM 111 9, xM 8 111] [0, 1, 7, 8])
 (xR [xM 112 9, xA 113 (.bin .add (.t 112) (xi 1)), xM 7 113] [0, 1, 7, 8])))))))))
def f53_l1 : ACode := .loop f53_b1
theorem u53_l1 : LpEq f53_l1 f53_b1 := K_loop
/-- unicode.is16 -/
def f53 : AFun := ⟨2,
 (.seq (xR [xA 4 (.mov .own xU)] [0, 1])
 (.seq (.seq (xR [xM 11 0, xH 12 11, xA 13 (.bin .leq (.t 12) (xi 18)), xM 14 13, xMF 15 1 14, xAF 16 (.bin .leq (.t 15) (.k (.c (.b (.d (.int .u16 255)))))) 14, xA 17 (.pick (.t 14) xT (.t 16))] [0, 1, 17])
 (.cond (.t 17)
 (.seq (.seq (xR [xM 18 0, xH 19 18, xA 20 (.mov .cp (xi 0))] [0, 1, 19, 20])
 (.block 0 f53_l0))
 (.seq (xR [xA 4 (.mov .own xU)] [4])
 .ret))
 .skip))
 (.seq (xR [xA 7 (.mov .cp (xi 0))] [0, 1, 7])
 (.seq (xR [xM 58 0, xH 59 58, xM 8 59] [0, 1, 7, 8])
 (.seq (.block 2 f53_l1)
 (.seq (xR [xA 4 (.mov .own xU)] [4])
 .ret)))))), [(.tmp 4)], .pure, false, false⟩
def f54_b0 : ACode := (.wrap true [0, 1, 15, 16] [4] [(0, [])]
 (.seq (xR [xA 17 (.bin .lss (.t 16) (.t 15))] [0, 1, 15, 16, 17])
 (.seq (.cond (.t 17)
 .skip
 (.exit 0))
 (.seq (.block 1 (.seq (xR [xM 18 16, xM 5 18] [0, 1, 5, 15, 16])
 (.seq (xR [xM 19 0, xM 20 5, xI 21 3 19 20, xM 6 21] [0, 1, 6, 15, 16])
 (.seq (.seq (xR [xM 22 1, xM 23 6, xA 24 (.nilc (.t 23)), xF 25 0 24, xL 26 25, xA 27 (.bin .lss (.t 22) (.t 26))] [0, 1, 6, 15, 16, 27])
 (.cond (.t 27)
 (.seq (xR [xA 4 (.mov .own xU)] [4])
 .ret)
 .skip))
 (.seq (xR [xM 28 1, xM 29 6, xA 30 (.nilc (.t 29)), xF 31 1 30, xL 32 31, xA 33 (.bin .leq (.t 28) (.t 32))] [0, 1, 6, 15, 16, 33])
 (.cond (.t 33)
 (.seq (xG [xM 34 6, xA 35 (.nilc (.t 34)), xF 36 2 35, xL 37 36, xA 38 (.bin .eql (.t 37) (.k (.c (.b (.d (.int .u32 1)))))), xM 39 38, xMF 40 1 39, xMF 41 6 39, xAF 42 (.nilc (.t 41)) 39, xFF 43 0 42 39, xLF 44 43 39, xAF 45 (.bin .sub (.t 40) (.t 44)) 39, xMF 46 6 39, xAF 47 (.nilc (.t 46)) 39, xFF 48 2 47 39, xLF 49 48 39, xAF 50 (.bin .rem (.t 45) (.t 49)) 39, xAF 51 (.bin .eql (.t 50) (.k (.c (.b (.d (.int .u32 0)))))) 39, xA 52 (.pick (.t 39) xT (.t 51)), xO 4 52] [4])
 .ret)
 .skip))))))
 (xR [xA 53 (.bin .add (.t 16) (xi 1)), xM 16 53] [0, 1, 15, 16])))))
def f54_l0 : ACode := .loop f54_b0
theorem u54_l0 : LpEq f54_l0 f54_b0 := K_loop
def f54_b1 : ACode := (.wrap true [0, 1, 7, 8] [4] [(2, [])]
 (.seq (.seq (xR [xM 56 7, xM 57 8, xA 58 (.bin .lss (.t 56) (.t 57))] [0, 1, 7, 8, 58])
 (.cond (.t 58)
 .skip
 (.exit 2)))
 (.block 3 (.seq (xR [xM 59 7, xM 60 8, xA 61 (.bin .add (.t 59) (.t 60)), xA 62 (.conv .u64 (.t 61)), xA 63 (.bin .shr (.t 62) (.k (.c (.b (.d (.int .u64 1)))))), xA 64 (.conv .i64 (.t 63)), xM 9 64] [0, 1, 7, 8, 9])
 (.seq (xR [xM 65 0, xM 66 9, xI 67 3 65 66, xQ 68 3 67, xA 10 (.alloc [(.b (.d (.int .u32 0))),(.b (.d (.int .u32 0))),(.b (.d (.int .u32 0)))]), xS 3 10 68] [0, 1, 7, 8, 9, 10])
 (.seq (.seq (xR [xF 69 0 10, xL 70 69, xM 71 1, xA 72 (.bin .leq (.t 70) (.t 71)), xM 73 72, xMT 74 1 73, xFT 75 1 10 73, xLT 76 75 73, xAT 77 (.bin .leq (.t 74) (.t 76)) 73, xA 78 (.pick (.t 73) (.t 77) xU)] [0, 1, 7, 8, 9, 10, 78])
 (.cond (.t 78)
 (.seq (xR [xF 79 2 10, xL 80 79, xA 81 (.bin .eql (.t 80) (.k (.c (.b (.d (.int .u32 1)))))), xM 82 81, xMF 83 1 82, xFF 84 0 10 82, xLF 85 84 82, xAF 86 (.bin .sub (.t 83) (.t 85)) 82, xFF 87 2 10 82, xLF 88 87 82, xAF 89 (.bin .rem (.t 86) (.t 88)) 82, xAF 90 (.bin .eql (.t 89) (.k (.c (.b (.d (.int .u32 0)))))) 82, xA 91 (.pick (.t 82) xT (.t 90)), xO 4 91] [4])
 .ret)
 .skip))
 (.seq (xR [xM 92 1, xF 93 0 10, xL 94 93, xA 95 (.bin .lss (.t 92) (.t 94))] [0, 1, 7, 8, 9, 95])
 (.cond (.t 95)
 (xR [xM 96 9, xM 8 96] [0, 1, 7, 8])
 (xR [xM 97 9, xA 98 (.bin .add (.t 97) (xi 1)), xM 7 98] [0, 1, 7, 8])))))))))
def f54_l1 : ACode := .loop f54_b1
theorem u54_l1 : LpEq f54_l1 f54_b1 := K_loop
/-- unicode.is32 -/
def f54 : AFun := ⟨2,
 (.seq (xR [xA 4 (.mov .own xU)] [0, 1])
 (.seq (.seq (xR [xM 11 0, xH 12 11, xA 13 (.bin .leq (.t 12) (xi 18))] [0, 1, 13])
 (.cond (.t 13)
 (.seq (.seq (xR [xM 14 0, xH 15 14, xA 16 (.mov .cp (xi 0))] [0, 1, 15, 16])
 (.block 0 f54_l0))
 (.seq (xR [xA 4 (.mov .own xU)] [4])
 .ret))
 .skip))
 (.seq (xR [xA 7 (.mov .cp (xi 0))] [0, 1, 7])
 (.seq (xR [xM 54 0, xH 55 54, xM 8 55] [0, 1, 7, 8])
 (.seq (.block 2 f54_l1)
 (.seq (xR [xA 4 (.mov .own xU)] [4])
 .ret)))))), [(.tmp 4)], .pure, false, false⟩
/-- unicode.isExcludingLatin -/
def f45 : AFun := ⟨2,
 (.seq (xR [xA 4 (.mov .own xU)] [0, 1])
 (.seq (xR [xM 8 0, xA 9 (.nilc (.t 8)), xF 10 0 9, xL 11 10, xM 5 11] [0, 1, 5])
 (.seq (.seq (xR [xM 12 0, xA 13 (.nilc (.t 12)), xF 14 2 13, xL 15 14, xM 6 15] [0, 1, 5, 6])
 (.seq (xR [xM 16 5, xH 17 16, xM 18 6, xA 19 (.bin .gtr (.t 17) (.t 18)), xM 20 19, xMT 21 1 20, xAT 22 (.conv .u32 (.t 21)) 20, xMT 23 5 20, xMT 24 5 20, xAT 25 (.len 0 (.t 24)) 20, xAT 26 (.bin .sub (.t 25) (xi 1)) 20, xIT 27 3 23 26 20, xFT 28 1 27 20, xLT 29 28 20, xAT 30 (.conv .u32 (.t 29)) 20, xAT 31 (.bin .leq (.t 22) (.t 30)) 20, xA 32 (.pick (.t 20) (.t 31) xU)] [0, 1, 5, 6, 32])
 (.cond (.t 32)
 (.seq (xR [xM 33 5, xM 34 6, xA 35 (.slc .cp 3 (.t 33) (some (.t 34)) none), xM 36 1, xA 37 (.conv .u16 (.t 36)), xA 38 (.callb 53 [(.t 35),(.t 37)]), xO 4 38] [4])
 .ret)
 .skip)))
 (.seq (xR [xM 39 0, xA 40 (.nilc (.t 39)), xF 41 1 40, xL 42 41, xM 7 42] [1, 7])
 (.seq (.seq (xR [xM 43 7, xH 44 43, xA 45 (.bin .gtr (.t 44) (xi 0)), xM 46 45, xMT 47 1 46, xMT 48 7 46, xAT 49 (.ia 3 (.t 48) (xi 0)) 46, xFT 50 0 49 46, xLT 51 50 46, xAT 52 (.conv .i32 (.t 51)) 46, xAT 53 (.bin .geq (.t 47) (.t 52)) 46, xA 54 (.pick (.t 46) (.t 53) xU)] [1, 7, 54])
 (.cond (.t 54)
 (.seq (xR [xM 55 7, xM 56 1, xA 57 (.conv .u32 (.t 56)), xA 58 (.callb 54 [(.t 55),(.t 57)]), xO 4 58] [4])
 .ret)
 .skip))
 (.seq (xR [xA 4 (.mov .own xU)] [4])
 .ret)))))), [(.tmp 4)], .pure, false, false⟩
/-- unicode.IsSpace -/
def f34 : AFun := ⟨1,
 (.seq (xR [xA 2 (.mov .own xU)] [0])
 (.seq (.seq (xR [xM 3 0, xA 4 (.conv .u32 (.t 3)), xA 5 (.bin .leq (.t 4) (.k (.c (.b (.d (.int .u32 255))))))] [0, 5])
 (.cond (.t 5)
 (.seq (.seq (xR [xM 6 0] [6])
 (.block 0 (.seq (.seq (xR [xA 8 (.bin .eql (.t 6) (.k (.c (.b (.d (.int .i32 9)))))), xM 7 8] [6, 7])
 (.cond (.t 7)
 .skip
 (.seq (xR [xA 9 (.bin .eql (.t 6) (.k (.c (.b (.d (.int .i32 10)))))), xM 7 9] [6, 7])
 (.cond (.t 7)
 .skip
 (.seq (xR [xA 10 (.bin .eql (.t 6) (.k (.c (.b (.d (.int .i32 11)))))), xM 7 10] [6, 7])
 (.cond (.t 7)
 .skip
 (.seq (xR [xA 11 (.bin .eql (.t 6) (.k (.c (.b (.d (.int .i32 12)))))), xM 7 11] [6, 7])
 (.cond (.t 7)
 .skip
 (.seq (xR [xA 12 (.bin .eql (.t 6) (.k (.c (.b (.d (.int .i32 13)))))), xM 7 12] [6, 7])
 (.cond (.t 7)
 .skip
 (.seq (xR [xA 13 (.bin .eql (.t 6) (.k (.c (.b (.d (.int .i32 32)))))), xM 7 13] [6, 7])
 (.cond (.t 7)
 .skip
 (.seq (xR [xA 14 (.bin .eql (.t 6) (.k (.c (.b (.d (.int .i32 133)))))), xM 7 14] [6, 7])
 (.cond (.t 7)
 .skip
 (xR [xA 15 (.bin .eql (.t 6) (.k (.c (.b (.d (.int .i32 160)))))), xM 7 15] [7])))))))))))))))
 (.cond (.t 7)
 (.seq (xR [xA 2 (.mov .own xT)] [2])
 .ret)
 .skip))))
 (.seq (xR [xA 2 (.mov .own xU)] [2])
 .ret))
 .skip))
 (.seq (xR [xA 16 (.bad), xM 17 0, xA 18 (.call 45 [(.t 16),(.t 17)]), xO 2 18] [2])
 .ret))), [(.tmp 2)], .pure, false, false⟩
def f19_b0 : ACode := (.wrap true [0, 3, 4, 5, 6] [2] [(0, [0, 3, 5])]
 (.seq (.seq (xR [xM 13 6, xM 14 0, xA 15 (.len 1 (.t 14)), xA 16 (.bin .lss (.t 13) (.t 15))] [0, 3, 4, 5, 6, 16])
 (.cond (.t 16)
 .skip
 (.exit 0)))
 (.seq (.block 1 (.seq (xR [xM 19 0, xM 20 6, xA 21 (.ixs (.t 19) (.t 20)), xM 7 21] [0, 3, 4, 5, 6, 7])
 (.seq (xR [xM 22 5, xM 23 7, xA 24 (.bin .or (.t 22) (.t 23)), xM 5 24] [0, 3, 4, 5, 6, 7])
 (.seq (xR [xM 25 7, xA 26 (.ga 0 1 (.t 25)), xL 27 26, xA 28 (.conv .i64 (.t 27)), xM 8 28] [0, 3, 4, 5, 6, 8])
 (.seq (xR [xM 29 3, xM 30 4, xM 31 8, xA 32 (.un .xor (.t 31)), xA 33 (.bin .and (.t 30) (.t 32)), xA 34 (.bin .add (.t 29) (.t 33)), xM 3 34] [0, 3, 5, 6, 8])
 (xR [xM 35 8, xM 4 35] [0, 3, 4, 5, 6]))))))
 (xR [xM 17 6, xA 18 (.bin .add (.t 17) (xi 1)), xM 6 18] [0, 3, 4, 5, 6]))))
def f19_l0 : ACode := .loop f19_b0
theorem u19_l0 : LpEq f19_l0 f19_b0 := K_loop
def f19_b1 : ACode := (.wrap true [0, 9, 10, 12] [2] [(2, [0, 9, 10, 12])]
 (.seq (.seq (xR [xM 42 12, xM 43 0, xA 44 (.len 1 (.t 43)), xA 45 (.bin .lss (.t 42) (.t 44)), xM 46 45, xMT 47 0 46, xMT 48 12 46, xAT 49 (.ixs (.t 47) (.t 48)) 46, xAT 50 (.ga 0 1 (.t 49)) 46, xLT 51 50 46, xAT 52 (.bin .neq (.t 51) (.k (.c (.b (.d (.int .u8 0)))))) 46, xA 53 (.pick (.t 46) (.t 52) xU)] [0, 9, 10, 12, 53])
 (.cond (.t 53)
 .skip
 (.exit 2)))
 (.block 3 (xR [xM 54 12, xA 55 (.bin .add (.t 54) (xi 1)), xM 12 55] [0, 9, 10, 12]))))
def f19_l1 : ACode := .loop f19_b1
theorem u19_l1 : LpEq f19_l1 f19_b1 := K_loop
def f19_b2 : ACode := (.wrap true [0, 9, 10, 12] [2] [(6, [0, 9, 10, 12])]
 (.seq (.seq (xR [xM 80 12, xM 81 0, xA 82 (.len 1 (.t 81)), xA 83 (.bin .lss (.t 80) (.t 82)), xM 84 83, xMT 85 0 84, xMT 86 12 84, xAT 87 (.ixs (.t 85) (.t 86)) 84, xAT 88 (.ga 0 1 (.t 87)) 84, xLT 89 88 84, xAT 90 (.bin .neq (.t 89) (.k (.c (.b (.d (.int .u8 0)))))) 84, xA 91 (.pick (.t 84) (.t 90) xU)] [0, 9, 10, 12, 91])
 (.cond (.t 91)
 .skip
 (.exit 6)))
 (.block 7 (xR [xM 92 12, xA 93 (.bin .add (.t 92) (xi 1)), xM 12 93] [0, 9, 10, 12]))))
def f19_l2 : ACode := .loop f19_b2
theorem u19_l2 : LpEq f19_l2 f19_b2 := K_loop
def f19_b3 : ACode := (.wrap true [0, 9, 10, 11, 12] [2] [(4, [0, 9, 10, 11])]
 (.seq (.seq (xR [xM 57 12, xM 58 0, xA 59 (.len 1 (.t 58)), xA 60 (.bin .lss (.t 57) (.t 59))] [0, 9, 10, 11, 12, 60])
 (.cond (.t 60)
 .skip
 (.exit 4)))
 (.block 5 (.seq (.seq (xR [xM 61 0, xM 62 12, xA 63 (.ixs (.t 61) (.t 62)), xA 64 (.ga 0 1 (.t 63)), xL 65 64, xA 66 (.bin .eql (.t 65) (.k (.c (.b (.d (.int .u8 0))))))] [0, 9, 10, 11, 12, 66])
 (.cond (.t 66)
 (.seq (xR [xM 67 12, xA 68 (.bin .add (.t 67) (xi 1)), xM 12 68] [0, 9, 10, 11, 12])
 (.exit 5))
 .skip))
 (.seq (xR [xM 69 9, xM 70 10, xM 71 0, xM 72 11, xM 73 12, xA 74 (.slcs (.t 71) (some (.t 72)) (some (.t 73))), xI 75 1 69 70, xS 1 75 74] [0, 9, 10, 12])
 (.seq (xR [xM 76 10, xA 77 (.bin .add (.t 76) (xi 1)), xM 10 77] [0, 9, 10, 12])
 (.seq (xR [xM 78 12, xA 79 (.bin .add (.t 78) (xi 1)), xM 12 79] [0, 9, 10, 12])
 (.seq (.block 6 f19_l2)
 (xR [xM 94 12, xM 11 94] [0, 9, 10, 11, 12])))))))))
def f19_l3 : ACode := .loop f19_b3
theorem u19_l3 : LpEq f19_l3 f19_b3 := K_loop
/-- strings.Fields -/
def f19 : AFun := ⟨1,
 (.seq (xR [xA 2 (.mov .own (.k (.c (.osl 1 []))))] [0])
 (.seq (xR [xA 3 (.mov .cp (xi 0))] [0, 3])
 (.seq (xR [xA 4 (.mov .cp (xi 1))] [0, 3, 4])
 (.seq (xR [xA 5 (.mov .cp (.k (.c (.b (.d (.int .u8 0))))))] [0, 3, 4, 5])
 (.seq (.seq (xR [xA 6 (.mov .cp (xi 0))] [0, 3, 4, 5, 6])
 (.block 0 f19_l0))
 (.seq (.seq (xR [xM 36 5, xA 37 (.bin .geq (.t 36) (.k (.c (.b (.d (.int .u8 128))))))] [0, 3, 37])
 (.cond (.t 37)
 (.seq (xR [xM 38 0, xA 39 (.call 33 [(.t 38),(.k (.c (.fn 34 [] [])))]), xO 2 39] [2])
 .ret)
 .skip))
 (.seq (xR [xM 40 3, xA 41 (.mks .arr 1 16 [xa] (.t 40) (.t 40)), xM 9 41] [0, 9])
 (.seq (xR [xA 10 (.mov .cp (xi 0))] [0, 9, 10])
 (.seq (xR [xA 11 (.mov .cp (xi 0))] [0, 9, 10])
 (.seq (xR [xA 12 (.mov .cp (xi 0))] [0, 9, 10, 12])
 (.seq (.block 2 f19_l1)
 (.seq (xR [xM 56 12, xM 11 56] [0, 9, 10, 11, 12])
 (.seq (.block 4 f19_l3)
 (.seq (.seq (xR [xM 95 11, xM 96 0, xA 97 (.len 1 (.t 96)), xA 98 (.bin .lss (.t 95) (.t 97))] [0, 9, 10, 11, 98])
 (.cond (.t 98)
 (xR [xM 99 9, xM 100 10, xM 101 0, xM 102 11, xA 103 (.slcs (.t 101) (some (.t 102)) none), xI 104 1 99 100, xS 1 104 103] [9])
 .skip))
 (.seq (xR [xM 105 9, xO 2 105] [2])
 .ret))))))))))))))), [(.tmp 2)], .pure, false, false⟩
def f11_b0 : ACode := (.wrap true [1, 7, 8, 9] [0] [(0, [1])]
 (.seq (xR [xA 10 (.bin .lss (.t 9) (.t 8))] [1, 7, 8, 9, 10])
 (.seq (.cond (.t 10)
 .skip
 (.exit 0))
 (.seq (.block 1 (.seq (xR [xI 11 1 7 9, xL 12 11, xM 3 12] [1, 3, 7, 8, 9])
 (xR [xO 13 1, xM 14 3, xA 15 (.build [xa,xb,xa,(.osl 1 []),(.osl 4 []),(.osl 9 [])] [(0,1,(.t 14)),(2,1,(xs ⟨#[69,114,114,111,114]⟩))]), xA 16 (.bsl .own 6 1 [xa,xb,xa,(.osl 1 []),(.osl 4 []),(.osl 9 [])] [(0,(.t 15))]), xA 17 (.app 6 112 (.t 13) (.t 16)), xO 1 17] [1, 7, 8, 9])))
 (xR [xA 18 (.bin .add (.t 9) (xi 1)), xM 9 18] [1, 7, 8, 9])))))
def f11_l0 : ACode := .loop f11_b0
theorem u11_l0 : LpEq f11_l0 f11_b0 := K_loop
/-- delver/hier.always -/
def f11 : AFun := ⟨0,
 (.seq (xR [xA 0 (.mov .own (.k (.c (.osl 6 []))))] [])
 (.seq (xR [xA 4 (.build [xa,xb,xa,(.osl 1 []),(.osl 4 []),(.osl 9 [])] [(0,1,(xs ⟨#[79,98,106,101,99,116]⟩))]), xA 5 (.build [xa,xb,xa,(.osl 1 []),(.osl 4 []),(.osl 9 [])] [(0,1,(xs ⟨#[69,114,114,111,114]⟩)),(2,1,(xs ⟨#[79,98,106,101,99,116]⟩))]), xA 6 (.bsl .own 6 2 [xa,xb,xa,(.osl 1 []),(.osl 4 []),(.osl 9 [])] [(0,(.t 4)),(1,(.t 5))]), xO 1 6] [1])
 (.seq (.seq (xR [xA 7 (.callb 19 [(xs ⟨#[78,117,108,108,69,114,114,111,114,32,82,97,110,103,101,69,114,114,111,114,32,67,97,115,116,69,114,114,111,114,32,78,117,109,69,114,114,111,114,32,83,105,122,101,69,114,114,111,114,32,68,101,112,116,104,69,114,114,111,114]⟩)]), xH 8 7, xA 9 (.mov .cp (xi 0))] [1, 7, 8, 9])
 (.block 0 f11_l0))
 (.seq (xR [xO 19 1, xO 0 19] [0])
 .ret)))), [(.tmp 0)], .pure, false, false⟩
/-- slices.Clone[[]string,string] -/
def f20 : AFun := ⟨1,
 (.seq (xR [xA 2 (.mov .own (.k (.c (.osl 1 []))))] [0])
 (.seq (.seq (xR [xM 3 0, xA 4 (.eq false 4 [] (.t 3) (.k (.c (.b .nils))))] [0, 4])
 (.cond (.t 4)
 (.seq (xR [xA 2 (.mov .own (.k (.c (.osl 1 []))))] [2])
 .ret)
 .skip))
 (.seq (xR [xA 5 (.bsl .own 1 0 [xa] []), xM 6 0, xA 7 (.app 1 16 (.t 5) (.t 6)), xO 2 7] [2])
 .ret))), [(.tmp 2)], .pure, true, false⟩
/-- slices.Clone[[]delver/api.Field,delver/api.Field] -/
def f21 : AFun := ⟨1,
 (.seq (xR [xA 2 (.mov .own (.k (.c (.osl 4 []))))] [0])
 (.seq (.seq (xR [xM 3 0, xA 4 (.eq false 4 [] (.t 3) (.k (.c (.b .nils))))] [0, 4])
 (.cond (.t 4)
 (.seq (xR [xA 2 (.mov .own (.k (.c (.osl 4 []))))] [2])
 .ret)
 .skip))
 (.seq (xR [xA 5 (.bsl .own 4 0 [xa,xc,xa,xb] []), xM 6 0, xA 7 (.app 4 48 (.t 5) (.t 6)), xO 2 7] [2])
 .ret))), [(.tmp 2)], .pure, true, false⟩
/-- slices.Clone[[]delver/api.Type,delver/api.Type] -/
def f35 : AFun := ⟨1,
 (.seq (xR [xA 2 (.mov .own (.k (.c (.osl 2 []))))] [0])
 (.seq (.seq (xR [xM 3 0, xA 4 (.eq false 4 [] (.t 3) (.k (.c (.b .nils))))] [0, 4])
 (.cond (.t 4)
 (.seq (xR [xA 2 (.mov .own (.k (.c (.osl 2 []))))] [2])
 .ret)
 .skip))
 (.seq (xR [xA 5 (.bsl .own 2 0 [xc,xa] []), xM 6 0, xA 7 (.app 2 24 (.t 5) (.t 6)), xO 2 7] [2])
 .ret))), [(.tmp 2)], .pure, true, false⟩
/-- slices.Clone[[]delver/api.Instr,delver/api.Instr] -/
def f36 : AFun := ⟨1,
 (.seq (xR [xA 2 (.mov .own (.k (.c (.osl 4 []))))] [0])
 (.seq (.seq (xR [xM 3 0, xA 4 (.eq false 4 [] (.t 3) (.k (.c (.b .nils))))] [0, 4])
 (.cond (.t 4)
 (.seq (xR [xA 2 (.mov .own (.k (.c (.osl 4 []))))] [2])
 .ret)
 .skip))
 (.seq (xR [xA 5 (.bsl .own 4 0 [xc,xc,xa,xa] []), xM 6 0, xA 7 (.app 4 48 (.t 5) (.t 6)), xO 2 7] [2])
 .ret))), [(.tmp 2)], .pure, true, false⟩
/-- slices.Clone[[]delver/api.Catch,delver/api.Catch] -/
def f37 : AFun := ⟨1,
 (.seq (xR [xA 2 (.mov .own (.k (.c (.osl 4 []))))] [0])
 (.seq (.seq (xR [xM 3 0, xA 4 (.eq false 4 [] (.t 3) (.k (.c (.b .nils))))] [0, 4])
 (.cond (.t 4)
 (.seq (xR [xA 2 (.mov .own (.k (.c (.osl 4 []))))] [2])
 .ret)
 .skip))
 (.seq (xR [xA 5 (.bsl .own 4 0 [xa,xc,xc,xc] []), xM 6 0, xA 7 (.app 4 40 (.t 5) (.t 6)), xO 2 7] [2])
 .ret))), [(.tmp 2)], .pure, true, false⟩
/-- delver/hier.TwinMethod -/
def f22 : AFun := ⟨1,
 (.seq (xR [xB 1 0, xA 2 (.alloc [xa,xb,xb,(.osl 2 []),xc,xa,xc,(.osl 4 []),(.osl 4 [])])] [1, 2])
 (.seq (xG [xF 3 3 1, xL 4 3, xA 5 (.callb 35 [(.t 4)]), xF 6 7 1, xL 7 6, xA 8 (.callb 36 [(.t 7)]), xF 9 8 1, xL 10 9, xA 11 (.callb 37 [(.t 10)]), xF 12 3 1, xS 1 12 5, xF 13 7 1, xS 1 13 8, xF 14 8 1, xS 1 14 11] [1, 2])
 (.seq (xR [xQ 15 9 1, xS 9 2 15] [2])
 .ret))), [(.cell 2 (some 9))], .pure, false, false⟩
def f12_b0 : ACode := (.wrap true [1, 2, 3, 15, 16, 17] [2] [(0, [1, 2, 3])]
 (.seq (xR [xA 18 (.bin .lss (.t 17) (.t 16))] [1, 2, 3, 15, 16, 17, 18])
 (.seq (.cond (.t 18)
 .skip
 (.exit 0))
 (.seq (.block 1 (.seq (xR [xI 19 9 15 17, xQ 20 9 19, xA 5 (.alloc [xa,xb,xb,(.osl 2 []),xc,xa,xc,(.osl 4 []),(.osl 4 [])]), xS 9 5 20] [1, 2, 3, 5, 15, 16, 17])
 (xR [xO 21 3, xQ 22 9 5, xA 23 (.callb 22 [(.t 22)]), xA 24 (.bsl .own 9 1 [xa,xb,xb,(.osl 2 []),xc,xa,xc,(.osl 4 []),(.osl 4 [])] [(0,(.t 23))]), xA 25 (.app 9 128 (.t 21) (.t 24)), xO 3 25] [1, 2, 3, 15, 16, 17])))
 (xR [xA 26 (.bin .add (.t 17) (xi 1)), xM 17 26] [1, 2, 3, 15, 16, 17])))))
def f12_l0 : ACode := .loop f12_b0
theorem u12_l0 : LpEq f12_l0 f12_b0 := K_loop
/-- delver/hier.twin -/
def f12 : AFun := ⟨1,
 (.seq (xR [xB 1 0, xA 2 (.alloc [xa,xb,xa,(.osl 1 []),(.osl 4 []),(.osl 9 [])])] [1, 2])
 (.seq (xG [xF 6 3 1, xL 7 6, xA 8 (.callb 20 [(.t 7)]), xF 9 4 1, xL 10 9, xA 11 (.callb 21 [(.t 10)]), xF 12 3 1, xS 1 12 8, xF 13 4 1, xS 1 13 11] [1, 2])
 (.seq (xR [xA 3 (.mov .own (.k (.c (.osl 9 []))))] [1, 2, 3])
 (.seq (.seq (xR [xF 14 5 1, xL 15 14, xH 16 15, xA 17 (.mov .cp (xi 0))] [1, 2, 3, 15, 16, 17])
 (.block 0 f12_l0))
 (.seq (xR [xM 27 3, xF 28 5 1, xS 1 28 27] [1, 2])
 (.seq (xR [xQ 29 6 1, xS 6 2 29] [2])
 .ret)))))), [(.cell 2 (some 6))], .pure, false, false⟩
def f5_b0 : ACode := (.wrap true [3, 8, 9, 10] [2] [(0, [3])]
 (.seq (xR [xA 11 (.bin .lss (.t 10) (.t 9))] [3, 8, 9, 10, 11])
 (.seq (.cond (.t 11)
 .skip
 (.exit 0))
 (.seq (.block 1 (.seq (xR [xI 12 6 8 10, xQ 13 6 12, xA 5 (.alloc [xa,xb,xa,(.osl 1 []),(.osl 4 []),(.osl 9 [])]), xS 6 5 13] [3, 5, 8, 9, 10])
 (xR [xO 14 3, xQ 15 6 5, xA 16 (.callb 12 [(.t 15)]), xA 17 (.bsl .own 6 1 [xa,xb,xa,(.osl 1 []),(.osl 4 []),(.osl 9 [])] [(0,(.t 16))]), xA 18 (.app 6 112 (.t 14) (.t 17)), xO 3 18] [3, 8, 9, 10])))
 (xR [xA 19 (.bin .add (.t 10) (xi 1)), xM 10 19] [3, 8, 9, 10])))))
def f5_l0 : ACode := .loop f5_b0
theorem u5_l0 : LpEq f5_l0 f5_b0 := K_loop
/-- delver/hier.All -/
def f5 : AFun := ⟨1,
 (.seq (xR [xB 1 0, xA 2 (.mov .own (.k (.c (.osl 6 []))))] [1])
 (.seq (xR [xA 6 (.callb 11 []), xO 3 6] [1, 3])
 (.seq (.seq (xR [xF 7 0 1, xL 8 7, xH 9 8, xA 10 (.mov .cp (xi 0))] [3, 8, 9, 10])
 (.block 0 f5_l0))
 (.seq (xR [xO 20 3, xO 2 20] [2])
 .ret)))), [(.tmp 2)], .pure, false, false⟩
def f18_b0 : ACode := (.wrap true [0, 1, 5] [4] [(0, [])]
 (.seq (.seq (xR [xM 11 5, xM 12 0, xH 13 12, xA 14 (.bin .lss (.t 11) (.t 13))] [0, 1, 5, 14])
 (.cond (.t 14)
 .skip
 (.exit 0)))
 (.seq (.block 1 (.seq (xG [xM 17 0, xM 18 5, xI 19 1 17 18, xL 20 19, xM 21 1, xM 22 5, xI 23 1 21 22, xL 24 23, xA 25 (.bin .neq (.t 20) (.t 24))] [0, 1, 5, 25])
 (.cond (.t 25)
 (.seq (xR [xA 4 (.mov .own xU)] [4])
 .ret)
 .skip)))
 (xR [xM 15 5, xA 16 (.bin .add (.t 15) (xi 1)), xM 5 16] [0, 1, 5]))))
def f18_l0 : ACode := .loop f18_b0
theorem u18_l0 : LpEq f18_l0 f18_b0 := K_loop
/-- delver/delverkeep.Strings -/
def f18 : AFun := ⟨2,
 (.seq (xR [xA 4 (.mov .own xU)] [0, 1])
 (.seq (.seq (xR [xM 6 0, xH 7 6, xM 8 1, xH 9 8, xA 10 (.bin .neq (.t 7) (.t 9))] [0, 1, 10])
 (.cond (.t 10)
 (.seq (xR [xA 4 (.mov .own xU)] [4])
 .ret)
 .skip))
 (.seq (.seq (xR [xA 5 (.mov .cp (xi 0))] [0, 1, 5])
 (.block 0 f18_l0))
 (.seq (xR [xA 4 (.mov .own xT)] [4])
 .ret)))), [(.tmp 4)], .pure, false, false⟩
def f38_b0 : ACode := (.wrap true [0, 1, 5] [4] [(0, [])]
 (.seq (.seq (xR [xM 11 5, xM 12 0, xH 13 12, xA 14 (.bin .lss (.t 11) (.t 13))] [0, 1, 5, 14])
 (.cond (.t 14)
 .skip
 (.exit 0)))
 (.seq (.block 1 (.seq (xG [xM 17 0, xM 18 5, xI 19 2 17 18, xQ 20 2 19, xM 21 1, xM 22 5, xI 23 2 21 22, xQ 24 2 23, xA 25 (.eq true 2 [1,2] (.t 20) (.t 24))] [0, 1, 5, 25])
 (.cond (.t 25)
 (.seq (xR [xA 4 (.mov .own xU)] [4])
 .ret)
 .skip)))
 (xR [xM 15 5, xA 16 (.bin .add (.t 15) (xi 1)), xM 5 16] [0, 1, 5]))))
def f38_l0 : ACode := .loop f38_b0
theorem u38_l0 : LpEq f38_l0 f38_b0 := K_loop
/-- delver/delverkeep.Types -/
def f38 : AFun := ⟨2,
 (.seq (xR [xA 4 (.mov .own xU)] [0, 1])
 (.seq (.seq (xR [xM 6 0, xH 7 6, xM 8 1, xH 9 8, xA 10 (.bin .neq (.t 7) (.t 9))] [0, 1, 10])
 (.cond (.t 10)
 (.seq (xR [xA 4 (.mov .own xU)] [4])
 .ret)
 .skip))
 (.seq (.seq (xR [xA 5 (.mov .cp (xi 0))] [0, 1, 5])
 (.block 0 f38_l0))
 (.seq (xR [xA 4 (.mov .own xT)] [4])
 .ret)))), [(.tmp 4)], .pure, false, false⟩
def f23_b0 : ACode := (.wrap true [2, 3, 5] [4] [(0, [2, 3])]
 (.seq (.seq (xR [xM 66 5, xF 67 7 2, xL 68 67, xH 69 68, xA 70 (.bin .lss (.t 66) (.t 69))] [2, 3, 5, 70])
 (.cond (.t 70)
 .skip
 (.exit 0)))
 (.seq (.block 1 (.seq (xG [xF 73 7 2, xL 74 73, xM 75 5, xI 76 4 74 75, xQ 77 4 76, xF 78 7 3, xL 79 78, xM 80 5, xI 81 4 79 80, xQ 82 4 81, xA 83 (.eq true 2 [1,1,2,2] (.t 77) (.t 82))] [2, 3, 5, 83])
 (.cond (.t 83)
 (.seq (xR [xA 4 (.mov .own xU)] [4])
 .ret)
 .skip)))
 (xR [xM 71 5, xA 72 (.bin .add (.t 71) (xi 1)), xM 5 72] [2, 3, 5]))))
def f23_l0 : ACode := .loop f23_b0
theorem u23_l0 : LpEq f23_l0 f23_b0 := K_loop
def f23_b1 : ACode := (.wrap true [2, 3, 6] [4] [(2, [])]
 (.seq (.seq (xR [xM 84 6, xF 85 8 2, xL 86 85, xH 87 86, xA 88 (.bin .lss (.t 84) (.t 87))] [2, 3, 6, 88])
 (.cond (.t 88)
 .skip
 (.exit 2)))
 (.seq (.block 3 (.seq (xG [xF 91 8 2, xL 92 91, xM 93 6, xI 94 4 92 93, xQ 95 4 94, xF 96 8 3, xL 97 96, xM 98 6, xI 99 4 97 98, xQ 100 4 99, xA 101 (.eq true 2 [2,1,1,1] (.t 95) (.t 100))] [2, 3, 6, 101])
 (.cond (.t 101)
 (.seq (xR [xA 4 (.mov .own xU)] [4])
 .ret)
 .skip)))
 (xR [xM 89 6, xA 90 (.bin .add (.t 89) (xi 1)), xM 6 90] [2, 3, 6]))))
def f23_l1 : ACode := .loop f23_b1
theorem u23_l1 : LpEq f23_l1 f23_b1 := K_loop
/-- delver/delverkeep.Method -/
def f23 : AFun := ⟨2,
 (.seq (xR [xB 2 0, xB 3 1, xA 4 (.mov .own xU)] [2, 3])
 (.seq (.seq (xR [xF 7 0 2, xL 8 7, xF 9 0 3, xL 10 9, xA 11 (.bin .neq (.t 8) (.t 10)), xM 12 11, xFF 13 1 2 12, xLF 14 13 12, xFF 15 1 3 12, xLF 16 15 12, xAF 17 (.eq true 0 [] (.t 14) (.t 16)) 12, xA 18 (.pick (.t 12) xT (.t 17)), xM 19 18, xFF 20 2 2 19, xLF 21 20 19, xFF 22 2 3 19, xLF 23 22 19, xAF 24 (.eq true 0 [] (.t 21) (.t 23)) 19, xA 25 (.pick (.t 19) xT (.t 24)), xM 26 25, xFF 27 3 2 26, xLF 28 27 26, xFF 29 3 3 26, xLF 30 29 26, xAF 31 (.callb 38 [(.t 28),(.t 30)]) 26, xNF 32 31 26, xA 33 (.pick (.t 26) xT (.t 32)), xM 34 33, xFF 35 4 2 34, xAF 36 (.ld .cp (some 2) (.t 35)) 34, xFF 37 4 3 34, xAF 38 (.ld .cp (some 2) (.t 37)) 34, xAF 39 (.eq true 2 [1,2] (.t 36) (.t 38)) 34, xA 40 (.pick (.t 34) xT (.t 39)), xM 41 40, xFF 42 6 2 41, xLF 43 42 41, xFF 44 6 3 41, xLF 45 44 41, xAF 46 (.bin .neq (.t 43) (.t 45)) 41, xA 47 (.pick (.t 41) xT (.t 46)), xM 48 47, xFF 49 7 2 48, xLF 50 49 48, xAF 51 (.len 0 (.t 50)) 48, xFF 52 7 3 48, xLF 53 52 48, xAF 54 (.len 0 (.t 53)) 48, xAF 55 (.bin .neq (.t 51) (.t 54)) 48, xA 56 (.pick (.t 48) xT (.t 55)), xM 57 56, xFF 58 8 2 57, xLF 59 58 57, xAF 60 (.len 0 (.t 59)) 57, xFF 61 8 3 57, xLF 62 61 57, xAF 63 (.len 0 (.t 62)) 57, xAF 64 (.bin .neq (.t 60) (.t 63)) 57, xA 65 (.pick (.t 57) xT (.t 64))] [2, 3, 65])
 (.cond (.t 65)
 (.seq (xR [xA 4 (.mov .own xU)] [4])
 .ret)
 .skip))
 (.seq (.seq (xR [xA 5 (.mov .cp (xi 0))] [2, 3, 5])
 (.block 0 f23_l0))
 (.seq (.seq (xR [xA 6 (.mov .cp (xi 0))] [2, 3, 6])
 (.block 2 f23_l1))
 (.seq (xR [xA 4 (.mov .own xT)] [4])
 .ret))))), [(.tmp 4)], .pure, false, false⟩
def f13_b0 : ACode := (.wrap true [2, 3, 5] [4] [(0, [2, 3])]
 (.seq (.seq (xR [xM 52 5, xF 53 4 2, xL 54 53, xH 55 54, xA 56 (.bin .lss (.t 52) (.t 55))] [2, 3, 5, 56])
 (.cond (.t 56)
 .skip
 (.exit 0)))
 (.seq (.block 1 (.seq (xG [xF 59 4 2, xL 60 59, xM 61 5, xI 62 4 60 61, xQ 63 4 62, xF 64 4 3, xL 65 64, xM 66 5, xI 67 4 65 66, xQ 68 4 67, xA 69 (.eq true 2 [2,1,2,0] (.t 63) (.t 68))] [2, 3, 5, 69])
 (.cond (.t 69)
 (.seq (xR [xA 4 (.mov .own xU)] [4])
 .ret)
 .skip)))
 (xR [xM 57 5, xA 58 (.bin .add (.t 57) (xi 1)), xM 5 58] [2, 3, 5]))))
def f13_l0 : ACode := .loop f13_b0
theorem u13_l0 : LpEq f13_l0 f13_b0 := K_loop
def f13_b1 : ACode := (.wrap true [2, 3, 6] [4] [(2, [])]
 (.seq (.seq (xR [xM 70 6, xF 71 5 2, xL 72 71, xH 73 72, xA 74 (.bin .lss (.t 70) (.t 73))] [2, 3, 6, 74])
 (.cond (.t 74)
 .skip
 (.exit 2)))
 (.seq (.block 3 (.seq (xG [xF 77 5 2, xL 78 77, xM 79 6, xI 80 9 78 79, xQ 81 9 80, xF 82 5 3, xL 83 82, xM 84 6, xI 85 9 83 84, xQ 86 9 85, xA 87 (.callb 23 [(.t 81),(.t 86)]), xN 88 87] [2, 3, 6, 88])
 (.cond (.t 88)
 (.seq (xR [xA 4 (.mov .own xU)] [4])
 .ret)
 .skip)))
 (xR [xM 75 6, xA 76 (.bin .add (.t 75) (xi 1)), xM 6 76] [2, 3, 6]))))
def f13_l1 : ACode := .loop f13_b1
theorem u13_l1 : LpEq f13_l1 f13_b1 := K_loop
/-- delver/delverkeep.Class -/
def f13 : AFun := ⟨2,
 (.seq (xR [xB 2 0, xB 3 1, xA 4 (.mov .own xU)] [2, 3])
 (.seq (.seq (xR [xF 7 0 2, xL 8 7, xF 9 0 3, xL 10 9, xA 11 (.bin .neq (.t 8) (.t 10)), xM 12 11, xFF 13 1 2 12, xLF 14 13 12, xFF 15 1 3 12, xLF 16 15 12, xAF 17 (.eq true 0 [] (.t 14) (.t 16)) 12, xA 18 (.pick (.t 12) xT (.t 17)), xM 19 18, xFF 20 2 2 19, xLF 21 20 19, xFF 22 2 3 19, xLF 23 22 19, xAF 24 (.bin .neq (.t 21) (.t 23)) 19, xA 25 (.pick (.t 19) xT (.t 24)), xM 26 25, xFF 27 3 2 26, xLF 28 27 26, xFF 29 3 3 26, xLF 30 29 26, xAF 31 (.callb 18 [(.t 28),(.t 30)]) 26, xNF 32 31 26, xA 33 (.pick (.t 26) xT (.t 32)), xM 34 33, xFF 35 4 2 34, xLF 36 35 34, xAF 37 (.len 0 (.t 36)) 34, xFF 38 4 3 34, xLF 39 38 34, xAF 40 (.len 0 (.t 39)) 34, xAF 41 (.bin .neq (.t 37) (.t 40)) 34, xA 42 (.pick (.t 34) xT (.t 41)), xM 43 42, xFF 44 5 2 43, xLF 45 44 43, xAF 46 (.len 0 (.t 45)) 43, xFF 47 5 3 43, xLF 48 47 43, xAF 49 (.len 0 (.t 48)) 43, xAF 50 (.bin .neq (.t 46) (.t 49)) 43, xA 51 (.pick (.t 43) xT (.t 50))] [2, 3, 51])
 (.cond (.t 51)
 (.seq (xR [xA 4 (.mov .own xU)] [4])
 .ret)
 .skip))
 (.seq (.seq (xR [xA 5 (.mov .cp (xi 0))] [2, 3, 5])
 (.block 0 f13_l0))
 (.seq (.seq (xR [xA 6 (.mov .cp (xi 0))] [2, 3, 6])
 (.block 2 f13_l1))
 (.seq (xR [xA 4 (.mov .own xT)] [4])
 .ret))))), [(.tmp 4)], .pure, false, false⟩
def f6_b0 : ACode := (.wrap true [0, 1, 5] [4] [(0, [])]
 (.seq (.seq (xR [xM 11 5, xM 12 0, xH 13 12, xA 14 (.bin .lss (.t 11) (.t 13))] [0, 1, 5, 14])
 (.cond (.t 14)
 .skip
 (.exit 0)))
 (.seq (.block 1 (.seq (xG [xM 17 0, xM 18 5, xI 19 6 17 18, xQ 20 6 19, xM 21 1, xM 22 5, xI 23 6 21 22, xQ 24 6 23, xA 25 (.callb 13 [(.t 20),(.t 24)]), xN 26 25] [0, 1, 5, 26])
 (.cond (.t 26)
 (.seq (xR [xA 4 (.mov .own xU)] [4])
 .ret)
 .skip)))
 (xR [xM 15 5, xA 16 (.bin .add (.t 15) (xi 1)), xM 5 16] [0, 1, 5]))))
def f6_l0 : ACode := .loop f6_b0
theorem u6_l0 : LpEq f6_l0 f6_b0 := K_loop
/-- delver/delverkeep.Classes -/
def f6 : AFun := ⟨2,
 (.seq (xR [xA 4 (.mov .own xU)] [0, 1])
 (.seq (.seq (xR [xM 6 0, xH 7 6, xM 8 1, xH 9 8, xA 10 (.bin .neq (.t 7) (.t 9))] [0, 1, 10])
 (.cond (.t 10)
 (.seq (xR [xA 4 (.mov .own xU)] [4])
 .ret)
 .skip))
 (.seq (.seq (xR [xA 5 (.mov .cp (xi 0))] [0, 1, 5])
 (.block 0 f6_l0))
 (.seq (xR [xA 4 (.mov .own xT)] [4])
 .ret)))), [(.tmp 4)], .pure, false, false⟩
def f41_b0 : ACode := (.wrap true [0, 1, 7, 8] [4] [(0, [])]
 (.seq (xR [xA 9 (.bin .lss (.t 8) (.t 7))] [0, 1, 7, 8, 9])
 (.seq (.cond (.t 9)
 .skip
 (.exit 0))
 (.seq (.block 1 (.seq (xR [xO 10 8, xO 5 10] [0, 1, 5, 7, 8])
 (.seq (xR [xM 11 1, xM 12 0, xM 13 5, xI 14 6 12 13, xQ 15 6 14, xA 16 (.callv (.t 11) [(.t 15)])] [0, 1, 5, 7, 8, 16])
 (.cond (.t 16)
 (.seq (xR [xO 17 5, xO 4 17] [4])
 .ret)
 .skip))))
 (xR [xA 18 (.bin .add (.t 8) (xi 1)), xO 8 18] [0, 1, 7, 8])))))
def f41_l0 : ACode := .loop f41_b0
theorem u41_l0 : LpEq f41_l0 f41_b0 := K_loop
/-- slices.IndexFunc[[]delver/api.Class,delver/api.Class] -/
def f41 : AFun := ⟨2,
 (.seq (xR [xA 4 (.mov .own (xi 0))] [0, 1])
 (.seq (.seq (xR [xM 6 0, xH 7 6, xA 8 (.mov .own (xi 0))] [0, 1, 7, 8])
 (.block 0 f41_l0))
 (.seq (xR [xA 4 (.mov .own (xi (-1)))] [4])
 .ret))), [(.tmp 4)], .pure, false, false⟩
/-- slices.ContainsFunc[[]delver/api.Class,delver/api.Class] -/
def f25 : AFun := ⟨2,
 (.seq (xR [xA 4 (.mov .own xU)] [0, 1])
 (.seq (xR [xM 5 0, xM 6 1, xA 7 (.call 41 [(.t 5),(.t 6)]), xA 8 (.bin .geq (.t 7) (xi 0)), xO 4 8] [4])
 .ret)), [(.tmp 4)], .pure, false, false⟩
/-- delver/show.each[delver/api.Class]$1 -/
def f46 : AFun := ⟨2,
 (.seq (xR [xB 2 0, xA 3 (.mov .own xU)] [1, 2])
 (.seq (xR [xL 4 1, xQ 5 6 2, xA 6 (.callv (.t 4) [(.t 5)]), xN 7 6, xO 3 7] [3])
 .ret)), [(.tmp 3)], .pure, false, false⟩
/-- delver/show.each[delver/api.Class] -/
def f39 : AFun := ⟨3,
 (.seq (xR [xB 5 2, xA 6 (.mov .own xU)] [0, 1, 5])
 (.seq (xR [xM 7 0, xH 8 7, xM 9 1, xA 10 (.bin .leq (.t 8) (.t 9)), xM 11 10, xMT 12 0 11, xAT 13 (.mkf 46 [] [(.t 5)]) 11, xAT 14 (.call 25 [(.t 12),(.t 13)]) 11, xNT 15 14 11, xA 16 (.pick (.t 11) (.t 15) xU), xO 6 16] [6])
 .ret)), [(.tmp 6)], .pure, false, false⟩
/-- delver/lex.letter -/
def f69 : AFun := ⟨1,
 (.seq (xR [xA 2 (.mov .own xU)] [0])
 (.seq (xR [xM 3 0, xA 4 (.bin .geq (.t 3) (.k (.c (.b (.d (.int .u8 97)))))), xM 5 4, xMT 6 0 5, xAT 7 (.bin .leq (.t 6) (.k (.c (.b (.d (.int .u8 122)))))) 5, xA 8 (.pick (.t 5) (.t 7) xU), xM 9 8, xMF 10 0 9, xAF 11 (.bin .geq (.t 10) (.k (.c (.b (.d (.int .u8 65)))))) 9, xMF 12 11 9, xMT 13 0 12, xAT 14 (.bin .leq (.t 13) (.k (.c (.b (.d (.int .u8 90)))))) 12, xAF 15 (.pick (.t 12) (.t 14) xU) 9, xA 16 (.pick (.t 9) xT (.t 15)), xM 17 16, xMF 18 0 17, xAF 19 (.bin .eql (.t 18) (.k (.c (.b (.d (.int .u8 95)))))) 17, xA 20 (.pick (.t 17) xT (.t 19)), xO 2 20] [2])
 .ret)), [(.tmp 2)], .pure, false, false⟩
/-- delver/lex.digit -/
def f70 : AFun := ⟨1,
 (.seq (xR [xA 2 (.mov .own xU)] [0])
 (.seq (xR [xM 3 0, xA 4 (.bin .geq (.t 3) (.k (.c (.b (.d (.int .u8 48)))))), xM 5 4, xMT 6 0 5, xAT 7 (.bin .leq (.t 6) (.k (.c (.b (.d (.int .u8 57)))))) 5, xA 8 (.pick (.t 5) (.t 7) xU), xO 2 8] [2])
 .ret)), [(.tmp 2)], .pure, false, false⟩
def f55_b0 : ACode := (.wrap true [0, 18, 19] [2] [(0, [])]
 (.seq (xR [xA 20 (.bin .lss (.t 19) (.t 18))] [0, 18, 19, 20])
 (.seq (.cond (.t 20)
 .skip
 (.exit 0))
 (.seq (.block 1 (.seq (xR [xM 21 19, xM 3 21] [0, 3, 18, 19])
 (.seq (xR [xM 22 0, xM 23 3, xA 24 (.ixs (.t 22) (.t 23)), xA 25 (.callb 69 [(.t 24)]), xN 26 25, xM 27 26, xMT 28 0 27, xMT 29 3 27, xAT 30 (.ixs (.t 28) (.t 29)) 27, xAT 31 (.callb 70 [(.t 30)]) 27, xNT 32 31 27, xA 33 (.pick (.t 27) (.t 32) xU)] [0, 18, 19, 33])
 (.cond (.t 33)
 (.seq (xR [xA 2 (.mov .own xU)] [2])
 .ret)
 .skip))))
 (xR [xA 34 (.bin .add (.t 19) (xi 1)), xM 19 34] [0, 18, 19])))))
def f55_l0 : ACode := .loop f55_b0
theorem u55_l0 : LpEq f55_l0 f55_b0 := K_loop
/-- delver/lex.Name -/
def f55 : AFun := ⟨1,
 (.seq (xR [xA 2 (.mov .own xU)] [0])
 (.seq (.seq (xR [xM 4 0, xA 5 (.bin .eql (.t 4) (xs ⟨#[]⟩)), xM 6 5, xMF 7 0 6, xAF 8 (.len 1 (.t 7)) 6, xAF 9 (.bin .gtr (.t 8) (xi 20)) 6, xA 10 (.pick (.t 6) xT (.t 9)), xM 11 10, xMF 12 0 11, xAF 13 (.ixs (.t 12) (xi 0)) 11, xAF 14 (.callb 69 [(.t 13)]) 11, xNF 15 14 11, xA 16 (.pick (.t 11) xT (.t 15))] [0, 16])
 (.cond (.t 16)
 (.seq (xR [xA 2 (.mov .own xU)] [2])
 .ret)
 .skip))
 (.seq (.seq (xR [xM 17 0, xA 18 (.len 1 (.t 17)), xA 19 (.mov .cp (xi 0))] [0, 18, 19])
 (.block 0 f55_l0))
 (.seq (xR [xA 2 (.mov .own xT)] [2])
 .ret)))), [(.tmp 2)], .pure, false, false⟩
def f83_b0 : ACode := (.wrap true [0, 1, 7, 8] [4] [(0, [])]
 (.seq (xR [xA 9 (.bin .lss (.t 8) (.t 7))] [0, 1, 7, 8, 9])
 (.seq (.cond (.t 9)
 .skip
 (.exit 0))
 (.seq (.block 1 (.seq (xR [xO 10 8, xO 5 10] [0, 1, 5, 7, 8])
 (.seq (xR [xM 11 1, xM 12 0, xM 13 5, xI 14 1 12 13, xL 15 14, xA 16 (.bin .eql (.t 11) (.t 15))] [0, 1, 5, 7, 8, 16])
 (.cond (.t 16)
 (.seq (xR [xO 17 5, xO 4 17] [4])
 .ret)
 .skip))))
 (xR [xA 18 (.bin .add (.t 8) (xi 1)), xO 8 18] [0, 1, 7, 8])))))
def f83_l0 : ACode := .loop f83_b0
theorem u83_l0 : LpEq f83_l0 f83_b0 := K_loop
/-- slices.Index[[]string,string] -/
def f83 : AFun := ⟨2,
 (.seq (xR [xA 4 (.mov .own (xi 0))] [0, 1])
 (.seq (.seq (xR [xM 6 0, xH 7 6, xA 8 (.mov .own (xi 0))] [0, 1, 7, 8])
 (.block 0 f83_l0))
 (.seq (xR [xA 4 (.mov .own (xi (-1)))] [4])
 .ret))), [(.tmp 4)], .pure, false, false⟩
/-- slices.Contains[[]string,string] -/
def f71 : AFun := ⟨2,
 (.seq (xR [xA 4 (.mov .own xU)] [0, 1])
 (.seq (xR [xM 5 0, xM 6 1, xA 7 (.callb 83 [(.t 5),(.t 6)]), xA 8 (.bin .geq (.t 7) (xi 0)), xO 4 8] [4])
 .ret)), [(.tmp 4)], .pure, false, false⟩
/-- delver/parse.Kept -/
def f56 : AFun := ⟨1,
 (.seq (xR [xA 2 (.mov .own xU)] [0])
 (.seq (xR [xA 3 (.callb 19 [(xs ⟨#[99,108,97,115,115,32,105,110,116,101,114,102,97,99,101,32,101,120,116,101,110,100,115,32,105,109,112,108,101,109,101,110,116,115,32,102,105,101,108,100,32,115,116,97,116,105,99,32,109,101,116,104,111,100,32,102,117,110,99,116,105,111,110,32,108,111,99,97,108,115,32,99,97,116,99,104,32,105,110,116,32,118,111,105,100]⟩)]), xM 4 0, xA 5 (.callb 71 [(.t 3),(.t 4)]), xO 2 5] [2])
 .ret)), [(.tmp 2)], .pure, false, false⟩
/-- delver/parse.Fresh -/
def f47 : AFun := ⟨1,
 (.seq (xR [xA 2 (.mov .own xU)] [0])
 (.seq (xR [xM 3 0, xA 4 (.callb 55 [(.t 3)]), xM 5 4, xMT 6 0 5, xAT 7 (.callb 56 [(.t 6)]) 5, xNT 8 7 5, xA 9 (.pick (.t 5) (.t 8) xU), xO 2 9] [2])
 .ret)), [(.tmp 2)], .pure, false, false⟩
def f43_b0 : ACode := (.wrap true [0, 1, 7, 8] [4] [(0, [])]
 (.seq (xR [xA 9 (.bin .lss (.t 8) (.t 7))] [0, 1, 7, 8, 9])
 (.seq (.cond (.t 9)
 .skip
 (.exit 0))
 (.seq (.block 1 (.seq (xR [xO 10 8, xO 5 10] [0, 1, 5, 7, 8])
 (.seq (xR [xM 11 1, xM 12 0, xM 13 5, xI 14 1 12 13, xL 15 14, xA 16 (.callv (.t 11) [(.t 15)])] [0, 1, 5, 7, 8, 16])
 (.cond (.t 16)
 (.seq (xR [xO 17 5, xO 4 17] [4])
 .ret)
 .skip))))
 (xR [xA 18 (.bin .add (.t 8) (xi 1)), xO 8 18] [0, 1, 7, 8])))))
def f43_l0 : ACode := .loop f43_b0
theorem u43_l0 : LpEq f43_l0 f43_b0 := K_loop
/-- slices.IndexFunc[[]string,string] -/
def f43 : AFun := ⟨2,
 (.seq (xR [xA 4 (.mov .own (xi 0))] [0, 1])
 (.seq (.seq (xR [xM 6 0, xH 7 6, xA 8 (.mov .own (xi 0))] [0, 1, 7, 8])
 (.block 0 f43_l0))
 (.seq (xR [xA 4 (.mov .own (xi (-1)))] [4])
 .ret))), [(.tmp 4)], .pure, false, false⟩
/-- slices.ContainsFunc[[]string,string] -/
def f27 : AFun := ⟨2,
 (.seq (xR [xA 4 (.mov .own xU)] [0, 1])
 (.seq (xR [xM 5 0, xM 6 1, xA 7 (.call 43 [(.t 5),(.t 6)]), xA 8 (.bin .geq (.t 7) (xi 0)), xO 4 8] [4])
 .ret)), [(.tmp 4)], .pure, false, false⟩
/-- delver/show.each[string]$1 -/
def f57 : AFun := ⟨2,
 (.seq (xR [xA 3 (.mov .own xU)] [0, 1])
 (.seq (xR [xL 4 1, xM 5 0, xA 6 (.callv (.t 4) [(.t 5)]), xN 7 6, xO 3 7] [3])
 .ret)), [(.tmp 3)], .pure, false, false⟩
/-- delver/show.each[string] -/
def f48 : AFun := ⟨3,
 (.seq (xR [xB 5 2, xA 6 (.mov .own xU)] [0, 1, 5])
 (.seq (xR [xM 7 0, xH 8 7, xM 9 1, xA 10 (.bin .leq (.t 8) (.t 9)), xM 11 10, xMT 12 0 11, xAT 13 (.mkf 57 [] [(.t 5)]) 11, xAT 14 (.call 27 [(.t 12),(.t 13)]) 11, xNT 15 14 11, xA 16 (.pick (.t 11) (.t 15) xU), xO 6 16] [6])
 .ret)), [(.tmp 6)], .pure, false, false⟩
def f72_b0 : ACode := (.wrap true [0, 1, 7, 8] [4] [(0, [])]
 (.seq (xR [xA 9 (.bin .lss (.t 8) (.t 7))] [0, 1, 7, 8, 9])
 (.seq (.cond (.t 9)
 .skip
 (.exit 0))
 (.seq (.block 1 (.seq (xR [xO 10 8, xO 5 10] [0, 1, 5, 7, 8])
 (.seq (xR [xM 11 1, xM 12 0, xM 13 5, xI 14 4 12 13, xQ 15 4 14, xA 16 (.callv (.t 11) [(.t 15)])] [0, 1, 5, 7, 8, 16])
 (.cond (.t 16)
 (.seq (xR [xO 17 5, xO 4 17] [4])
 .ret)
 .skip))))
 (xR [xA 18 (.bin .add (.t 8) (xi 1)), xO 8 18] [0, 1, 7, 8])))))
def f72_l0 : ACode := .loop f72_b0
theorem u72_l0 : LpEq f72_l0 f72_b0 := K_loop
/-- slices.IndexFunc[[]delver/api.Field,delver/api.Field] -/
def f72 : AFun := ⟨2,
 (.seq (xR [xA 4 (.mov .own (xi 0))] [0, 1])
 (.seq (.seq (xR [xM 6 0, xH 7 6, xA 8 (.mov .own (xi 0))] [0, 1, 7, 8])
 (.block 0 f72_l0))
 (.seq (xR [xA 4 (.mov .own (xi (-1)))] [4])
 .ret))), [(.tmp 4)], .pure, false, false⟩
/-- slices.ContainsFunc[[]delver/api.Field,delver/api.Field] -/
def f58 : AFun := ⟨2,
 (.seq (xR [xA 4 (.mov .own xU)] [0, 1])
 (.seq (xR [xM 5 0, xM 6 1, xA 7 (.call 72 [(.t 5),(.t 6)]), xA 8 (.bin .geq (.t 7) (xi 0)), xO 4 8] [4])
 .ret)), [(.tmp 4)], .pure, false, false⟩
/-- delver/show.each[delver/api.Field]$1 -/
def f59 : AFun := ⟨2,
 (.seq (xR [xB 2 0, xA 3 (.mov .own xU)] [1, 2])
 (.seq (xR [xL 4 1, xQ 5 4 2, xA 6 (.callv (.t 4) [(.t 5)]), xN 7 6, xO 3 7] [3])
 .ret)), [(.tmp 3)], .pure, false, false⟩
/-- delver/show.each[delver/api.Field] -/
def f49 : AFun := ⟨3,
 (.seq (xR [xB 5 2, xA 6 (.mov .own xU)] [0, 1, 5])
 (.seq (xR [xM 7 0, xH 8 7, xM 9 1, xA 10 (.bin .leq (.t 8) (.t 9)), xM 11 10, xMT 12 0 11, xAT 13 (.mkf 59 [] [(.t 5)]) 11, xAT 14 (.call 58 [(.t 12),(.t 13)]) 11, xNT 15 14 11, xA 16 (.pick (.t 11) (.t 15) xU), xO 6 16] [6])
 .ret)), [(.tmp 6)], .pure, false, false⟩
/-- delver/show.typed -/
def f60 : AFun := ⟨1,
 (.seq (xR [xB 1 0, xA 2 (.mov .own xU)] [1])
 (.seq (.seq (xR [xF 3 0 1, xL 4 3] [1, 4])
 (.block 0 (.seq (.seq (xR [xA 6 (.bin .eql (.t 4) (xi 1)), xM 5 6] [1, 4, 5])
 (.cond (.t 5)
 .skip
 (.seq (xR [xA 7 (.bin .eql (.t 4) (xi 2)), xM 5 7] [1, 4, 5])
 (.cond (.t 5)
 .skip
 (xR [xA 8 (.bin .eql (.t 4) (xi 4)), xM 5 8] [1, 4, 5])))))
 (.cond (.t 5)
 (.seq (xR [xF 9 1 1, xL 10 9, xA 11 (.bin .eql (.t 10) (xs ⟨#[]⟩)), xO 2 11] [2])
 .ret)
 (.seq (.seq (xR [xA 13 (.bin .eql (.t 4) (xi 3)), xM 12 13] [1, 4, 12])
 (.cond (.t 12)
 .skip
 (xR [xA 14 (.bin .eql (.t 4) (xi 5)), xM 12 14] [1, 12])))
 (.cond (.t 12)
 (.seq (xR [xF 15 1 1, xL 16 15, xA 17 (.callb 47 [(.t 16)]), xO 2 17] [2])
 .ret)
 .skip))))))
 (.seq (xR [xA 2 (.mov .own xU)] [2])
 .ret))), [(.tmp 2)], .pure, false, false⟩
/-- delver/show.field -/
def f50 : AFun := ⟨1,
 (.seq (xR [xB 1 0, xA 2 (.mov .own xU)] [1])
 (.seq (xR [xF 3 0 1, xL 4 3, xA 5 (.callb 47 [(.t 4)]), xM 6 5, xFT 7 1 1 6, xAT 8 (.ld .cp (some 2) (.t 7)) 6, xAT 9 (.callb 60 [(.t 8)]) 6, xA 10 (.pick (.t 6) (.t 9) xU), xO 2 10] [2])
 .ret)), [(.tmp 2)], .pure, false, false⟩
def f73_b0 : ACode := (.wrap true [0, 1, 7, 8] [4] [(0, [])]
 (.seq (xR [xA 9 (.bin .lss (.t 8) (.t 7))] [0, 1, 7, 8, 9])
 (.seq (.cond (.t 9)
 .skip
 (.exit 0))
 (.seq (.block 1 (.seq (xR [xO 10 8, xO 5 10] [0, 1, 5, 7, 8])
 (.seq (xR [xM 11 1, xM 12 0, xM 13 5, xI 14 9 12 13, xQ 15 9 14, xA 16 (.callv (.t 11) [(.t 15)])] [0, 1, 5, 7, 8, 16])
 (.cond (.t 16)
 (.seq (xR [xO 17 5, xO 4 17] [4])
 .ret)
 .skip))))
 (xR [xA 18 (.bin .add (.t 8) (xi 1)), xO 8 18] [0, 1, 7, 8])))))
def f73_l0 : ACode := .loop f73_b0
theorem u73_l0 : LpEq f73_l0 f73_b0 := K_loop
/-- slices.IndexFunc[[]delver/api.Method,delver/api.Method] -/
def f73 : AFun := ⟨2,
 (.seq (xR [xA 4 (.mov .own (xi 0))] [0, 1])
 (.seq (.seq (xR [xM 6 0, xH 7 6, xA 8 (.mov .own (xi 0))] [0, 1, 7, 8])
 (.block 0 f73_l0))
 (.seq (xR [xA 4 (.mov .own (xi (-1)))] [4])
 .ret))), [(.tmp 4)], .pure, false, false⟩
/-- slices.ContainsFunc[[]delver/api.Method,delver/api.Method] -/
def f61 : AFun := ⟨2,
 (.seq (xR [xA 4 (.mov .own xU)] [0, 1])
 (.seq (xR [xM 5 0, xM 6 1, xA 7 (.call 73 [(.t 5),(.t 6)]), xA 8 (.bin .geq (.t 7) (xi 0)), xO 4 8] [4])
 .ret)), [(.tmp 4)], .pure, false, false⟩
/-- delver/show.each[delver/api.Method]$1 -/
def f62 : AFun := ⟨2,
 (.seq (xR [xB 2 0, xA 3 (.mov .own xU)] [1, 2])
 (.seq (xR [xL 4 1, xQ 5 9 2, xA 6 (.callv (.t 4) [(.t 5)]), xN 7 6, xO 3 7] [3])
 .ret)), [(.tmp 3)], .pure, false, false⟩
/-- delver/show.each[delver/api.Method] -/
def f51 : AFun := ⟨3,
 (.seq (xR [xB 5 2, xA 6 (.mov .own xU)] [0, 1, 5])
 (.seq (xR [xM 7 0, xH 8 7, xM 9 1, xA 10 (.bin .leq (.t 8) (.t 9)), xM 11 10, xMT 12 0 11, xAT 13 (.mkf 62 [] [(.t 5)]) 11, xAT 14 (.call 61 [(.t 12),(.t 13)]) 11, xNT 15 14 11, xA 16 (.pick (.t 11) (.t 15) xU), xO 6 16] [6])
 .ret)), [(.tmp 6)], .pure, false, false⟩
def f84_b0 : ACode := (.wrap true [0, 1, 7, 8] [4] [(0, [])]
 (.seq (xR [xA 9 (.bin .lss (.t 8) (.t 7))] [0, 1, 7, 8, 9])
 (.seq (.cond (.t 9)
 .skip
 (.exit 0))
 (.seq (.block 1 (.seq (xR [xO 10 8, xO 5 10] [0, 1, 5, 7, 8])
 (.seq (xR [xM 11 1, xM 12 0, xM 13 5, xI 14 2 12 13, xQ 15 2 14, xA 16 (.callv (.t 11) [(.t 15)])] [0, 1, 5, 7, 8, 16])
 (.cond (.t 16)
 (.seq (xR [xO 17 5, xO 4 17] [4])
 .ret)
 .skip))))
 (xR [xA 18 (.bin .add (.t 8) (xi 1)), xO 8 18] [0, 1, 7, 8])))))
def f84_l0 : ACode := .loop f84_b0
theorem u84_l0 : LpEq f84_l0 f84_b0 := K_loop
/-- slices.IndexFunc[[]delver/api.Type,delver/api.Type] -/
def f84 : AFun := ⟨2,
 (.seq (xR [xA 4 (.mov .own (xi 0))] [0, 1])
 (.seq (.seq (xR [xM 6 0, xH 7 6, xA 8 (.mov .own (xi 0))] [0, 1, 7, 8])
 (.block 0 f84_l0))
 (.seq (xR [xA 4 (.mov .own (xi (-1)))] [4])
 .ret))), [(.tmp 4)], .pure, false, false⟩
/-- slices.ContainsFunc[[]delver/api.Type,delver/api.Type] -/
def f74 : AFun := ⟨2,
 (.seq (xR [xA 4 (.mov .own xU)] [0, 1])
 (.seq (xR [xM 5 0, xM 6 1, xA 7 (.call 84 [(.t 5),(.t 6)]), xA 8 (.bin .geq (.t 7) (xi 0)), xO 4 8] [4])
 .ret)), [(.tmp 4)], .pure, false, false⟩
/-- delver/show.each[delver/api.Type]$1 -/
def f75 : AFun := ⟨2,
 (.seq (xR [xB 2 0, xA 3 (.mov .own xU)] [1, 2])
 (.seq (xR [xL 4 1, xQ 5 2 2, xA 6 (.callv (.t 4) [(.t 5)]), xN 7 6, xO 3 7] [3])
 .ret)), [(.tmp 3)], .pure, false, false⟩
/-- delver/show.each[delver/api.Type] -/
def f63 : AFun := ⟨3,
 (.seq (xR [xB 5 2, xA 6 (.mov .own xU)] [0, 1, 5])
 (.seq (xR [xM 7 0, xH 8 7, xM 9 1, xA 10 (.bin .leq (.t 8) (.t 9)), xM 11 10, xMT 12 0 11, xAT 13 (.mkf 75 [] [(.t 5)]) 11, xAT 14 (.call 74 [(.t 12),(.t 13)]) 11, xNT 15 14 11, xA 16 (.pick (.t 11) (.t 15) xU), xO 6 16] [6])
 .ret)), [(.tmp 6)], .pure, false, false⟩
/-- delver/show.in -/
def f64 : AFun := ⟨3,
 (.seq (xR [xA 6 (.mov .own xU)] [0, 1, 2])
 (.seq (xR [xM 7 0, xM 8 1, xA 9 (.bin .geq (.t 7) (.t 8)), xM 10 9, xMT 11 0 10, xMT 12 2 10, xAT 13 (.bin .leq (.t 11) (.t 12)) 10, xA 14 (.pick (.t 10) (.t 13) xU), xO 6 14] [6])
 .ret)), [(.tmp 6)], .pure, false, false⟩
def f85_b0 : ACode := (.wrap true [0, 1, 7, 8] [4] [(0, [])]
 (.seq (xR [xA 9 (.bin .lss (.t 8) (.t 7))] [0, 1, 7, 8, 9])
 (.seq (.cond (.t 9)
 .skip
 (.exit 0))
 (.seq (.block 1 (.seq (xR [xO 10 8, xO 5 10] [0, 1, 5, 7, 8])
 (.seq (xR [xM 11 1, xM 12 0, xM 13 5, xI 14 4 12 13, xQ 15 4 14, xA 16 (.callv (.t 11) [(.t 15)])] [0, 1, 5, 7, 8, 16])
 (.cond (.t 16)
 (.seq (xR [xO 17 5, xO 4 17] [4])
 .ret)
 .skip))))
 (xR [xA 18 (.bin .add (.t 8) (xi 1)), xO 8 18] [0, 1, 7, 8])))))
def f85_l0 : ACode := .loop f85_b0
theorem u85_l0 : LpEq f85_l0 f85_b0 := K_loop
/-- slices.IndexFunc[[]delver/api.Instr,delver/api.Instr] -/
def f85 : AFun := ⟨2,
 (.seq (xR [xA 4 (.mov .own (xi 0))] [0, 1])
 (.seq (.seq (xR [xM 6 0, xH 7 6, xA 8 (.mov .own (xi 0))] [0, 1, 7, 8])
 (.block 0 f85_l0))
 (.seq (xR [xA 4 (.mov .own (xi (-1)))] [4])
 .ret))), [(.tmp 4)], .pure, false, false⟩
/-- slices.ContainsFunc[[]delver/api.Instr,delver/api.Instr] -/
def f76 : AFun := ⟨2,
 (.seq (xR [xA 4 (.mov .own xU)] [0, 1])
 (.seq (xR [xM 5 0, xM 6 1, xA 7 (.call 85 [(.t 5),(.t 6)]), xA 8 (.bin .geq (.t 7) (xi 0)), xO 4 8] [4])
 .ret)), [(.tmp 4)], .pure, false, false⟩
/-- delver/show.each[delver/api.Instr]$1 -/
def f77 : AFun := ⟨2,
 (.seq (xR [xB 2 0, xA 3 (.mov .own xU)] [1, 2])
 (.seq (xR [xL 4 1, xQ 5 4 2, xA 6 (.callv (.t 4) [(.t 5)]), xN 7 6, xO 3 7] [3])
 .ret)), [(.tmp 3)], .pure, false, false⟩
/-- delver/show.each[delver/api.Instr] -/
def f65 : AFun := ⟨3,
 (.seq (xR [xB 5 2, xA 6 (.mov .own xU)] [0, 1, 5])
 (.seq (xR [xM 7 0, xH 8 7, xM 9 1, xA 10 (.bin .leq (.t 8) (.t 9)), xM 11 10, xMT 12 0 11, xAT 13 (.mkf 77 [] [(.t 5)]) 11, xAT 14 (.call 76 [(.t 12),(.t 13)]) 11, xNT 15 14 11, xA 16 (.pick (.t 11) (.t 15) xU), xO 6 16] [6])
 .ret)), [(.tmp 6)], .pure, false, false⟩
/-- delver/parse.Jump -/
def f86 : AFun := ⟨1,
 (.seq (xR [xA 2 (.mov .own xU)] [0])
 (.seq (xR [xM 3 0, xA 4 (.bin .geq (.t 3) (xi 14)), xM 5 4, xMT 6 0 5, xAT 7 (.bin .leq (.t 6) (xi 26)) 5, xA 8 (.pick (.t 5) (.t 7) xU), xO 2 8] [2])
 .ret)), [(.tmp 2)], .pure, false, false⟩
/-- delver/parse.Num -/
def f78 : AFun := ⟨1,
 (.seq (xR [xA 2 (.mov .own (xi 0)), xA 3 (.mov .own (xi 0)), xA 4 (.mov .own xU)] [0])
 (.seq (.block 0 (.seq (xR [xM 6 0, xA 7 (.bin .eql (.t 6) (xi 1)), xM 5 7] [0, 5])
 (.cond (.t 5)
 (.seq (xR [xA 2 (.mov .own (xi (-2147483648))), xA 3 (.mov .own (xi 2147483647)), xA 4 (.mov .own xT)] [2, 3, 4])
 .ret)
 (.seq (xR [xM 9 0, xA 10 (.bin .eql (.t 9) (xi 3)), xM 11 10, xMF 12 0 11, xAF 13 (.bin .eql (.t 12) (xi 4)) 11, xA 14 (.pick (.t 11) xT (.t 13)), xM 8 14] [0, 8])
 (.cond (.t 8)
 (.seq (xR [xA 2 (.mov .own (xi 0)), xA 3 (.mov .own (xi 7)), xA 4 (.mov .own xT)] [2, 3, 4])
 .ret)
 (.seq (xR [xM 16 0, xA 17 (.callb 86 [(.t 16)]), xM 15 17] [15])
 (.cond (.t 15)
 (.seq (xR [xA 2 (.mov .own (xi 0)), xA 3 (.mov .own (xi 47)), xA 4 (.mov .own xT)] [2, 3, 4])
 .ret)
 .skip)))))))
 (.seq (xR [xA 2 (.mov .own (xi 0)), xA 3 (.mov .own (xi 0)), xA 4 (.mov .own xU)] [2, 3, 4])
 .ret))), [(.tmp 2), (.tmp 3), (.tmp 4)], .pure, false, false⟩
/-- delver/show.named -/
def f79 : AFun := ⟨2,
 (.seq (xR [xA 4 (.mov .own xU)] [0, 1])
 (.seq (xR [xM 5 1, xM 6 5, xMT 7 0 6, xAT 8 (.callb 47 [(.t 7)]) 6, xA 9 (.pick (.t 6) (.t 8) xU), xM 10 9, xMF 11 1 10, xNF 12 11 10, xMF 13 12 10, xMT 14 0 13, xAT 15 (.bin .eql (.t 14) (xs ⟨#[]⟩)) 13, xAF 16 (.pick (.t 13) (.t 15) xU) 10, xA 17 (.pick (.t 10) xT (.t 16)), xO 4 17] [4])
 .ret)), [(.tmp 4)], .pure, false, false⟩
/-- delver/parse.Names -/
def f80 : AFun := ⟨1,
 (.seq (xR [xA 2 (.mov .own (xi 0))] [0])
 (.seq (.seq (xR [xM 3 0] [3])
 (.block 0 (.seq (.seq (xR [xA 5 (.bin .eql (.t 3) (xi 27)), xM 4 5] [3, 4])
 (.cond (.t 4)
 .skip
 (.seq (xR [xA 6 (.bin .eql (.t 3) (xi 33)), xM 4 6] [3, 4])
 (.cond (.t 4)
 .skip
 (.seq (xR [xA 7 (.bin .eql (.t 3) (xi 37)), xM 4 7] [3, 4])
 (.cond (.t 4)
 .skip
 (xR [xA 8 (.bin .eql (.t 3) (xi 38)), xM 4 8] [3, 4])))))))
 (.cond (.t 4)
 (.seq (xR [xA 2 (.mov .own (xi 1))] [2])
 .ret)
 (.seq (.seq (xR [xA 10 (.bin .eql (.t 3) (xi 28)), xM 9 10] [3, 9])
 (.cond (.t 9)
 .skip
 (.seq (xR [xA 11 (.bin .eql (.t 3) (xi 29)), xM 9 11] [3, 9])
 (.cond (.t 9)
 .skip
 (.seq (xR [xA 12 (.bin .eql (.t 3) (xi 30)), xM 9 12] [3, 9])
 (.cond (.t 9)
 .skip
 (.seq (xR [xA 13 (.bin .eql (.t 3) (xi 31)), xM 9 13] [3, 9])
 (.cond (.t 9)
 .skip
 (.seq (xR [xA 14 (.bin .eql (.t 3) (xi 39)), xM 9 14] [3, 9])
 (.cond (.t 9)
 .skip
 (xR [xA 15 (.bin .eql (.t 3) (xi 40)), xM 9 15] [9])))))))))))
 (.cond (.t 9)
 (.seq (xR [xA 2 (.mov .own (xi 2))] [2])
 .ret)
 .skip))))))
 (.seq (xR [xA 2 (.mov .own (xi 0))] [2])
 .ret))), [(.tmp 2)], .pure, false, false⟩
/-- delver/show.instr -/
def f66 : AFun := ⟨1,
 (.seq (xR [xB 1 0, xA 2 (.mov .own xU)] [1])
 (.seq (xR [xF 7 0 1, xL 8 7, xA 9 (.callb 78 [(.t 8)]), xO 6 9, xE 10 0 6, xE 11 1 6, xE 12 2 6, xM 3 10, xM 4 11, xM 5 12] [1, 3, 4])
 (.seq (xG [xF 13 0 1, xL 14 13, xA 15 (.callb 64 [(.t 14),(xi 0),(xi 43)]), xM 16 15, xFT 17 1 1 16, xLT 18 17 16, xMT 19 3 16, xMT 20 4 16, xAT 21 (.callb 64 [(.t 18),(.t 19),(.t 20)]) 16, xA 22 (.pick (.t 16) (.t 21) xU), xM 23 22, xFT 24 2 1 23, xLT 25 24 23, xFT 26 0 1 23, xLT 27 26 23, xAT 28 (.callb 80 [(.t 27)]) 23, xAT 29 (.bin .gtr (.t 28) (xi 0)) 23, xAT 30 (.callb 79 [(.t 25),(.t 29)]) 23, xA 31 (.pick (.t 23) (.t 30) xU), xM 32 31, xFT 33 3 1 32, xLT 34 33 32, xFT 35 0 1 32, xLT 36 35 32, xAT 37 (.callb 80 [(.t 36)]) 32, xAT 38 (.bin .gtr (.t 37) (xi 1)) 32, xAT 39 (.callb 79 [(.t 34),(.t 38)]) 32, xA 40 (.pick (.t 32) (.t 39) xU), xO 2 40] [2])
 .ret))), [(.tmp 2)], .pure, false, false⟩
def f87_b0 : ACode := (.wrap true [0, 1, 7, 8] [4] [(0, [])]
 (.seq (xR [xA 9 (.bin .lss (.t 8) (.t 7))] [0, 1, 7, 8, 9])
 (.seq (.cond (.t 9)
 .skip
 (.exit 0))
 (.seq (.block 1 (.seq (xR [xO 10 8, xO 5 10] [0, 1, 5, 7, 8])
 (.seq (xR [xM 11 1, xM 12 0, xM 13 5, xI 14 4 12 13, xQ 15 4 14, xA 16 (.callv (.t 11) [(.t 15)])] [0, 1, 5, 7, 8, 16])
 (.cond (.t 16)
 (.seq (xR [xO 17 5, xO 4 17] [4])
 .ret)
 .skip))))
 (xR [xA 18 (.bin .add (.t 8) (xi 1)), xO 8 18] [0, 1, 7, 8])))))
def f87_l0 : ACode := .loop f87_b0
theorem u87_l0 : LpEq f87_l0 f87_b0 := K_loop
/-- slices.IndexFunc[[]delver/api.Catch,delver/api.Catch] -/
def f87 : AFun := ⟨2,
 (.seq (xR [xA 4 (.mov .own (xi 0))] [0, 1])
 (.seq (.seq (xR [xM 6 0, xH 7 6, xA 8 (.mov .own (xi 0))] [0, 1, 7, 8])
 (.block 0 f87_l0))
 (.seq (xR [xA 4 (.mov .own (xi (-1)))] [4])
 .ret))), [(.tmp 4)], .pure, false, false⟩
/-- slices.ContainsFunc[[]delver/api.Catch,delver/api.Catch] -/
def f81 : AFun := ⟨2,
 (.seq (xR [xA 4 (.mov .own xU)] [0, 1])
 (.seq (xR [xM 5 0, xM 6 1, xA 7 (.call 87 [(.t 5),(.t 6)]), xA 8 (.bin .geq (.t 7) (xi 0)), xO 4 8] [4])
 .ret)), [(.tmp 4)], .pure, false, false⟩
/-- delver/show.each[delver/api.Catch]$1 -/
def f82 : AFun := ⟨2,
 (.seq (xR [xB 2 0, xA 3 (.mov .own xU)] [1, 2])
 (.seq (xR [xL 4 1, xQ 5 4 2, xA 6 (.callv (.t 4) [(.t 5)]), xN 7 6, xO 3 7] [3])
 .ret)), [(.tmp 3)], .pure, false, false⟩
/-- delver/show.each[delver/api.Catch] -/
def f67 : AFun := ⟨3,
 (.seq (xR [xB 5 2, xA 6 (.mov .own xU)] [0, 1, 5])
 (.seq (xR [xM 7 0, xH 8 7, xM 9 1, xA 10 (.bin .leq (.t 8) (.t 9)), xM 11 10, xMT 12 0 11, xAT 13 (.mkf 82 [] [(.t 5)]) 11, xAT 14 (.call 81 [(.t 12),(.t 13)]) 11, xNT 15 14 11, xA 16 (.pick (.t 11) (.t 15) xU), xO 6 16] [6])
 .ret)), [(.tmp 6)], .pure, false, false⟩
/-- delver/show.catch -/
def f68 : AFun := ⟨1,
 (.seq (xR [xB 1 0, xA 2 (.mov .own xU)] [1])
 (.seq (xR [xF 3 0 1, xL 4 3, xA 5 (.callb 47 [(.t 4)]), xM 6 5, xFT 7 1 1 6, xLT 8 7 6, xAT 9 (.callb 64 [(.t 8),(xi 0),(xi 48)]) 6, xA 10 (.pick (.t 6) (.t 9) xU), xM 11 10, xFT 12 2 1 11, xLT 13 12 11, xAT 14 (.callb 64 [(.t 13),(xi 0),(xi 48)]) 11, xA 15 (.pick (.t 11) (.t 14) xU), xM 16 15, xFT 17 3 1 16, xLT 18 17 16, xAT 19 (.callb 64 [(.t 18),(xi 0),(xi 48)]) 16, xA 20 (.pick (.t 16) (.t 19) xU), xO 2 20] [2])
 .ret)), [(.tmp 2)], .pure, false, false⟩
/-- delver/show.method -/
def f52 : AFun := ⟨1,
 (.seq (xR [xB 1 0, xA 2 (.mov .own xU)] [1])
 (.seq (.seq (xR [xF 3 2 1, xL 4 3, xM 5 4, xFT 6 6 1 5, xLT 7 6 5, xAT 8 (.bin .neq (.t 7) (xi 0)) 5, xMT 9 8 5, xFF 10 7 1 9, xLF 11 10 9, xAF 12 (.len 0 (.t 11)) 9, xFF 13 8 1 9, xLF 14 13 9, xAF 15 (.len 0 (.t 14)) 9, xAF 16 (.bin .add (.t 12) (.t 15)) 9, xAF 17 (.bin .gtr (.t 16) (xi 0)) 9, xAT 18 (.pick (.t 9) xT (.t 17)) 5, xA 19 (.pick (.t 5) (.t 18) xU)] [1, 19])
 (.cond (.t 19)
 (.seq (xR [xA 2 (.mov .own xU)] [2])
 .ret)
 .skip))
 (.seq (xR [xF 20 0 1, xL 21 20, xA 22 (.callb 47 [(.t 21)]), xM 23 22, xFT 24 3 1 23, xLT 25 24 23, xAT 26 (.call 63 [(.t 25),(xi 4),(.k (.c (.fn 60 [] [])))]) 23, xA 27 (.pick (.t 23) (.t 26) xU), xM 28 27, xFT 29 4 1 28, xAT 30 (.ld .cp (some 2) (.t 29)) 28, xAT 31 (.callb 60 [(.t 30)]) 28, xA 32 (.pick (.t 28) (.t 31) xU), xM 33 32, xFT 34 6 1 33, xLT 35 34 33, xAT 36 (.callb 64 [(.t 35),(xi 0),(xi 8)]) 33, xA 37 (.pick (.t 33) (.t 36) xU), xM 38 37, xFT 39 7 1 38, xLT 40 39 38, xAT 41 (.call 65 [(.t 40),(xi 48),(.k (.c (.fn 66 [] [])))]) 38, xA 42 (.pick (.t 38) (.t 41) xU), xM 43 42, xFT 44 8 1 43, xLT 45 44 43, xAT 46 (.call 67 [(.t 45),(xi 4),(.k (.c (.fn 68 [] [])))]) 43, xA 47 (.pick (.t 43) (.t 46) xU), xO 2 47] [2])
 .ret))), [(.tmp 2)], .pure, false, false⟩
/-- delver/show.class -/
def f40 : AFun := ⟨1,
 (.seq (xR [xB 1 0, xA 2 (.mov .own xU)] [1])
 (.seq (xR [xF 4 2 1, xL 5 4, xA 6 (.bin .eql (.t 5) (xs ⟨#[]⟩)), xM 7 6, xFF 8 1 1 7, xLF 9 8 7, xNF 10 9 7, xMF 11 10 7, xFT 12 2 1 11, xLT 13 12 11, xAT 14 (.callb 47 [(.t 13)]) 11, xAF 15 (.pick (.t 11) (.t 14) xU) 7, xA 16 (.pick (.t 7) xT (.t 15)), xM 3 16] [1, 3])
 (.seq (xR [xF 17 0 1, xL 18 17, xA 19 (.callb 47 [(.t 18)]), xM 20 19, xMT 21 3 20, xA 22 (.pick (.t 20) (.t 21) xU), xM 23 22, xFT 24 3 1 23, xLT 25 24 23, xAT 26 (.call 48 [(.t 25),(xi 4),(.k (.c (.fn 47 [] [])))]) 23, xA 27 (.pick (.t 23) (.t 26) xU), xM 28 27, xFT 29 4 1 28, xLT 30 29 28, xAT 31 (.call 49 [(.t 30),(xi 6),(.k (.c (.fn 50 [] [])))]) 28, xA 32 (.pick (.t 28) (.t 31) xU), xM 33 32, xFT 34 5 1 33, xLT 35 34 33, xAT 36 (.call 51 [(.t 35),(xi 6),(.k (.c (.fn 52 [] [])))]) 33, xA 37 (.pick (.t 33) (.t 36) xU), xO 2 37] [2])
 .ret))), [(.tmp 2)], .pure, false, false⟩
/-- delver/show.Check -/
def f24 : AFun := ⟨1,
 (.seq (xR [xB 1 0, xA 2 (.mov .own (xi 0))] [1])
 (.seq (.seq (xR [xF 3 0 1, xL 4 3, xA 5 (.call 39 [(.t 4),(xi 10),(.k (.c (.fn 40 [] [])))]), xN 6 5] [6])
 (.cond (.t 6)
 (.seq (xR [xA 2 (.mov .own (xi 4))] [2])
 .ret)
 .skip))
 (.seq (xR [xA 2 (.mov .own (xi 0))] [2])
 .ret))), [(.tmp 2)], .pure, false, false⟩
/-- (*delver/hier.Tree).super -/
def f31 : AFun := ⟨2,
 (.seq (xR [xB 3 1, xA 4 (.mov .own (xs ⟨#[]⟩)), xA 5 (.mov .own xU)] [3])
 (.seq (.block 0 (.seq (xR [xF 7 1 3, xL 8 7, xM 9 8, xFF 10 0 3 9, xLF 11 10 9, xAF 12 (.bin .eql (.t 11) (xs ⟨#[79,98,106,101,99,116]⟩)) 9, xA 13 (.pick (.t 9) xT (.t 12)), xM 6 13] [3, 6])
 (.cond (.t 6)
 (.seq (xR [xA 4 (.mov .own (xs ⟨#[]⟩)), xA 5 (.mov .own xU)] [4, 5])
 .ret)
 (.seq (xR [xF 15 2 3, xL 16 15, xA 17 (.bin .eql (.t 16) (xs ⟨#[]⟩)), xM 14 17] [3, 14])
 (.cond (.t 14)
 (.seq (xR [xA 4 (.mov .own (xs ⟨#[79,98,106,101,99,116]⟩)), xA 5 (.mov .own xT)] [4, 5])
 .ret)
 .skip)))))
 (.seq (xR [xF 18 2 3, xW 19 18, xO 4 19, xA 5 (.mov .own xT)] [4, 5])
 .ret))), [(.tmp 4), (.tmp 5)], .pure, false, false⟩
/-- (*delver/hier.Tree).lost$1 -/
def f42 : AFun := ⟨2,
 (.seq (xR [xA 3 (.mov .own xU)] [0, 1])
 (.seq (xR [xL 7 1, xA 8 (.nilc (.t 7)), xF 9 3 8, xL 10 9, xM 11 0, xA 12 (.lkp [2] (.agg [xa,xb,xa,xd,xd,xd]) true (.t 10) (.t 11)), xO 6 12, xE 13 0 6, xE 14 1 6, xA 4 (.alloc [xa,xb,xa,(.osl 1 []),(.osl 4 []),(.osl 9 [])]), xS 6 4 13, xM 5 14] [4, 5])
 (.seq (xR [xM 15 5, xN 16 15, xM 17 16, xFF 18 1 4 17, xLF 19 18 17, xNF 20 19 17, xA 21 (.pick (.t 17) xT (.t 20)), xO 3 21] [3])
 .ret))), [(.tmp 3)], .pure, false, false⟩
/-- (*delver/hier.Tree).lost -/
def f26 : AFun := ⟨2,
 (.seq (xR [xB 2 0, xB 3 1, xA 4 (.mov .own xU)] [2, 3])
 (.seq (.seq (xR [xL 10 2, xQ 11 6 3, xA 12 (.call 31 [(.t 10),(.t 11)]), xO 9 12, xE 13 0 9, xE 14 1 9, xM 5 13, xM 6 14] [2, 3, 5, 6])
 (.seq (xR [xM 15 6] [2, 3, 5, 15])
 (.cond (.t 15)
 (.seq (xR [xL 17 2, xA 18 (.nilc (.t 17)), xF 19 3 18, xL 20 19, xM 21 5, xA 22 (.lkp [2] (.agg [xa,xb,xa,xd,xd,xd]) true (.t 20) (.t 21)), xO 16 22, xE 23 0 16, xE 24 1 16, xA 7 (.alloc [xa,xb,xa,(.osl 1 []),(.osl 4 []),(.osl 9 [])]), xS 6 7 23, xM 8 24] [2, 3, 7, 8])
 (.seq (xR [xM 25 8, xN 26 25, xM 27 26, xFF 28 1 7 27, xLF 29 28 27, xA 30 (.pick (.t 27) xT (.t 29))] [2, 3, 30])
 (.cond (.t 30)
 (.seq (xR [xA 4 (.mov .own xT)] [4])
 .ret)
 .skip)))
 .skip)))
 (.seq (xR [xF 31 3 3, xL 32 31, xA 33 (.mkf 42 [] [(.t 2)]), xA 34 (.call 27 [(.t 32),(.t 33)]), xO 4 34] [4])
 .ret))), [(.tmp 4)], .pure, false, false⟩
/-- (*delver/hier.Tree).next -/
def f44 : AFun := ⟨2,
 (.seq (xR [xA 4 (.mov .own (.k (.c (.osl 1 []))))] [0, 1])
 (.seq (xR [xM 9 0, xA 10 (.nilc (.t 9)), xF 11 3 10, xL 12 11, xM 13 1, xA 14 (.lkp [2] (.agg [xa,xb,xa,xd,xd,xd]) false (.t 12) (.t 13)), xA 5 (.alloc [xa,xb,xa,(.osl 1 []),(.osl 4 []),(.osl 9 [])]), xS 6 5 14] [0, 5])
 (.seq (xR [xF 15 3 5, xL 16 15, xA 17 (.callb 20 [(.t 16)]), xO 6 17] [0, 5, 6])
 (.seq (.seq (xR [xM 19 0, xQ 20 6 5, xA 21 (.call 31 [(.t 19),(.t 20)]), xO 18 21, xE 22 0 18, xE 23 1 18, xM 7 22, xM 8 23] [6, 7, 8])
 (.seq (xR [xM 24 8] [6, 7, 24])
 (.cond (.t 24)
 (xR [xO 25 6, xM 26 7, xA 27 (.bsl .own 1 1 [xa] [(0,(.t 26))]), xA 28 (.app 1 16 (.t 25) (.t 27)), xO 6 28] [6])
 .skip)))
 (.seq (xR [xO 29 6, xO 4 29] [4])
 .ret))))), [(.tmp 4)], .pure, false, false⟩
def f29_b0 : ACode := (.wrap true [0, 2, 12, 13, 14] [] [(0, [])]
 (.seq (xR [xA 15 (.bin .lss (.t 14) (.t 13))] [0, 2, 12, 13, 14, 15])
 (.seq (.cond (.t 15)
 .skip
 (.exit 0))
 (.seq (.block 1 (.seq (xR [xI 16 1 12 14, xL 17 16, xM 7 17] [0, 2, 7, 12, 13, 14])
 (.seq (xR [xM 18 2, xM 19 7, xA 20 (.lkp [2] (.c xb) false (.t 18) (.t 19)), xN 21 20] [0, 2, 7, 12, 13, 14, 21])
 (.cond (.t 21)
 (xR [xM 22 0, xM 23 7, xM 24 2, xA 25 (.call 29 [(.t 22),(.t 23),(.t 24)])] [0, 2, 12, 13, 14])
 .skip))))
 (xR [xA 26 (.bin .add (.t 14) (xi 1)), xM 14 26] [0, 2, 12, 13, 14])))))
def f29_l0 : ACode := .loop f29_b0
theorem u29_l0 : LpEq f29_l0 f29_b0 := K_loop
/-- (*delver/hier.Tree).climb -/
def f29 : AFun := ⟨3,
 (.seq (xR [xM 8 2, xM 9 1, xZ (.upd [2] (.t 8) (.t 9) xT)] [0, 1, 2])
 (.seq (xR [xM 10 0, xM 11 1, xA 12 (.call 44 [(.t 10),(.t 11)]), xH 13 12, xA 14 (.mov .cp (xi 0))] [0, 2, 12, 13, 14])
 (.block 0 f29_l0))), [], .trim, false, false⟩
def f28_b0 : ACode := (.wrap true [0, 1, 5, 11, 12, 13] [4] [(0, [1, 5])]
 (.seq (xR [xA 14 (.bin .lss (.t 13) (.t 12))] [0, 1, 5, 11, 12, 13, 14])
 (.seq (.cond (.t 14)
 .skip
 (.exit 0))
 (.seq (.block 1 (.seq (xR [xI 15 1 11 13, xL 16 15, xM 7 16] [0, 1, 5, 7, 11, 12, 13])
 (.seq (xR [xM 17 5, xM 18 7, xA 19 (.lkp [2] (.c xb) false (.t 17) (.t 18)), xN 20 19] [0, 1, 5, 7, 11, 12, 13, 20])
 (.cond (.t 20)
 (xR [xM 21 0, xM 22 7, xM 23 5, xA 24 (.call 29 [(.t 21),(.t 22),(.t 23)])] [0, 1, 5, 11, 12, 13])
 .skip))))
 (xR [xA 25 (.bin .add (.t 13) (xi 1)), xM 13 25] [0, 1, 5, 11, 12, 13])))))
def f28_l0 : ACode := .loop f28_b0
theorem u28_l0 : LpEq f28_l0 f28_b0 := K_loop
/-- (*delver/hier.Tree).ring -/
def f28 : AFun := ⟨2,
 (.seq (xR [xA 4 (.mov .own xU)] [0, 1])
 (.seq (xR [xA 8 (.mkm), xM 5 8] [0, 1, 5])
 (.seq (.seq (xR [xM 9 0, xM 10 1, xA 11 (.call 44 [(.t 9),(.t 10)]), xH 12 11, xA 13 (.mov .cp (xi 0))] [0, 1, 5, 11, 12, 13])
 (.block 0 f28_l0))
 (.seq (xR [xM 26 5, xM 27 1, xA 28 (.lkp [2] (.c xb) false (.t 26) (.t 27)), xO 4 28] [4])
 .ret)))), [(.tmp 4)], .pure, false, false⟩
def f14_b0 : ACode := (.wrap false [3, 4, 34, 35, 36] [2] [(0, [3, 4])]
 (.seq (xR [xA 37 (.bin .lss (.t 36) (.t 35))] [3, 4, 34, 35, 36, 37])
 (.seq (.cond (.t 37)
 .skip
 (.exit 0))
 (.seq (.block 1 (.seq (xR [xI 38 6 34 36, xQ 39 6 38, xA 6 (.alloc [xa,xb,xa,(.osl 1 []),(.osl 4 []),(.osl 9 [])]), xS 6 6 39] [3, 4, 6, 34, 35, 36])
 (.seq (xG [xM 40 3, xM 41 3, xA 42 (.nilc (.t 41)), xF 43 1 42, xW 44 43, xF 45 0 6, xL 46 45, xA 47 (.bsl .own 1 1 [xa] [(0,(.t 46))]), xA 48 (.app 1 16 (.t 44) (.t 47)), xA 49 (.nilc (.t 40)), xF 50 1 49, xS 1 50 48] [3, 4, 6, 34, 35, 36])
 (xG [xM 51 3, xA 52 (.nilc (.t 51)), xF 53 3 52, xL 54 53, xF 55 0 6, xL 56 55, xQ 57 6 6, xZ (.upd [2] (.t 54) (.t 56) (.t 57))] [3, 4, 34, 35, 36]))))
 (xR [xA 58 (.bin .add (.t 36) (xi 1)), xM 36 58] [3, 4, 34, 35, 36])))))
def f14_l0 : ACode := .loop f14_b0
theorem u14_l0 : LpEq f14_l0 f14_b0 := K_loop
def f14_b1 : ACode := (.wrap false [3, 99, 100, 101] [2] [(3, [3])]
 (.seq (xR [xA 102 (.bin .lss (.t 101) (.t 100))] [3, 99, 100, 101, 102])
 (.seq (.cond (.t 102)
 .skip
 (.exit 3))
 (.seq (.block 4 (.seq (xR [xI 103 1 99 101, xL 104 103, xM 8 104] [3, 8, 99, 100, 101])
 (.seq (xR [xM 105 3, xA 106 (.nilc (.t 105)), xF 107 4 106, xL 108 107, xM 109 8, xA 110 (.mkm), xZ (.upd [2] (.t 110) (xs ⟨#[79,98,106,101,99,116]⟩) xT), xM 111 110, xZ (.upd [2] (.t 108) (.t 109) (.t 111))] [3, 8, 99, 100, 101])
 (xR [xM 112 3, xM 113 8, xM 114 3, xA 115 (.nilc (.t 114)), xF 116 4 115, xL 117 116, xM 118 8, xA 119 (.lkp [2] (.c (.b .nilm)) false (.t 117) (.t 118)), xA 120 (.call 29 [(.t 112),(.t 113),(.t 119)])] [3, 99, 100, 101]))))
 (xR [xA 121 (.bin .add (.t 101) (xi 1)), xM 101 121] [3, 99, 100, 101])))))
def f14_l1 : ACode := .loop f14_b1
theorem u14_l1 : LpEq f14_l1 f14_b1 := K_loop
/-- delver/hier.Of -/
def f14 : AFun := ⟨1,
 (.seq (xR [xB 1 0, xA 2 (.mov .own (.k (.c (.b .nilp))))] [1])
 (.seq (xR [xQ 9 1 1, xA 10 (.callb 24 [(.t 9)]), xA 11 (.mkm), xA 12 (.mkm), xA 13 (.build [xc,(.osl 1 []),xc,(.b .nilm),(.b .nilm)] [(2,1,(.t 10)),(3,1,(.t 11)),(4,1,(.t 12))]), xB 14 13, xO 3 14] [1, 3])
 (.seq (.seq (xR [xM 15 3, xA 16 (.nilc (.t 15)), xF 17 2 16, xL 18 17, xA 19 (.bin .neq (.t 18) (xi 0))] [1, 3, 19])
 (.cond (.t 19)
 (.seq (xR [xO 20 3, xO 2 20] [2])
 .ret)
 .skip))
 (.seq (xG [xA 21 (.callb 11 []), xF 22 0 1, xL 23 22, xA 24 (.app 6 112 (.t 21) (.t 23)), xM 4 24] [1, 3, 4])
 (.seq (xR [xM 25 3, xM 26 4, xH 27 26, xF 28 0 1, xL 29 28, xH 30 29, xA 31 (.bin .sub (.t 27) (.t 30)), xA 32 (.nilc (.t 25)), xF 33 0 32, xS 1 33 31] [3, 4])
 (.seq (.seq (xR [xM 34 4, xH 35 34, xA 36 (.mov .cp (xi 0))] [3, 4, 34, 35, 36])
 (.block 0 f14_l0))
 (.seq (.block 2 (.seq (xR [xM 60 3, xA 61 (.nilc (.t 60)), xF 62 3 61, xL 63 62, xA 64 (.len 2 (.t 63)), xM 65 4, xH 66 65, xA 67 (.bin .lss (.t 64) (.t 66)), xM 59 67] [3, 4, 59])
 (.cond (.t 59)
 (xR [xM 68 3, xA 69 (.nilc (.t 68)), xF 70 2 69, xZ (.st 1 (.t 70) (xi 6))] [3])
 (.seq (xR [xM 72 4, xM 73 3, xA 74 (.mkf 26 [(.t 73)] []), xA 75 (.call 25 [(.t 72),(.t 74)]), xM 71 75] [3, 71])
 (.cond (.t 71)
 (xR [xM 76 3, xA 77 (.nilc (.t 76)), xF 78 2 77, xZ (.st 1 (.t 78) (xi 5))] [3])
 (.seq (xR [xM 80 3, xA 81 (.nilc (.t 80)), xF 82 1 81, xL 83 82, xM 84 3, xA 85 (.mkf 28 [(.t 84)] []), xA 86 (.call 27 [(.t 83),(.t 85)]), xM 79 86] [3, 79])
 (.cond (.t 79)
 (xR [xM 87 3, xA 88 (.nilc (.t 87)), xF 89 2 88, xZ (.st 1 (.t 89) (xi 7))] [3])
 .skip)))))))
 (.seq (.seq (xR [xM 90 3, xA 91 (.nilc (.t 90)), xF 92 2 91, xL 93 92, xA 94 (.bin .neq (.t 93) (xi 0))] [3, 94])
 (.cond (.t 94)
 (.seq (xR [xO 95 3, xO 2 95] [2])
 .ret)
 .skip))
 (.seq (.seq (xR [xM 96 3, xA 97 (.nilc (.t 96)), xF 98 1 97, xL 99 98, xH 100 99, xA 101 (.mov .cp (xi 0))] [3, 99, 100, 101])
 (.block 3 f14_l1))
 (.seq (xR [xO 122 3, xO 2 122] [2])
 .ret)))))))))), [(.tmp 2)], .free, false, false⟩
/-- delver/hier.Check -/
def f7 : AFun := ⟨1,
 (.seq (xR [xB 1 0, xA 2 (.mov .own (xi 0))] [1])
 (.seq (xR [xQ 3 1 1, xA 4 (.call 14 [(.t 3)]), xA 5 (.nilc (.t 4)), xF 6 2 5, xW 7 6, xO 2 7] [2])
 .ret)), [(.tmp 2)], .pure, false, false⟩
/-- (*delver/hier.Tree).Under -/
def f15 : AFun := ⟨3,
 (.seq (xR [xA 6 (.mov .own xU)] [0, 1, 2])
 (.seq (xR [xM 7 0, xA 8 (.nilc (.t 7)), xF 9 2 8, xL 10 9, xA 11 (.bin .eql (.t 10) (xi 0)), xM 12 11, xMT 13 0 12, xAT 14 (.nilc (.t 13)) 12, xFT 15 4 14 12, xLT 16 15 12, xMT 17 1 12, xAT 18 (.lkp [2] (.c (.b .nilm)) false (.t 16) (.t 17)) 12, xMT 19 2 12, xAT 20 (.lkp [2] (.c xb) false (.t 18) (.t 19)) 12, xA 21 (.pick (.t 12) (.t 20) xU), xO 6 21] [6])
 .ret)), [(.tmp 6)], .pure, false, false⟩
/-- delver/hier.Under -/
def f8 : AFun := ⟨3,
 (.seq (xR [xB 3 0, xA 6 (.mov .own xU)] [1, 2, 3])
 (.seq (xR [xQ 7 1 3, xA 8 (.call 14 [(.t 7)]), xM 9 1, xM 10 2, xA 11 (.call 15 [(.t 8),(.t 9),(.t 10)]), xO 6 11] [6])
 .ret)), [(.tmp 6)], .pure, false, false⟩
/-- (*delver/hier.Tree).Class -/
def f30 : AFun := ⟨2,
 (.seq (xR [xA 4 (.alloc [xa,xb,xa,(.osl 1 []),(.osl 4 []),(.osl 9 [])]), xA 5 (.mov .own xU)] [0, 1, 4])
 (.seq (xR [xM 9 0, xA 10 (.nilc (.t 9)), xF 11 3 10, xL 12 11, xM 13 1, xA 14 (.lkp [2] (.agg [xa,xb,xa,xd,xd,xd]) true (.t 12) (.t 13)), xO 8 14, xE 15 0 8, xE 16 1 8, xA 6 (.alloc [xa,xb,xa,(.osl 1 []),(.osl 4 []),(.osl 9 [])]), xS 6 6 15, xM 7 16] [0, 4, 6, 7])
 (.seq (xG [xQ 17 6 6, xM 18 7, xM 19 18, xMT 20 0 19, xAT 21 (.nilc (.t 20)) 19, xFT 22 2 21 19, xLT 23 22 19, xAT 24 (.bin .eql (.t 23) (xi 0)) 19, xA 25 (.pick (.t 19) (.t 24) xU), xZ (.stl 6 (.t 4) (.t 17) [6,22]), xO 5 25] [4, 5])
 .ret))), [(.cell 4 (some 6)), (.tmp 5)], .pure, false, false⟩
/-- (*delver/hier.Tree).Super -/
def f16 : AFun := ⟨2,
 (.seq (xR [xA 4 (.mov .own (xs ⟨#[]⟩)), xA 5 (.mov .own xU)] [0, 1])
 (.seq (xR [xM 9 0, xM 10 1, xA 11 (.call 30 [(.t 9),(.t 10)]), xO 8 11, xE 12 0 8, xE 13 1 8, xA 6 (.alloc [xa,xb,xa,(.osl 1 []),(.osl 4 []),(.osl 9 [])]), xS 6 6 12, xM 7 13] [0, 6, 7])
 (.seq (.seq (xR [xM 14 7, xN 15 14] [0, 6, 15])
 (.cond (.t 15)
 (.seq (xR [xA 4 (.mov .own (xs ⟨#[]⟩)), xA 5 (.mov .own xU)] [4, 5])
 .ret)
 .skip))
 (.seq (xR [xM 16 0, xQ 17 6 6, xA 18 (.call 31 [(.t 16),(.t 17)]), xE 19 0 18, xE 20 1 18, xO 4 19, xO 5 20] [4, 5])
 .ret)))), [(.tmp 4), (.tmp 5)], .pure, false, false⟩
/-- delver/hier.Super -/
def f9 : AFun := ⟨2,
 (.seq (xR [xB 2 0, xA 4 (.mov .own (xs ⟨#[]⟩)), xA 5 (.mov .own xU)] [1, 2])
 (.seq (xR [xQ 6 1 2, xA 7 (.call 14 [(.t 6)]), xM 8 1, xA 9 (.call 16 [(.t 7),(.t 8)]), xE 10 0 9, xE 11 1 9, xO 4 10, xO 5 11] [4, 5])
 .ret)), [(.tmp 4), (.tmp 5)], .pure, false, false⟩
def f32_b0 : ACode := (.wrap true [0, 1, 5, 21, 22, 23] [4] [(0, [5])]
 (.seq (xR [xA 24 (.bin .lss (.t 23) (.t 22))] [0, 1, 5, 21, 22, 23, 24])
 (.seq (.cond (.t 24)
 .skip
 (.exit 0))
 (.seq (.block 1 (.seq (xR [xI 25 1 21 23, xL 26 25, xM 7 26] [0, 1, 5, 7, 21, 22, 23])
 (.seq (xR [xM 27 0, xA 28 (.nilc (.t 27)), xF 29 3 28, xL 30 29, xM 31 7, xA 32 (.lkp [2] (.agg [xa,xb,xa,xd,xd,xd]) false (.t 30) (.t 31)), xA 33 (.fld 1 none (.t 32)), xN 34 33, xM 35 34, xMT 36 0 35, xMT 37 7 35, xMT 38 1 35, xAT 39 (.call 15 [(.t 36),(.t 37),(.t 38)]) 35, xA 40 (.pick (.t 35) (.t 39) xU)] [0, 1, 5, 7, 21, 22, 23, 40])
 (.cond (.t 40)
 (xR [xO 41 5, xM 42 7, xA 43 (.bsl .own 1 1 [xa] [(0,(.t 42))]), xA 44 (.app 1 16 (.t 41) (.t 43)), xO 5 44] [0, 1, 5, 21, 22, 23])
 .skip))))
 (xR [xA 45 (.bin .add (.t 23) (xi 1)), xM 23 45] [0, 1, 5, 21, 22, 23])))))
def f32_l0 : ACode := .loop f32_b0
theorem u32_l0 : LpEq f32_l0 f32_b0 := K_loop
/-- (*delver/hier.Tree).Kinds -/
def f32 : AFun := ⟨2,
 (.seq (xR [xA 4 (.mov .own (.k (.c (.osl 1 []))))] [0, 1])
 (.seq (xR [xA 5 (.mov .own (.k (.c (.osl 1 []))))] [0, 1, 5])
 (.seq (.seq (xR [xM 8 0, xA 9 (.nilc (.t 8)), xF 10 2 9, xL 11 10, xA 12 (.bin .neq (.t 11) (xi 0))] [0, 1, 5, 12])
 (.cond (.t 12)
 (.seq (xR [xA 4 (.mov .own (.k (.c (.osl 1 []))))] [4])
 .ret)
 .skip))
 (.seq (.seq (xG [xM 13 0, xA 14 (.nilc (.t 13)), xF 15 1 14, xL 16 15, xM 17 0, xA 18 (.nilc (.t 17)), xF 19 0 18, xL 20 19, xA 21 (.slc .cp 1 (.t 16) (some (.t 20)) none), xH 22 21, xA 23 (.mov .cp (xi 0))] [0, 1, 5, 21, 22, 23])
 (.block 0 f32_l0))
 (.seq (xR [xO 46 5, xO 4 46] [4])
 .ret))))), [(.tmp 4)], .pure, false, false⟩
/-- delver/hier.Kinds -/
def f17 : AFun := ⟨2,
 (.seq (xR [xB 2 0, xA 4 (.mov .own (.k (.c (.osl 1 []))))] [1, 2])
 (.seq (xR [xQ 5 1 2, xA 6 (.call 14 [(.t 5)]), xM 7 1, xA 8 (.call 32 [(.t 6),(.t 7)]), xO 4 8] [4])
 .ret)), [(.tmp 4)], .pure, false, false⟩
/-- delver/delverlaw04.wakes -/
def f10 : AFun := ⟨0,
 (.seq (xR [xA 0 (.mov .own xU)] [])
 (.seq (xR [xA 5 (.build [xa,xb,xa,(.osl 1 []),(.osl 4 []),(.osl 9 [])] [(0,1,(xs ⟨#[65]⟩))]), xA 6 (.build [xa,xb,xa,(.osl 1 []),(.osl 4 []),(.osl 9 [])] [(0,1,(xs ⟨#[66]⟩)),(2,1,(xs ⟨#[65]⟩))]), xA 7 (.bsl .own 6 2 [xa,xb,xa,(.osl 1 []),(.osl 4 []),(.osl 9 [])] [(0,(.t 5)),(1,(.t 6))]), xA 8 (.build [(.osl 6 [])] [(0,1,(.t 7))]), xA 1 (.alloc [(.osl 6 [])]), xS 1 1 8] [1])
 (.seq (xR [xQ 10 1 1, xA 11 (.callb 9 [(.t 10),(xs ⟨#[65]⟩)]), xO 9 11, xE 12 0 9, xE 13 1 9, xM 2 12, xM 3 13] [1, 2, 3])
 (.seq (xR [xQ 14 1 1, xA 15 (.callb 17 [(.t 14),(xs ⟨#[65]⟩)]), xM 4 15] [1, 2, 3, 4])
 (.seq (xR [xQ 16 1 1, xA 17 (.callb 5 [(.t 16)]), xH 18 17, xA 19 (.bin .eql (.t 18) (xi 10)), xM 20 19, xAT 21 (.ld .cp (some 1) (.t 1)) 20, xAT 22 (.callb 7 [(.t 21)]) 20, xAT 23 (.bin .eql (.t 22) (xi 0)) 20, xA 24 (.pick (.t 20) (.t 23) xU), xM 25 24, xAT 26 (.ld .cp (some 1) (.t 1)) 25, xAT 27 (.callb 8 [(.t 26),(xs ⟨#[78,117,108,108,69,114,114,111,114]⟩),(xs ⟨#[69,114,114,111,114]⟩)]) 25, xA 28 (.pick (.t 25) (.t 27) xU), xM 29 28, xAT 30 (.ld .cp (some 1) (.t 1)) 29, xAT 31 (.callb 8 [(.t 30),(xs ⟨#[65]⟩),(xs ⟨#[66]⟩)]) 29, xNT 32 31 29, xA 33 (.pick (.t 29) (.t 32) xU), xM 34 33, xMT 35 3 34, xA 36 (.pick (.t 34) (.t 35) xU), xM 37 36, xMT 38 2 37, xAT 39 (.bin .eql (.t 38) (xs ⟨#[79,98,106,101,99,116]⟩)) 37, xA 40 (.pick (.t 37) (.t 39) xU), xM 41 40, xMT 42 4 41, xAT 43 (.bsl .own 1 2 [xa] [(0,(xs ⟨#[65]⟩)),(1,(xs ⟨#[66]⟩))]) 41, xAT 44 (.callb 18 [(.t 42),(.t 43)]) 41, xA 45 (.pick (.t 41) (.t 44) xU), xM 46 45, xAT 47 (.build [xa,xb,xa,(.osl 1 []),(.osl 4 []),(.osl 9 [])] [(0,1,(xs ⟨#[69,114,114,111,114]⟩))]) 46, xAT 48 (.bsl .own 6 1 [xa,xb,xa,(.osl 1 []),(.osl 4 []),(.osl 9 [])] [(0,(.t 47))]) 46, xAT 49 (.build [(.osl 6 [])] [(0,1,(.t 48))]) 46, xAT 50 (.callb 7 [(.t 49)]) 46, xAT 51 (.bin .eql (.t 50) (xi 6)) 46, xA 52 (.pick (.t 46) (.t 51) xU), xO 0 52] [0])
 .ret))))), [(.tmp 0)], .pure, false, false⟩
def f3_b0 : ACode := (.wrap true [1, 3, 4, 5, 6] [2] [(0, [1, 5])]
 (.seq (.seq (xR [xM 34 6, xA 35 (.bin .lss (.t 34) (xi 8))] [1, 3, 4, 5, 6, 35])
 (.cond (.t 35)
 .skip
 (.exit 0)))
 (.seq (.block 1 (.seq (xG [xM 38 4, xM 39 6, xI 40 6 38 39, xF 41 0 40, xL 42 41, xM 43 3, xM 44 6, xI 45 1 43 44, xL 46 45, xA 47 (.bin .neq (.t 42) (.t 46)), xM 48 47, xMF 49 4 48, xMF 50 6 48, xIF 51 6 49 50 48, xFF 52 1 51 48, xLF 53 52 48, xA 54 (.pick (.t 48) xT (.t 53)), xM 55 54, xMF 56 4 55, xMF 57 6 55, xIF 58 6 56 57 55, xFF 59 4 58 55, xLF 60 59 55, xAF 61 (.len 0 (.t 60)) 55, xMF 62 4 55, xMF 63 6 55, xIF 64 6 62 63 55, xFF 65 5 64 55, xLF 66 65 55, xAF 67 (.len 0 (.t 66)) 55, xAF 68 (.bin .add (.t 61) (.t 67)) 55, xAF 69 (.bin .gtr (.t 68) (xi 0)) 55, xA 70 (.pick (.t 55) xT (.t 69)), xM 71 70, xAF 72 (.ld .cp (some 1) (.t 1)) 71, xMF 73 3 71, xMF 74 6 71, xIF 75 1 73 74 71, xLF 76 75 71, xAF 77 (.callb 8 [(.t 72),(.t 76),(xs ⟨#[69,114,114,111,114]⟩)]) 71, xMF 78 5 71, xMF 79 78 71, xMT 80 6 79, xAT 81 (.bin .gtr (.t 80) (xi 0)) 79, xAF 82 (.pick (.t 79) (.t 81) xU) 71, xAF 83 (.eq true 0 [] (.t 77) (.t 82)) 71, xA 84 (.pick (.t 71) xT (.t 83)), xM 85 84, xAF 86 (.ld .cp (some 1) (.t 1)) 85, xMF 87 3 85, xMF 88 6 85, xIF 89 1 87 88 85, xLF 90 89 85, xAF 91 (.callb 8 [(.t 86),(.t 90),(xs ⟨#[79,98,106,101,99,116]⟩)]) 85, xMF 92 5 85, xAF 93 (.eq true 0 [] (.t 91) (.t 92)) 85, xA 94 (.pick (.t 85) xT (.t 93))] [1, 3, 4, 5, 6, 94])
 (.cond (.t 94)
 (.seq (xR [xA 2 (.mov .own xU)] [2])
 .ret)
 .skip)))
 (xR [xM 36 6, xA 37 (.bin .add (.t 36) (xi 1)), xM 6 37] [1, 3, 4, 5, 6]))))
def f3_l0 : ACode := .loop f3_b0
theorem u3_l0 : LpEq f3_l0 f3_b0 := K_loop
/-- delver/delverlaw04.HierBase -/
def f3 : AFun := ⟨1,
 (.seq (xR [xB 1 0, xA 2 (.mov .own xU)] [1])
 (.seq (.seq (xR [xQ 11 1 1, xA 12 (.callb 4 [(.t 11)])] [1, 12])
 (.cond (.t 12)
 (.seq (xR [xA 2 (.mov .own xT)] [2])
 .ret)
 .skip))
 (.seq (xR [xA 13 (.bsl .own 1 8 [xa] [(0,(xs ⟨#[79,98,106,101,99,116]⟩)),(1,(xs ⟨#[69,114,114,111,114]⟩)),(2,(xs ⟨#[78,117,108,108,69,114,114,111,114]⟩)),(3,(xs ⟨#[82,97,110,103,101,69,114,114,111,114]⟩)),(4,(xs ⟨#[67,97,115,116,69,114,114,111,114]⟩)),(5,(xs ⟨#[78,117,109,69,114,114,111,114]⟩)),(6,(xs ⟨#[83,105,122,101,69,114,114,111,114]⟩)),(7,(xs ⟨#[68,101,112,116,104,69,114,114,111,114]⟩))]), xM 3 13] [1, 3])
 (.seq (xR [xQ 14 1 1, xA 15 (.callb 5 [(.t 14)]), xM 4 15] [1, 3, 4])
 (.seq (.seq (xG [xM 16 4, xH 17 16, xF 18 0 1, xL 19 18, xH 20 19, xA 21 (.bin .add (xi 8) (.t 20)), xA 22 (.bin .neq (.t 17) (.t 21)), xM 23 22, xMF 24 4 23, xAF 25 (.slc .cp 6 (.t 24) (some (xi 8)) none) 23, xFF 26 0 1 23, xLF 27 26 23, xAF 28 (.callb 6 [(.t 25),(.t 27)]) 23, xNF 29 28 23, xA 30 (.pick (.t 23) xT (.t 29))] [1, 3, 4, 30])
 (.cond (.t 30)
 (.seq (xR [xA 2 (.mov .own xU)] [2])
 .ret)
 .skip))
 (.seq (xR [xQ 31 1 1, xA 32 (.callb 7 [(.t 31)]), xA 33 (.bin .eql (.t 32) (xi 0)), xM 5 33] [1, 3, 4, 5])
 (.seq (.seq (xR [xA 6 (.mov .cp (xi 0))] [1, 3, 4, 5, 6])
 (.block 0 f3_l0))
 (.seq (xR [xQ 96 1 1, xA 97 (.callb 9 [(.t 96),(xs ⟨#[69,114,114,111,114]⟩)]), xO 95 97, xE 98 0 95, xE 99 1 95, xM 7 98, xM 8 99] [1, 5, 7, 8])
 (.seq (xR [xQ 101 1 1, xA 102 (.callb 9 [(.t 101),(xs ⟨#[79,98,106,101,99,116]⟩)]), xO 100 102, xE 103 0 100, xE 104 1 100, xM 9 103, xM 10 104] [5, 7, 8, 10])
 (.seq (xR [xM 105 8, xM 106 5, xA 107 (.eq false 0 [] (.t 105) (.t 106)), xM 108 107, xMT 109 5 108, xNT 110 109 108, xMT 111 110 108, xMF 112 7 111, xAF 113 (.bin .eql (.t 112) (xs ⟨#[79,98,106,101,99,116]⟩)) 111, xAT 114 (.pick (.t 111) xT (.t 113)) 108, xA 115 (.pick (.t 108) (.t 114) xU), xM 116 115, xMT 117 10 116, xNT 118 117 116, xA 119 (.pick (.t 116) (.t 118) xU), xM 120 119, xAT 121 (.callb 10 []) 120, xA 122 (.pick (.t 120) (.t 121) xU), xO 2 122] [2])
 .ret)))))))))), [(.tmp 2)], .pure, false, false⟩
theorem c4 : chkFun Tryd.prog 4 f4 = true := by kernel_rfl
theorem c33 : chkFun Tryd.prog 33 f33 = true := by kernel_rfl
theorem c53 : chkFun Tryd.prog 53 f53 = true := by kernel_rfl
theorem c54 : chkFun Tryd.prog 54 f54 = true := by kernel_rfl
theorem c45 : chkFun Tryd.prog 45 f45 = true := by kernel_rfl
theorem c34 : chkFun Tryd.prog 34 f34 = true := by kernel_rfl
theorem c19 : chkFun Tryd.prog 19 f19 = true := by kernel_rfl
theorem c11 : chkFun Tryd.prog 11 f11 = true := by kernel_rfl
theorem c20 : chkFun Tryd.prog 20 f20 = true := by kernel_rfl
theorem c21 : chkFun Tryd.prog 21 f21 = true := by kernel_rfl
theorem c35 : chkFun Tryd.prog 35 f35 = true := by kernel_rfl
theorem c36 : chkFun Tryd.prog 36 f36 = true := by kernel_rfl
theorem c37 : chkFun Tryd.prog 37 f37 = true := by kernel_rfl
theorem c22 : chkFun Tryd.prog 22 f22 = true := by kernel_rfl
theorem c12 : chkFun Tryd.prog 12 f12 = true := by kernel_rfl
theorem c5 : chkFun Tryd.prog 5 f5 = true := by kernel_rfl
theorem c18 : chkFun Tryd.prog 18 f18 = true := by kernel_rfl
theorem c38 : chkFun Tryd.prog 38 f38 = true := by kernel_rfl
theorem c23 : chkFun Tryd.prog 23 f23 = true := by kernel_rfl
theorem c13 : chkFun Tryd.prog 13 f13 = true := by kernel_rfl
theorem c6 : chkFun Tryd.prog 6 f6 = true := by kernel_rfl
theorem c41 : chkFun Tryd.prog 41 f41 = true := by kernel_rfl
theorem c25 : chkFun Tryd.prog 25 f25 = true := by kernel_rfl
theorem c46 : chkFun Tryd.prog 46 f46 = true := by kernel_rfl
theorem c39 : chkFun Tryd.prog 39 f39 = true := by kernel_rfl
theorem c69 : chkFun Tryd.prog 69 f69 = true := by kernel_rfl
theorem c70 : chkFun Tryd.prog 70 f70 = true := by kernel_rfl
theorem c55 : chkFun Tryd.prog 55 f55 = true := by kernel_rfl
theorem c83 : chkFun Tryd.prog 83 f83 = true := by kernel_rfl
theorem c71 : chkFun Tryd.prog 71 f71 = true := by kernel_rfl
theorem c56 : chkFun Tryd.prog 56 f56 = true := by kernel_rfl
theorem c47 : chkFun Tryd.prog 47 f47 = true := by kernel_rfl
theorem c43 : chkFun Tryd.prog 43 f43 = true := by kernel_rfl
theorem c27 : chkFun Tryd.prog 27 f27 = true := by kernel_rfl
theorem c57 : chkFun Tryd.prog 57 f57 = true := by kernel_rfl
theorem c48 : chkFun Tryd.prog 48 f48 = true := by kernel_rfl
theorem c72 : chkFun Tryd.prog 72 f72 = true := by kernel_rfl
theorem c58 : chkFun Tryd.prog 58 f58 = true := by kernel_rfl
theorem c59 : chkFun Tryd.prog 59 f59 = true := by kernel_rfl
theorem c49 : chkFun Tryd.prog 49 f49 = true := by kernel_rfl
theorem c60 : chkFun Tryd.prog 60 f60 = true := by kernel_rfl
theorem c50 : chkFun Tryd.prog 50 f50 = true := by kernel_rfl
theorem c73 : chkFun Tryd.prog 73 f73 = true := by kernel_rfl
theorem c61 : chkFun Tryd.prog 61 f61 = true := by kernel_rfl
theorem c62 : chkFun Tryd.prog 62 f62 = true := by kernel_rfl
theorem c51 : chkFun Tryd.prog 51 f51 = true := by kernel_rfl
theorem c84 : chkFun Tryd.prog 84 f84 = true := by kernel_rfl
theorem c74 : chkFun Tryd.prog 74 f74 = true := by kernel_rfl
theorem c75 : chkFun Tryd.prog 75 f75 = true := by kernel_rfl
theorem c63 : chkFun Tryd.prog 63 f63 = true := by kernel_rfl
theorem c64 : chkFun Tryd.prog 64 f64 = true := by kernel_rfl
theorem c85 : chkFun Tryd.prog 85 f85 = true := by kernel_rfl
theorem c76 : chkFun Tryd.prog 76 f76 = true := by kernel_rfl
theorem c77 : chkFun Tryd.prog 77 f77 = true := by kernel_rfl
theorem c65 : chkFun Tryd.prog 65 f65 = true := by kernel_rfl
theorem c86 : chkFun Tryd.prog 86 f86 = true := by kernel_rfl
theorem c78 : chkFun Tryd.prog 78 f78 = true := by kernel_rfl
theorem c79 : chkFun Tryd.prog 79 f79 = true := by kernel_rfl
theorem c80 : chkFun Tryd.prog 80 f80 = true := by kernel_rfl
theorem c66 : chkFun Tryd.prog 66 f66 = true := by kernel_rfl
theorem c87 : chkFun Tryd.prog 87 f87 = true := by kernel_rfl
theorem c81 : chkFun Tryd.prog 81 f81 = true := by kernel_rfl
theorem c82 : chkFun Tryd.prog 82 f82 = true := by kernel_rfl
theorem c67 : chkFun Tryd.prog 67 f67 = true := by kernel_rfl
theorem c68 : chkFun Tryd.prog 68 f68 = true := by kernel_rfl
theorem c52 : chkFun Tryd.prog 52 f52 = true := by kernel_rfl
theorem c40 : chkFun Tryd.prog 40 f40 = true := by kernel_rfl
theorem c24 : chkFun Tryd.prog 24 f24 = true := by kernel_rfl
theorem c31 : chkFun Tryd.prog 31 f31 = true := by kernel_rfl
theorem c42 : chkFun Tryd.prog 42 f42 = true := by kernel_rfl
theorem c26 : chkFun Tryd.prog 26 f26 = true := by kernel_rfl
theorem c44 : chkFun Tryd.prog 44 f44 = true := by kernel_rfl
theorem c29 : chkFun Tryd.prog 29 f29 = true := by kernel_rfl
theorem c28 : chkFun Tryd.prog 28 f28 = true := by kernel_rfl
theorem c14 : chkFun Tryd.prog 14 f14 = true := by kernel_rfl
theorem c7 : chkFun Tryd.prog 7 f7 = true := by kernel_rfl
theorem c15 : chkFun Tryd.prog 15 f15 = true := by kernel_rfl
theorem c8 : chkFun Tryd.prog 8 f8 = true := by kernel_rfl
theorem c30 : chkFun Tryd.prog 30 f30 = true := by kernel_rfl
theorem c16 : chkFun Tryd.prog 16 f16 = true := by kernel_rfl
theorem c9 : chkFun Tryd.prog 9 f9 = true := by kernel_rfl
theorem c32 : chkFun Tryd.prog 32 f32 = true := by kernel_rfl
theorem c17 : chkFun Tryd.prog 17 f17 = true := by kernel_rfl
theorem c10 : chkFun Tryd.prog 10 f10 = true := by kernel_rfl
theorem c3 : chkFun Tryd.prog 3 f3 = true := by kernel_rfl
def tab : List (Nat × AFun) := [(4, f4), (33, f33), (53, f53), (54, f54), (45, f45), (34, f34), (19, f19), (11, f11), (20, f20), (21, f21), (35, f35), (36, f36), (37, f37), (22, f22), (12, f12), (5, f5), (18, f18), (38, f38), (23, f23), (13, f13), (6, f6), (41, f41), (25, f25), (46, f46), (39, f39), (69, f69), (70, f70), (55, f55), (83, f83), (71, f71), (56, f56), (47, f47), (43, f43), (27, f27), (57, f57), (48, f48), (72, f72), (58, f58), (59, f59), (49, f49), (60, f60), (50, f50), (73, f73), (61, f61), (62, f62), (51, f51), (84, f84), (74, f74), (75, f75), (63, f63), (64, f64), (85, f85), (76, f76), (77, f77), (65, f65), (86, f86), (78, f78), (79, f79), (80, f80), (66, f66), (87, f87), (81, f81), (82, f82), (67, f67), (68, f68), (52, f52), (40, f40), (24, f24), (31, f31), (42, f42), (26, f26), (44, f44), (29, f29), (28, f28), (14, f14), (7, f7), (15, f15), (8, f8), (30, f30), (16, f16), (9, f9), (32, f32), (17, f17), (10, f10), (3, f3)]
def look (f : Nat) : List (Nat × AFun) → Option AFun
  | [] => none
  | (g, a) :: l => bif Nat.beq f g then some a else look f l
theorem look_mem {f : Nat} {a : AFun} : ∀ {l : List (Nat × AFun)}, look f l = some a → (f, a) ∈ l
  | [], h => by simp [look] at h
  | (g, b) :: l, h => by
    simp only [look] at h
    cases hb : Nat.beq f g with
    | true => rw [hb] at h; have := Nat.eq_of_beq_eq_true hb; subst this; simp only [cond_true, Option.some.injEq] at h; subst h; exact List.mem_cons_self
    | false => rw [hb] at h; exact List.mem_cons_of_mem _ (look_mem h)
def fns (f : Nat) : Option AFun := look f tab
theorem t4 : fns 4 = some f4 := rfl
theorem t33 : fns 33 = some f33 := rfl
theorem t53 : fns 53 = some f53 := rfl
theorem t54 : fns 54 = some f54 := rfl
theorem t45 : fns 45 = some f45 := rfl
theorem t34 : fns 34 = some f34 := rfl
theorem t19 : fns 19 = some f19 := rfl
theorem t11 : fns 11 = some f11 := rfl
theorem t20 : fns 20 = some f20 := rfl
theorem t21 : fns 21 = some f21 := rfl
theorem t35 : fns 35 = some f35 := rfl
theorem t36 : fns 36 = some f36 := rfl
theorem t37 : fns 37 = some f37 := rfl
theorem t22 : fns 22 = some f22 := rfl
theorem t12 : fns 12 = some f12 := rfl
theorem t5 : fns 5 = some f5 := rfl
theorem t18 : fns 18 = some f18 := rfl
theorem t38 : fns 38 = some f38 := rfl
theorem t23 : fns 23 = some f23 := rfl
theorem t13 : fns 13 = some f13 := rfl
theorem t6 : fns 6 = some f6 := rfl
theorem t41 : fns 41 = some f41 := rfl
theorem t25 : fns 25 = some f25 := rfl
theorem t46 : fns 46 = some f46 := rfl
theorem t39 : fns 39 = some f39 := rfl
theorem t69 : fns 69 = some f69 := rfl
theorem t70 : fns 70 = some f70 := rfl
theorem t55 : fns 55 = some f55 := rfl
theorem t83 : fns 83 = some f83 := rfl
theorem t71 : fns 71 = some f71 := rfl
theorem t56 : fns 56 = some f56 := rfl
theorem t47 : fns 47 = some f47 := rfl
theorem t43 : fns 43 = some f43 := rfl
theorem t27 : fns 27 = some f27 := rfl
theorem t57 : fns 57 = some f57 := rfl
theorem t48 : fns 48 = some f48 := rfl
theorem t72 : fns 72 = some f72 := rfl
theorem t58 : fns 58 = some f58 := rfl
theorem t59 : fns 59 = some f59 := rfl
theorem t49 : fns 49 = some f49 := rfl
theorem t60 : fns 60 = some f60 := rfl
theorem t50 : fns 50 = some f50 := rfl
theorem t73 : fns 73 = some f73 := rfl
theorem t61 : fns 61 = some f61 := rfl
theorem t62 : fns 62 = some f62 := rfl
theorem t51 : fns 51 = some f51 := rfl
theorem t84 : fns 84 = some f84 := rfl
theorem t74 : fns 74 = some f74 := rfl
theorem t75 : fns 75 = some f75 := rfl
theorem t63 : fns 63 = some f63 := rfl
theorem t64 : fns 64 = some f64 := rfl
theorem t85 : fns 85 = some f85 := rfl
theorem t76 : fns 76 = some f76 := rfl
theorem t77 : fns 77 = some f77 := rfl
theorem t65 : fns 65 = some f65 := rfl
theorem t86 : fns 86 = some f86 := rfl
theorem t78 : fns 78 = some f78 := rfl
theorem t79 : fns 79 = some f79 := rfl
theorem t80 : fns 80 = some f80 := rfl
theorem t66 : fns 66 = some f66 := rfl
theorem t87 : fns 87 = some f87 := rfl
theorem t81 : fns 81 = some f81 := rfl
theorem t82 : fns 82 = some f82 := rfl
theorem t67 : fns 67 = some f67 := rfl
theorem t68 : fns 68 = some f68 := rfl
theorem t52 : fns 52 = some f52 := rfl
theorem t40 : fns 40 = some f40 := rfl
theorem t24 : fns 24 = some f24 := rfl
theorem t31 : fns 31 = some f31 := rfl
theorem t42 : fns 42 = some f42 := rfl
theorem t26 : fns 26 = some f26 := rfl
theorem t44 : fns 44 = some f44 := rfl
theorem t29 : fns 29 = some f29 := rfl
theorem t28 : fns 28 = some f28 := rfl
theorem t14 : fns 14 = some f14 := rfl
theorem t7 : fns 7 = some f7 := rfl
theorem t15 : fns 15 = some f15 := rfl
theorem t8 : fns 8 = some f8 := rfl
theorem t30 : fns 30 = some f30 := rfl
theorem t16 : fns 16 = some f16 := rfl
theorem t9 : fns 9 = some f9 := rfl
theorem t32 : fns 32 = some f32 := rfl
theorem t17 : fns 17 = some f17 := rfl
theorem t10 : fns 10 = some f10 := rfl
theorem t3 : fns 3 = some f3 := rfl
theorem tab_ok : ∀ p ∈ tab, chkFun Tryd.prog p.1 p.2 = true := by
  simp only [tab, List.forall_mem_cons]
  exact ⟨c4, c33, c53, c54, c45, c34, c19, c11, c20, c21, c35, c36, c37, c22, c12, c5, c18, c38, c23, c13, c6, c41, c25, c46, c39, c69, c70, c55, c83, c71, c56, c47, c43, c27, c57, c48, c72, c58, c59, c49, c60, c50, c73, c61, c62, c51, c84, c74, c75, c63, c64, c85, c76, c77, c65, c86, c78, c79, c80, c66, c87, c81, c82, c67, c68, c52, c40, c24, c31, c42, c26, c44, c29, c28, c14, c7, c15, c8, c30, c16, c9, c32, c17, c10, c3, by simp⟩
theorem fns_ok (f : Nat) (af : AFun) (h : fns f = some af) : chkFun Tryd.prog f af = true := tab_ok _ (look_mem h)
theorem once_ok (f : Nat) (af : AFun) (h : fns f = some af) (ho : af.once = true) : OnceLaw Tryd.prog (fnOf f) := by
  have := List.all_eq_true.mp (by rfl : tab.all (fun p => !p.2.once) = true) _ (look_mem h)
  simp [ho] at this
theorem run_ok (n : Nat) : Sound Tryd.prog (evf fns n) := evf_sound rfl fns_ok once_ok n
end Go.Proofs.YthahhonmkhafkaaDoor.Am
