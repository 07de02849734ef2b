/- Lemmas that the rows' proofs rest on; each states its own conditions. -/
import Derived.Test.YteeofkbhopioiaaGreatDoorOnce
import Derived.Test.YteeofkbhopioiaaGreatDoorMachF
import Derived.Test.YteeofkbhopioiaaGreatDoorProg
import Derived.KernelRfl
namespace Go.Proofs.YteeofkbhopioiaaGreatDoor.Am
open Go
set_option maxRecDepth 100000
def f9_b0:ACode:=(.wrap true [1,3,4,5] [2] [(2,[1,3,4])]
 (.seq (.seq (xR [xM 56 5,xF 57 4 4,xL 58 57,xH 59 58,xA 60 (.bin .lss (.t 56) (.t 59))] [1,3,4,5,60])
 (.cond (.t 60)
 .skip
 (.exit 2)))
 (.seq (.block 3 (.seq (xR [xF 63 4 4,xL 64 63,xM 65 5,xI 66 4 64 65,xF 67 0 66,xL 68 67,xA 69 (.len 1 (.t 68)),xA 70 (.bin .gtr (.t 69) (xi 60)),xM 71 70,xFF 72 4 4 71,xLF 73 72 71,xMF 74 5 71,xIF 75 4 73 74 71,xFF 76 1 75 71,xFF 77 1 76 71,xLF 78 77 71,xAF 79 (.len 1 (.t 78)) 71,xAF 80 (.bin .gtr (.t 79) (xi 60)) 71,xA 81 (.pick (.t 71) xT (.t 80))] [1,3,4,5,81])
 (.cond (.t 81)
 (.seq (xR [xA 2 (.mov .own xT)] [2])
 .ret)
 .skip)))
 (xR [xM 61 5,xA 62 (.bin .add (.t 61) (xi 1)),xM 5 62] [1,3,4,5]))))
def f9_l0:ACode:=.loop f9_b0
theorem u9_l0:LpEq f9_l0 f9_b0:=K_loop
def f9_b1:ACode:=(.wrap true [1,3,4,6] [2] [(4,[1,3,4])]
 (.seq (.seq (xR [xM 82 6,xF 83 3 4,xL 84 83,xH 85 84,xA 86 (.bin .lss (.t 82) (.t 85))] [1,3,4,6,86])
 (.cond (.t 86)
 .skip
 (.exit 4)))
 (.seq (.block 5 (.seq (xR [xF 89 3 4,xL 90 89,xM 91 6,xI 92 1 90 91,xL 93 92,xA 94 (.len 1 (.t 93)),xA 95 (.bin .gtr (.t 94) (xi 60))] [1,3,4,6,95])
 (.cond (.t 95)
 (.seq (xR [xA 2 (.mov .own xT)] [2])
 .ret)
 .skip)))
 (xR [xM 87 6,xA 88 (.bin .add (.t 87) (xi 1)),xM 6 88] [1,3,4,6]))))
def f9_l1:ACode:=.loop f9_b1
theorem u9_l1:LpEq f9_l1 f9_b1:=K_loop
def f9_b2:ACode:=(.wrap true [1,3,4,7,8,9] [2] [(8,[1,3,4,7,8])]
 (.seq (.seq (xR [xM 137 9,xF 138 7 8,xL 139 138,xH 140 139,xA 141 (.bin .lss (.t 137) (.t 140))] [1,3,4,7,8,9,141])
 (.cond (.t 141)
 .skip
 (.exit 8)))
 (.seq (.block 9 (.seq (xR [xF 144 7 8,xL 145 144,xM 146 9,xI 147 4 145 146,xF 148 2 147,xL 149 148,xA 150 (.len 1 (.t 149)),xA 151 (.bin .gtr (.t 150) (xi 60)),xM 152 151,xFF 153 7 8 152,xLF 154 153 152,xMF 155 9 152,xIF 156 4 154 155 152,xFF 157 3 156 152,xLF 158 157 152,xAF 159 (.len 1 (.t 158)) 152,xAF 160 (.bin .gtr (.t 159) (xi 60)) 152,xA 161 (.pick (.t 152) xT (.t 160))] [1,3,4,7,8,9,161])
 (.cond (.t 161)
 (.seq (xR [xA 2 (.mov .own xT)] [2])
 .ret)
 .skip)))
 (xR [xM 142 9,xA 143 (.bin .add (.t 142) (xi 1)),xM 9 143] [1,3,4,7,8,9]))))
def f9_l2:ACode:=.loop f9_b2
theorem u9_l2:LpEq f9_l2 f9_b2:=K_loop
def f9_b3:ACode:=(.wrap true [1,3,4,7,8,10] [2] [(10,[1,3,4,7,8])]
 (.seq (.seq (xR [xM 162 10,xF 163 3 8,xL 164 163,xH 165 164,xA 166 (.bin .lss (.t 162) (.t 165))] [1,3,4,7,8,10,166])
 (.cond (.t 166)
 .skip
 (.exit 10)))
 (.seq (.block 11 (.seq (xR [xF 169 3 8,xL 170 169,xM 171 10,xI 172 2 170 171,xF 173 1 172,xL 174 173,xA 175 (.len 1 (.t 174)),xA 176 (.bin .gtr (.t 175) (xi 60))] [1,3,4,7,8,10,176])
 (.cond (.t 176)
 (.seq (xR [xA 2 (.mov .own xT)] [2])
 .ret)
 .skip)))
 (xR [xM 167 10,xA 168 (.bin .add (.t 167) (xi 1)),xM 10 168] [1,3,4,7,8,10]))))
def f9_l3:ACode:=.loop f9_b3
theorem u9_l3:LpEq f9_l3 f9_b3:=K_loop
def f9_b4:ACode:=(.wrap true [1,3,4,7,8,11] [2] [(12,[1,3,4,7])]
 (.seq (.seq (xR [xM 177 11,xF 178 8 8,xL 179 178,xH 180 179,xA 181 (.bin .lss (.t 177) (.t 180))] [1,3,4,7,8,11,181])
 (.cond (.t 181)
 .skip
 (.exit 12)))
 (.seq (.block 13 (.seq (xR [xF 184 8 8,xL 185 184,xM 186 11,xI 187 4 185 186,xF 188 0 187,xL 189 188,xA 190 (.len 1 (.t 189)),xA 191 (.bin .gtr (.t 190) (xi 60))] [1,3,4,7,8,11,191])
 (.cond (.t 191)
 (.seq (xR [xA 2 (.mov .own xT)] [2])
 .ret)
 .skip)))
 (xR [xM 182 11,xA 183 (.bin .add (.t 182) (xi 1)),xM 11 183] [1,3,4,7,8,11]))))
def f9_l4:ACode:=.loop f9_b4
theorem u9_l4:LpEq f9_l4 f9_b4:=K_loop
def f9_b5:ACode:=(.wrap true [1,3,4,7] [2] [(6,[1,3])]
 (.seq (.seq (xR [xM 96 7,xF 97 5 4,xL 98 97,xH 99 98,xA 100 (.bin .lss (.t 96) (.t 99))] [1,3,4,7,100])
 (.cond (.t 100)
 .skip
 (.exit 6)))
 (.seq (.block 7 (.seq (xR [xF 103 5 4,xL 104 103,xM 105 7,xI 106 9 104 105,xQ 107 9 106,xA 8 (.alloc [xa,xb,xb,(.osl 2 []),xc,xa,xc,(.osl 4 []),(.osl 4 [])]),xS 9 8 107] [1,3,4,7,8])
 (.seq (.seq (xR [xF 108 0 8,xL 109 108,xA 110 (.len 1 (.t 109)),xA 111 (.bin .gtr (.t 110) (xi 60)),xM 112 111,xFF 113 3 8 112,xLF 114 113 112,xAF 115 (.len 0 (.t 114)) 112,xAF 116 (.bin .gtr (.t 115) (xi 10)) 112,xA 117 (.pick (.t 112) xT (.t 116)),xM 118 117,xFF 119 7 8 118,xLF 120 119 118,xAF 121 (.len 0 (.t 120)) 118,xAF 122 (.bin .gtr (.t 121) (xi 60)) 118,xA 123 (.pick (.t 118) xT (.t 122)),xM 124 123,xFF 125 8 8 124,xLF 126 125 124,xAF 127 (.len 0 (.t 126)) 124,xAF 128 (.bin .gtr (.t 127) (xi 10)) 124,xA 129 (.pick (.t 124) xT (.t 128)),xM 130 129,xFF 131 4 8 130,xFF 132 1 131 130,xLF 133 132 130,xAF 134 (.len 1 (.t 133)) 130,xAF 135 (.bin .gtr (.t 134) (xi 60)) 130,xA 136 (.pick (.t 130) xT (.t 135))] [1,3,4,7,8,136])
 (.cond (.t 136)
 (.seq (xR [xA 2 (.mov .own xT)] [2])
 .ret)
 .skip))
 (.seq (.seq (xR [xA 9 (.mov .cp (xi 0))] [1,3,4,7,8,9])
 (.block 8 f9_l2))
 (.seq (.seq (xR [xA 10 (.mov .cp (xi 0))] [1,3,4,7,8,10])
 (.block 10 f9_l3))
 (.seq (xR [xA 11 (.mov .cp (xi 0))] [1,3,4,7,8,11])
 (.block 12 f9_l4)))))))
 (xR [xM 101 7,xA 102 (.bin .add (.t 101) (xi 1)),xM 7 102] [1,3,4,7]))))
def f9_l5:ACode:=.loop f9_b5
theorem u9_l5:LpEq f9_l5 f9_b5:=K_loop
def f9_b6:ACode:=(.wrap true [1,3] [2] [(0,[])]
 (.seq (.seq (xR [xM 16 3,xF 17 0 1,xL 18 17,xH 19 18,xA 20 (.bin .lss (.t 16) (.t 19))] [1,3,20])
 (.cond (.t 20)
 .skip
 (.exit 0)))
 (.seq (.block 1 (.seq (xR [xF 23 0 1,xL 24 23,xM 25 3,xI 26 6 24 25,xQ 27 6 26,xA 4 (.alloc [xa,xb,xa,(.osl 1 []),(.osl 4 []),(.osl 9 [])]),xS 6 4 27] [1,3,4])
 (.seq (.seq (xR [xF 28 4 4,xL 29 28,xH 30 29,xA 31 (.bin .gtr (.t 30) (xi 14)),xM 32 31,xFF 33 5 4 32,xLF 34 33 32,xAF 35 (.len 0 (.t 34)) 32,xAF 36 (.bin .gtr (.t 35) (xi 14)) 32,xA 37 (.pick (.t 32) xT (.t 36)),xM 38 37,xFF 39 3 4 38,xLF 40 39 38,xAF 41 (.len 0 (.t 40)) 38,xAF 42 (.bin .gtr (.t 41) (xi 10)) 38,xA 43 (.pick (.t 38) xT (.t 42)),xM 44 43,xFF 45 0 4 44,xLF 46 45 44,xAF 47 (.len 1 (.t 46)) 44,xAF 48 (.bin .gtr (.t 47) (xi 60)) 44,xA 49 (.pick (.t 44) xT (.t 48)),xM 50 49,xFF 51 2 4 50,xLF 52 51 50,xAF 53 (.len 1 (.t 52)) 50,xAF 54 (.bin .gtr (.t 53) (xi 60)) 50,xA 55 (.pick (.t 50) xT (.t 54))] [1,3,4,55])
 (.cond (.t 55)
 (.seq (xR [xA 2 (.mov .own xT)] [2])
 .ret)
 .skip))
 (.seq (.seq (xR [xA 5 (.mov .cp (xi 0))] [1,3,4,5])
 (.block 2 f9_l0))
 (.seq (.seq (xR [xA 6 (.mov .cp (xi 0))] [1,3,4,6])
 (.block 4 f9_l1))
 (.seq (xR [xA 7 (.mov .cp (xi 0))] [1,3,4,7])
 (.block 6 f9_l5)))))))
 (xR [xM 21 3,xA 22 (.bin .add (.t 21) (xi 1)),xM 3 22] [1,3]))))
def f9_l6:ACode:=.loop f9_b6
theorem u9_l6:LpEq f9_l6 f9_b6:=K_loop
def f9:AFun:=⟨1,
 (.seq (xR [xB 1 0,xA 2 (.mov .own xU)] [1])
 (.seq (.seq (xR [xF 12 0 1,xL 13 12,xH 14 13,xA 15 (.bin .gtr (.t 14) (xi 14))] [1,15])
 (.cond (.t 15)
 (.seq (xR [xA 2 (.mov .own xT)] [2])
 .ret)
 .skip))
 (.seq (.seq (xR [xA 3 (.mov .cp (xi 0))] [1,3])
 (.block 0 f9_l6))
 (.seq (xR [xA 2 (.mov .own xU)] [2])
 .ret)))),[(.tmp 2)],.pure,false,false⟩
def f25:AFun:=⟨1,
 (.seq (xR [xB 1 0,xA 2 (.mov .own (.k (.c (.b .nilp))))] [1])
 (.seq (xR [xQ 3 1 1,xA 4 (.build [(.b (.d (.int .u32 0))),(.b (.d (.int .i32 0))),(.b (.d (.int .u32 0))),(.osl 6 []),(.b .nilp),xc,(.b .nilm),(.b .nilm),(.osl 4 []),(.b .nilm),(.b .nilm)] [(3,1,(.t 3))]),xB 5 4,xO 2 5] [2])
 .ret)),[(.tmp 2)],.free,false,false⟩
def f72:AFun:=⟨2,.skip,[],.free,false,true⟩
def f84_b0:ACode:=(.wrap true [0,1,7,8] [4] [(0,[])]
 (.seq (xR [xA 9 (.bin .lss (.t 8) (.t 7))] [0,1,7,8,9])
 (.seq (.cond (.t 9)
 .skip
 (.exit 0))
 (.seq (.block 1 (.seq (xR [xO 10 8,xO 5 10] [0,1,5,7,8])
 (.seq (xR [xM 11 1,xM 12 0,xM 13 5,xI 14 6 12 13,xQ 15 6 14,xA 16 (.callv (.t 11) [(.t 15)])] [0,1,5,7,8,16])
 (.cond (.t 16)
 (.seq (xR [xO 17 5,xO 4 17] [4])
 .ret)
 .skip))))
 (xR [xA 18 (.bin .add (.t 8) (xi 1)),xO 8 18] [0,1,7,8])))))
def f84_l0:ACode:=.loop f84_b0
theorem u84_l0:LpEq f84_l0 f84_b0:=K_loop
def f84:AFun:=⟨2,
 (.seq (xR [xA 4 (.mov .own (xi 0))] [0,1])
 (.seq (.seq (xR [xM 6 0,xH 7 6,xA 8 (.mov .own (xi 0))] [0,1,7,8])
 (.block 0 f84_l0))
 (.seq (xR [xA 4 (.mov .own (xi (-1)))] [4])
 .ret))),[(.tmp 4)],.pure,false,false⟩
def f67:AFun:=⟨2,
 (.seq (xR [xA 4 (.mov .own xU)] [0,1])
 (.seq (xR [xM 5 0,xM 6 1,xA 7 (.call 84 [(.t 5),(.t 6)]),xA 8 (.bin .geq (.t 7) (xi 0)),xO 4 8] [4])
 .ret)),[(.tmp 4)],.pure,false,false⟩
def f102:AFun:=⟨2,
 (.seq (xR [xB 2 0,xA 3 (.mov .own xU)] [1,2])
 (.seq (xR [xL 4 1,xQ 5 6 2,xA 6 (.callv (.t 4) [(.t 5)]),xN 7 6,xO 3 7] [3])
 .ret)),[(.tmp 3)],.pure,false,false⟩
def f81:AFun:=⟨3,
 (.seq (xR [xB 5 2,xA 6 (.mov .own xU)] [0,1,5])
 (.seq (xR [xM 7 0,xH 8 7,xM 9 1,xA 10 (.bin .leq (.t 8) (.t 9)),xM 11 10,xMT 12 0 11,xAT 13 (.mkf 102 [] [(.t 5)]) 11,xAT 14 (.call 67 [(.t 12),(.t 13)]) 11,xNT 15 14 11,xA 16 (.pick (.t 11) (.t 15) xU),xO 6 16] [6])
 .ret)),[(.tmp 6)],.pure,false,false⟩
def f155:AFun:=⟨1,
 (.seq (xR [xA 2 (.mov .own xU)] [0])
 (.seq (xR [xM 3 0,xA 4 (.bin .geq (.t 3) (.k (.c (.b (.d (.int .u8 97)))))),xM 5 4,xMT 6 0 5,xAT 7 (.bin .leq (.t 6) (.k (.c (.b (.d (.int .u8 122)))))) 5,xA 8 (.pick (.t 5) (.t 7) xU),xM 9 8,xMF 10 0 9,xAF 11 (.bin .geq (.t 10) (.k (.c (.b (.d (.int .u8 65)))))) 9,xMF 12 11 9,xMT 13 0 12,xAT 14 (.bin .leq (.t 13) (.k (.c (.b (.d (.int .u8 90)))))) 12,xAF 15 (.pick (.t 12) (.t 14) xU) 9,xA 16 (.pick (.t 9) xT (.t 15)),xM 17 16,xMF 18 0 17,xAF 19 (.bin .eql (.t 18) (.k (.c (.b (.d (.int .u8 95)))))) 17,xA 20 (.pick (.t 17) xT (.t 19)),xO 2 20] [2])
 .ret)),[(.tmp 2)],.pure,false,false⟩
def f156:AFun:=⟨1,
 (.seq (xR [xA 2 (.mov .own xU)] [0])
 (.seq (xR [xM 3 0,xA 4 (.bin .geq (.t 3) (.k (.c (.b (.d (.int .u8 48)))))),xM 5 4,xMT 6 0 5,xAT 7 (.bin .leq (.t 6) (.k (.c (.b (.d (.int .u8 57)))))) 5,xA 8 (.pick (.t 5) (.t 7) xU),xO 2 8] [2])
 .ret)),[(.tmp 2)],.pure,false,false⟩
def f129_b0:ACode:=(.wrap true [0,18,19] [2] [(0,[])]
 (.seq (xR [xA 20 (.bin .lss (.t 19) (.t 18))] [0,18,19,20])
 (.seq (.cond (.t 20)
 .skip
 (.exit 0))
 (.seq (.block 1 (.seq (xR [xM 21 19,xM 3 21] [0,3,18,19])
 (.seq (xR [xM 22 0,xM 23 3,xA 24 (.ixs (.t 22) (.t 23)),xA 25 (.callb 155 [(.t 24)]),xN 26 25,xM 27 26,xMT 28 0 27,xMT 29 3 27,xAT 30 (.ixs (.t 28) (.t 29)) 27,xAT 31 (.callb 156 [(.t 30)]) 27,xNT 32 31 27,xA 33 (.pick (.t 27) (.t 32) xU)] [0,18,19,33])
 (.cond (.t 33)
 (.seq (xR [xA 2 (.mov .own xU)] [2])
 .ret)
 .skip))))
 (xR [xA 34 (.bin .add (.t 19) (xi 1)),xM 19 34] [0,18,19])))))
def f129_l0:ACode:=.loop f129_b0
theorem u129_l0:LpEq f129_l0 f129_b0:=K_loop
def f129:AFun:=⟨1,
 (.seq (xR [xA 2 (.mov .own xU)] [0])
 (.seq (.seq (xR [xM 4 0,xA 5 (.bin .eql (.t 4) (xs ⟨#[]⟩)),xM 6 5,xMF 7 0 6,xAF 8 (.len 1 (.t 7)) 6,xAF 9 (.bin .gtr (.t 8) (xi 20)) 6,xA 10 (.pick (.t 6) xT (.t 9)),xM 11 10,xMF 12 0 11,xAF 13 (.ixs (.t 12) (xi 0)) 11,xAF 14 (.callb 155 [(.t 13)]) 11,xNF 15 14 11,xA 16 (.pick (.t 11) xT (.t 15))] [0,16])
 (.cond (.t 16)
 (.seq (xR [xA 2 (.mov .own xU)] [2])
 .ret)
 .skip))
 (.seq (.seq (xR [xM 17 0,xA 18 (.len 1 (.t 17)),xA 19 (.mov .cp (xi 0))] [0,18,19])
 (.block 0 f129_l0))
 (.seq (xR [xA 2 (.mov .own xT)] [2])
 .ret)))),[(.tmp 2)],.pure,false,false⟩
def f54_b0:ACode:=(.wrap true [0,1,7,8] [4] [(0,[])]
 (.seq (xR [xA 9 (.bin .lss (.t 8) (.t 7))] [0,1,7,8,9])
 (.seq (.cond (.t 9)
 .skip
 (.exit 0))
 (.seq (.block 1 (.seq (xR [xO 10 8,xO 5 10] [0,1,5,7,8])
 (.seq (xR [xM 11 1,xM 12 0,xM 13 5,xI 14 1 12 13,xL 15 14,xA 16 (.bin .eql (.t 11) (.t 15))] [0,1,5,7,8,16])
 (.cond (.t 16)
 (.seq (xR [xO 17 5,xO 4 17] [4])
 .ret)
 .skip))))
 (xR [xA 18 (.bin .add (.t 8) (xi 1)),xO 8 18] [0,1,7,8])))))
def f54_l0:ACode:=.loop f54_b0
theorem u54_l0:LpEq f54_l0 f54_b0:=K_loop
def f54:AFun:=⟨2,
 (.seq (xR [xA 4 (.mov .own (xi 0))] [0,1])
 (.seq (.seq (xR [xM 6 0,xH 7 6,xA 8 (.mov .own (xi 0))] [0,1,7,8])
 (.block 0 f54_l0))
 (.seq (xR [xA 4 (.mov .own (xi (-1)))] [4])
 .ret))),[(.tmp 4)],.pure,false,false⟩
def f33:AFun:=⟨2,
 (.seq (xR [xA 4 (.mov .own xU)] [0,1])
 (.seq (xR [xM 5 0,xM 6 1,xA 7 (.callb 54 [(.t 5),(.t 6)]),xA 8 (.bin .geq (.t 7) (xi 0)),xO 4 8] [4])
 .ret)),[(.tmp 4)],.pure,false,false⟩
def f109_b0:ACode:=(.wrap true [0,1,5,6,14] [4] [(0,[0,5,6])]
 (.seq (xR [xA 15 (.bad),xE 16 0 15] [0,1,5,6,14,15,16])
 (.seq (.cond (.t 16)
 .skip
 (.exit 0))
 (.block 1 (.seq (xR [xE 17 1 15,xE 18 2 15,xM 7 17,xM 8 18] [0,1,5,6,7,8,14])
 (.seq (xR [xM 19 1,xM 20 8,xA 21 (.callv (.t 19) [(.t 20)])] [0,1,5,6,7,14,21])
 (.cond (.t 21)
 (.seq (xR [xM 22 6,xA 23 (.bin .geq (.t 22) (xi 0))] [0,1,5,6,7,14,23])
 (.cond (.t 23)
 (.seq (xR [xO 24 5,xM 25 6,xM 26 7,xA 27 (.build [xc,xc] [(0,1,(.t 25)),(1,1,(.t 26))]),xA 28 (.bsl .own 2 1 [xc,xc] [(0,(.t 27))]),xA 29 (.app 2 16 (.t 24) (.t 28)),xO 5 29] [0,1,5,6,14])
 (xR [xM 30 6,xA 31 (.un .xor (.t 30)),xM 6 31] [0,1,5,6,14]))
 .skip))
 (.seq (xR [xM 32 6,xA 33 (.bin .lss (.t 32) (xi 0))] [0,1,5,6,7,14,33])
 (.cond (.t 33)
 (xR [xM 34 7,xM 6 34] [0,1,5,6,14])
 .skip)))))))))
def f109_l0:ACode:=.loop f109_b0
def f109_b1:ACode:=(.wrap true [0,9,47,48,49] [4] [(2,[9])]
 (.seq (xR [xA 50 (.bin .lss (.t 49) (.t 48))] [0,9,47,48,49,50])
 (.seq (.cond (.t 50)
 .skip
 (.exit 2))
 (.seq (.block 3 (.seq (xR [xM 51 49,xI 52 2 47 49,xQ 53 2 52,xA 11 (.alloc [xc,xc]),xM 10 51,xS 2 11 53] [0,9,10,11,47,48,49])
 (xR [xM 54 9,xM 55 10,xM 56 0,xF 57 0 11,xL 58 57,xF 59 1 11,xL 60 59,xA 61 (.slcs (.t 56) (some (.t 58)) (some (.t 60))),xI 62 1 54 55,xS 1 62 61] [0,9,47,48,49])))
 (xR [xA 63 (.bin .add (.t 49) (xi 1)),xM 49 63] [0,9,47,48,49])))))
def f109_l1:ACode:=.loop f109_b1
def f109:AFun:=⟨2,
 (.seq (xR [xA 4 (.mov .own (.k (.c (.osl 1 []))))] [0,1])
 (.seq (xR [xA 12 (.mks .own 2 16 [xc,xc] (xi 0) (xi 32)),xO 5 12] [0,1,5])
 (.seq (xR [xA 6 (.mov .cp (xi (-1)))] [0,1,5,6])
 (.seq (.seq (xR [xM 13 0,xA 14 (.bad)] [0,1,5,6,14])
 (.block 0 f109_l0))
 (.seq (.seq (xR [xM 35 6,xA 36 (.bin .geq (.t 35) (xi 0))] [0,5,6,36])
 (.cond (.t 36)
 (xR [xO 37 5,xM 38 6,xM 39 0,xA 40 (.len 1 (.t 39)),xA 41 (.build [xc,xc] [(0,1,(.t 38)),(1,1,(.t 40))]),xA 42 (.bsl .own 2 1 [xc,xc] [(0,(.t 41))]),xA 43 (.app 2 16 (.t 37) (.t 42)),xO 5 43] [0,5])
 .skip))
 (.seq (xR [xM 44 5,xH 45 44,xA 46 (.mks .own 1 16 [xa] (.t 45) (.t 45)),xO 9 46] [0,5,9])
 (.seq (.seq (xR [xM 47 5,xH 48 47,xA 49 (.mov .cp (xi 0))] [0,9,47,48,49])
 (.block 2 f109_l1))
 (.seq (xR [xO 64 9,xO 4 64] [4])
 .ret)))))))),[(.tmp 4)],.pure,false,false⟩
def f167_b0:ACode:=(.wrap true [0,1,19,20] [4] [(0,[])]
 (.seq (xR [xA 21 (.bin .lss (.t 20) (.t 19))] [0,1,19,20,21])
 (.seq (.cond (.t 21)
 .skip
 (.exit 0))
 (.seq (.block 1 (.seq (xR [xM 22 20,xM 5 22] [0,1,5,19,20])
 (.seq (xR [xM 23 0,xM 24 5,xI 25 3 23 24,xM 6 25] [0,1,6,19,20])
 (.seq (.seq (xR [xM 26 1,xM 27 6,xA 28 (.nilc (.t 27)),xF 29 0 28,xL 30 29,xA 31 (.bin .lss (.t 26) (.t 30))] [0,1,6,19,20,31])
 (.cond (.t 31)
 (.seq (xR [xA 4 (.mov .own xU)] [4])
 .ret)
 .skip))
 (.seq (xR [xM 32 1,xM 33 6,xA 34 (.nilc (.t 33)),xF 35 1 34,xL 36 35,xA 37 (.bin .leq (.t 32) (.t 36))] [0,1,6,19,20,37])
 (.cond (.t 37)
 (.seq (xG [xM 38 6,xA 39 (.nilc (.t 38)),xF 40 2 39,xL 41 40,xA 42 (.bin .eql (.t 41) (.k (.c (.b (.d (.int .u16 1)))))),xM 43 42,xMF 44 1 43,xMF 45 6 43,xAF 46 (.nilc (.t 45)) 43,xFF 47 0 46 43,xLF 48 47 43,xAF 49 (.bin .sub (.t 44) (.t 48)) 43,xMF 50 6 43,xAF 51 (.nilc (.t 50)) 43,xFF 52 2 51 43,xLF 53 52 43,xAF 54 (.bin .rem (.t 49) (.t 53)) 43,xAF 55 (.bin .eql (.t 54) (.k (.c (.b (.d (.int .u16 0)))))) 43,xA 56 (.pick (.t 43) xT (.t 55)),xM 4 56] [4])
 .ret)
 .skip))))))
 (xR [xA 57 (.bin .add (.t 20) (xi 1)),xM 20 57] [0,1,19,20])))))
def f167_l0:ACode:=.loop f167_b0
def f167_b1:ACode:=(.wrap true [0,1,7,8] [4] [(2,[])]
 (.seq (.seq (xR [xM 60 7,xM 61 8,xA 62 (.bin .lss (.t 60) (.t 61))] [0,1,7,8,62])
 (.cond (.t 62)
 .skip
 (.exit 2)))
 (.block 3 (.seq (xR [xM 63 7,xM 64 8,xA 65 (.bin .add (.t 63) (.t 64)),xA 66 (.conv .u64 (.t 65)),xA 67 (.bin .shr (.t 66) (.k (.c (.b (.d (.int .u64 1)))))),xA 68 (.conv .i64 (.t 67)),xM 9 68] [0,1,7,8,9])
 (.seq (xR [xM 69 0,xM 70 9,xI 71 3 69 70,xM 10 71] [0,1,7,8,9,10])
 (.seq (.seq (xR [xM 72 10,xA 73 (.nilc (.t 72)),xF 74 0 73,xL 75 74,xM 76 1,xA 77 (.bin .leq (.t 75) (.t 76)),xM 78 77,xMT 79 1 78,xMT 80 10 78,xAT 81 (.nilc (.t 80)) 78,xFT 82 1 81 78,xLT 83 82 78,xAT 84 (.bin .leq (.t 79) (.t 83)) 78,xA 85 (.pick (.t 78) (.t 84) xU)] [0,1,7,8,9,10,85])
 (.cond (.t 85)
 (.seq (xG [xM 86 10,xA 87 (.nilc (.t 86)),xF 88 2 87,xL 89 88,xA 90 (.bin .eql (.t 89) (.k (.c (.b (.d (.int .u16 1)))))),xM 91 90,xMF 92 1 91,xMF 93 10 91,xAF 94 (.nilc (.t 93)) 91,xFF 95 0 94 91,xLF 96 95 91,xAF 97 (.bin .sub (.t 92) (.t 96)) 91,xMF 98 10 91,xAF 99 (.nilc (.t 98)) 91,xFF 100 2 99 91,xLF 101 100 91,xAF 102 (.bin .rem (.t 97) (.t 101)) 91,xAF 103 (.bin .eql (.t 102) (.k (.c (.b (.d (.int .u16 0)))))) 91,xA 104 (.pick (.t 91) xT (.t 103)),xM 4 104] [4])
 .ret)
 .skip))
 (.seq (xR [xM 105 1,xM 106 10,xA 107 (.nilc (.t 106)),xF 108 0 107,xL 109 108,xA 110 (.bin .lss (.t 105) (.t 109))] [0,1,7,8,9,110])
 (.cond (.t 110)
 (xR [xM 111 9,xM 8 111] [0,1,7,8])
 (xR [xM 112 9,xA 113 (.bin .add (.t 112) (xi 1)),xM 7 113] [0,1,7,8])))))))))
def f167_l1:ACode:=.loop f167_b1
def f167:AFun:=⟨2,
 (.seq (xR [xA 4 (.mov .own xU)] [0,1])
 (.seq (.seq (xR [xM 11 0,xH 12 11,xA 13 (.bin .leq (.t 12) (xi 18)),xM 14 13,xMF 15 1 14,xAF 16 (.bin .leq (.t 15) (.k (.c (.b (.d (.int .u16 255)))))) 14,xA 17 (.pick (.t 14) xT (.t 16))] [0,1,17])
 (.cond (.t 17)
 (.seq (.seq (xR [xM 18 0,xH 19 18,xA 20 (.mov .cp (xi 0))] [0,1,19,20])
 (.block 0 f167_l0))
 (.seq (xR [xA 4 (.mov .own xU)] [4])
 .ret))
 .skip))
 (.seq (xR [xA 7 (.mov .cp (xi 0))] [0,1,7])
 (.seq (xR [xM 58 0,xH 59 58,xM 8 59] [0,1,7,8])
 (.seq (.block 2 f167_l1)
 (.seq (xR [xA 4 (.mov .own xU)] [4])
 .ret)))))),[(.tmp 4)],.pure,false,false⟩
def f168_b0:ACode:=(.wrap true [0,1,15,16] [4] [(0,[])]
 (.seq (xR [xA 17 (.bin .lss (.t 16) (.t 15))] [0,1,15,16,17])
 (.seq (.cond (.t 17)
 .skip
 (.exit 0))
 (.seq (.block 1 (.seq (xR [xM 18 16,xM 5 18] [0,1,5,15,16])
 (.seq (xR [xM 19 0,xM 20 5,xI 21 3 19 20,xM 6 21] [0,1,6,15,16])
 (.seq (.seq (xR [xM 22 1,xM 23 6,xA 24 (.nilc (.t 23)),xF 25 0 24,xL 26 25,xA 27 (.bin .lss (.t 22) (.t 26))] [0,1,6,15,16,27])
 (.cond (.t 27)
 (.seq (xR [xA 4 (.mov .own xU)] [4])
 .ret)
 .skip))
 (.seq (xR [xM 28 1,xM 29 6,xA 30 (.nilc (.t 29)),xF 31 1 30,xL 32 31,xA 33 (.bin .leq (.t 28) (.t 32))] [0,1,6,15,16,33])
 (.cond (.t 33)
 (.seq (xG [xM 34 6,xA 35 (.nilc (.t 34)),xF 36 2 35,xL 37 36,xA 38 (.bin .eql (.t 37) (.k (.c (.b (.d (.int .u32 1)))))),xM 39 38,xMF 40 1 39,xMF 41 6 39,xAF 42 (.nilc (.t 41)) 39,xFF 43 0 42 39,xLF 44 43 39,xAF 45 (.bin .sub (.t 40) (.t 44)) 39,xMF 46 6 39,xAF 47 (.nilc (.t 46)) 39,xFF 48 2 47 39,xLF 49 48 39,xAF 50 (.bin .rem (.t 45) (.t 49)) 39,xAF 51 (.bin .eql (.t 50) (.k (.c (.b (.d (.int .u32 0)))))) 39,xA 52 (.pick (.t 39) xT (.t 51)),xM 4 52] [4])
 .ret)
 .skip))))))
 (xR [xA 53 (.bin .add (.t 16) (xi 1)),xM 16 53] [0,1,15,16])))))
def f168_l0:ACode:=.loop f168_b0
def f168_b1:ACode:=(.wrap true [0,1,7,8] [4] [(2,[])]
 (.seq (.seq (xR [xM 56 7,xM 57 8,xA 58 (.bin .lss (.t 56) (.t 57))] [0,1,7,8,58])
 (.cond (.t 58)
 .skip
 (.exit 2)))
 (.block 3 (.seq (xR [xM 59 7,xM 60 8,xA 61 (.bin .add (.t 59) (.t 60)),xA 62 (.conv .u64 (.t 61)),xA 63 (.bin .shr (.t 62) (.k (.c (.b (.d (.int .u64 1)))))),xA 64 (.conv .i64 (.t 63)),xM 9 64] [0,1,7,8,9])
 (.seq (xR [xM 65 0,xM 66 9,xI 67 3 65 66,xQ 68 3 67,xA 10 (.alloc [(.b (.d (.int .u32 0))),(.b (.d (.int .u32 0))),(.b (.d (.int .u32 0)))]),xS 3 10 68] [0,1,7,8,9,10])
 (.seq (.seq (xR [xF 69 0 10,xL 70 69,xM 71 1,xA 72 (.bin .leq (.t 70) (.t 71)),xM 73 72,xMT 74 1 73,xFT 75 1 10 73,xLT 76 75 73,xAT 77 (.bin .leq (.t 74) (.t 76)) 73,xA 78 (.pick (.t 73) (.t 77) xU)] [0,1,7,8,9,10,78])
 (.cond (.t 78)
 (.seq (xR [xF 79 2 10,xL 80 79,xA 81 (.bin .eql (.t 80) (.k (.c (.b (.d (.int .u32 1)))))),xM 82 81,xMF 83 1 82,xFF 84 0 10 82,xLF 85 84 82,xAF 86 (.bin .sub (.t 83) (.t 85)) 82,xFF 87 2 10 82,xLF 88 87 82,xAF 89 (.bin .rem (.t 86) (.t 88)) 82,xAF 90 (.bin .eql (.t 89) (.k (.c (.b (.d (.int .u32 0)))))) 82,xA 91 (.pick (.t 82) xT (.t 90)),xO 4 91] [4])
 .ret)
 .skip))
 (.seq (xR [xM 92 1,xF 93 0 10,xL 94 93,xA 95 (.bin .lss (.t 92) (.t 94))] [0,1,7,8,9,95])
 (.cond (.t 95)
 (xR [xM 96 9,xM 8 96] [0,1,7,8])
 (xR [xM 97 9,xA 98 (.bin .add (.t 97) (xi 1)),xM 7 98] [0,1,7,8])))))))))
def f168_l1:ACode:=.loop f168_b1
def f168:AFun:=⟨2,
 (.seq (xR [xA 4 (.mov .own xU)] [0,1])
 (.seq (.seq (xR [xM 11 0,xH 12 11,xA 13 (.bin .leq (.t 12) (xi 18))] [0,1,13])
 (.cond (.t 13)
 (.seq (.seq (xR [xM 14 0,xH 15 14,xA 16 (.mov .cp (xi 0))] [0,1,15,16])
 (.block 0 f168_l0))
 (.seq (xR [xA 4 (.mov .own xU)] [4])
 .ret))
 .skip))
 (.seq (xR [xA 7 (.mov .cp (xi 0))] [0,1,7])
 (.seq (xR [xM 54 0,xH 55 54,xM 8 55] [0,1,7,8])
 (.seq (.block 2 f168_l1)
 (.seq (xR [xA 4 (.mov .own xU)] [4])
 .ret)))))),[(.tmp 4)],.pure,false,false⟩
def f143:AFun:=⟨2,
 (.seq (xR [xA 4 (.mov .own xU)] [0,1])
 (.seq (xR [xM 8 0,xA 9 (.nilc (.t 8)),xF 10 0 9,xL 11 10,xM 5 11] [0,1,5])
 (.seq (.seq (xR [xM 12 0,xA 13 (.nilc (.t 12)),xF 14 2 13,xL 15 14,xM 6 15] [0,1,5,6])
 (.seq (xR [xM 16 5,xH 17 16,xM 18 6,xA 19 (.bin .gtr (.t 17) (.t 18)),xM 20 19,xMT 21 1 20,xAT 22 (.conv .u32 (.t 21)) 20,xMT 23 5 20,xMT 24 5 20,xAT 25 (.len 0 (.t 24)) 20,xAT 26 (.bin .sub (.t 25) (xi 1)) 20,xIT 27 3 23 26 20,xFT 28 1 27 20,xLT 29 28 20,xAT 30 (.conv .u32 (.t 29)) 20,xAT 31 (.bin .leq (.t 22) (.t 30)) 20,xA 32 (.pick (.t 20) (.t 31) xU)] [0,1,5,6,32])
 (.cond (.t 32)
 (.seq (xR [xM 33 5,xM 34 6,xA 35 (.slc .cp 3 (.t 33) (some (.t 34)) none),xM 36 1,xA 37 (.conv .u16 (.t 36)),xA 38 (.callb 167 [(.t 35),(.t 37)]),xO 4 38] [4])
 .ret)
 .skip)))
 (.seq (xR [xM 39 0,xA 40 (.nilc (.t 39)),xF 41 1 40,xL 42 41,xM 7 42] [1,7])
 (.seq (.seq (xR [xM 43 7,xH 44 43,xA 45 (.bin .gtr (.t 44) (xi 0)),xM 46 45,xMT 47 1 46,xMT 48 7 46,xAT 49 (.ia 3 (.t 48) (xi 0)) 46,xFT 50 0 49 46,xLT 51 50 46,xAT 52 (.conv .i32 (.t 51)) 46,xAT 53 (.bin .geq (.t 47) (.t 52)) 46,xA 54 (.pick (.t 46) (.t 53) xU)] [1,7,54])
 (.cond (.t 54)
 (.seq (xR [xM 55 7,xM 56 1,xA 57 (.conv .u32 (.t 56)),xA 58 (.callb 168 [(.t 55),(.t 57)]),xO 4 58] [4])
 .ret)
 .skip))
 (.seq (xR [xA 4 (.mov .own xU)] [4])
 .ret)))))),[(.tmp 4)],.pure,false,false⟩
def f110:AFun:=⟨1,
 (.seq (xR [xA 2 (.mov .own xU)] [0])
 (.seq (.seq (xR [xM 3 0,xA 4 (.conv .u32 (.t 3)),xA 5 (.bin .leq (.t 4) (.k (.c (.b (.d (.int .u32 255))))))] [0,5])
 (.cond (.t 5)
 (.seq (.seq (xR [xM 6 0] [6])
 (.block 0 (.seq (.seq (xR [xA 8 (.bin .eql (.t 6) (.k (.c (.b (.d (.int .i32 9)))))),xM 7 8] [6,7])
 (.cond (.t 7)
 .skip
 (.seq (xR [xA 9 (.bin .eql (.t 6) (.k (.c (.b (.d (.int .i32 10)))))),xM 7 9] [6,7])
 (.cond (.t 7)
 .skip
 (.seq (xR [xA 10 (.bin .eql (.t 6) (.k (.c (.b (.d (.int .i32 11)))))),xM 7 10] [6,7])
 (.cond (.t 7)
 .skip
 (.seq (xR [xA 11 (.bin .eql (.t 6) (.k (.c (.b (.d (.int .i32 12)))))),xM 7 11] [6,7])
 (.cond (.t 7)
 .skip
 (.seq (xR [xA 12 (.bin .eql (.t 6) (.k (.c (.b (.d (.int .i32 13)))))),xM 7 12] [6,7])
 (.cond (.t 7)
 .skip
 (.seq (xR [xA 13 (.bin .eql (.t 6) (.k (.c (.b (.d (.int .i32 32)))))),xM 7 13] [6,7])
 (.cond (.t 7)
 .skip
 (.seq (xR [xA 14 (.bin .eql (.t 6) (.k (.c (.b (.d (.int .i32 133)))))),xM 7 14] [6,7])
 (.cond (.t 7)
 .skip
 (xR [xA 15 (.bin .eql (.t 6) (.k (.c (.b (.d (.int .i32 160)))))),xM 7 15] [7])))))))))))))))
 (.cond (.t 7)
 (.seq (xR [xA 2 (.mov .own xT)] [2])
 .ret)
 .skip))))
 (.seq (xR [xA 2 (.mov .own xU)] [2])
 .ret))
 .skip))
 (.seq (xR [xA 16 (.bad),xM 17 0,xA 18 (.call 143 [(.t 16),(.t 17)]),xO 2 18] [2])
 .ret))),[(.tmp 2)],.pure,false,false⟩
def f83_b0:ACode:=(.wrap true [0,3,4,5,6] [2] [(0,[0,3,5])]
 (.seq (.seq (xR [xM 13 6,xM 14 0,xA 15 (.len 1 (.t 14)),xA 16 (.bin .lss (.t 13) (.t 15))] [0,3,4,5,6,16])
 (.cond (.t 16)
 .skip
 (.exit 0)))
 (.seq (.block 1 (.seq (xR [xM 19 0,xM 20 6,xA 21 (.ixs (.t 19) (.t 20)),xM 7 21] [0,3,4,5,6,7])
 (.seq (xR [xM 22 5,xM 23 7,xA 24 (.bin .or (.t 22) (.t 23)),xM 5 24] [0,3,4,5,6,7])
 (.seq (xR [xM 25 7,xA 26 (.ga 0 1 (.t 25)),xL 27 26,xA 28 (.conv .i64 (.t 27)),xM 8 28] [0,3,4,5,6,8])
 (.seq (xR [xM 29 3,xM 30 4,xM 31 8,xA 32 (.un .xor (.t 31)),xA 33 (.bin .and (.t 30) (.t 32)),xA 34 (.bin .add (.t 29) (.t 33)),xM 3 34] [0,3,5,6,8])
 (xR [xM 35 8,xM 4 35] [0,3,4,5,6]))))))
 (xR [xM 17 6,xA 18 (.bin .add (.t 17) (xi 1)),xM 6 18] [0,3,4,5,6]))))
def f83_l0:ACode:=.loop f83_b0
def f83_b1:ACode:=(.wrap true [0,9,10,12] [2] [(2,[0,9,10,12])]
 (.seq (.seq (xR [xM 42 12,xM 43 0,xA 44 (.len 1 (.t 43)),xA 45 (.bin .lss (.t 42) (.t 44)),xM 46 45,xMT 47 0 46,xMT 48 12 46,xAT 49 (.ixs (.t 47) (.t 48)) 46,xAT 50 (.ga 0 1 (.t 49)) 46,xLT 51 50 46,xAT 52 (.bin .neq (.t 51) (.k (.c (.b (.d (.int .u8 0)))))) 46,xA 53 (.pick (.t 46) (.t 52) xU)] [0,9,10,12,53])
 (.cond (.t 53)
 .skip
 (.exit 2)))
 (.block 3 (xR [xM 54 12,xA 55 (.bin .add (.t 54) (xi 1)),xM 12 55] [0,9,10,12]))))
def f83_l1:ACode:=.loop f83_b1
def f83_b2:ACode:=(.wrap true [0,9,10,12] [2] [(6,[0,9,10,12])]
 (.seq (.seq (xR [xM 80 12,xM 81 0,xA 82 (.len 1 (.t 81)),xA 83 (.bin .lss (.t 80) (.t 82)),xM 84 83,xMT 85 0 84,xMT 86 12 84,xAT 87 (.ixs (.t 85) (.t 86)) 84,xAT 88 (.ga 0 1 (.t 87)) 84,xLT 89 88 84,xAT 90 (.bin .neq (.t 89) (.k (.c (.b (.d (.int .u8 0)))))) 84,xA 91 (.pick (.t 84) (.t 90) xU)] [0,9,10,12,91])
 (.cond (.t 91)
 .skip
 (.exit 6)))
 (.block 7 (xR [xM 92 12,xA 93 (.bin .add (.t 92) (xi 1)),xM 12 93] [0,9,10,12]))))
def f83_l2:ACode:=.loop f83_b2
def f83_b3:ACode:=(.wrap true [0,9,10,11,12] [2] [(4,[0,9,10,11])]
 (.seq (.seq (xR [xM 57 12,xM 58 0,xA 59 (.len 1 (.t 58)),xA 60 (.bin .lss (.t 57) (.t 59))] [0,9,10,11,12,60])
 (.cond (.t 60)
 .skip
 (.exit 4)))
 (.block 5 (.seq (.seq (xR [xM 61 0,xM 62 12,xA 63 (.ixs (.t 61) (.t 62)),xA 64 (.ga 0 1 (.t 63)),xL 65 64,xA 66 (.bin .eql (.t 65) (.k (.c (.b (.d (.int .u8 0))))))] [0,9,10,11,12,66])
 (.cond (.t 66)
 (.seq (xR [xM 67 12,xA 68 (.bin .add (.t 67) (xi 1)),xM 12 68] [0,9,10,11,12])
 (.exit 5))
 .skip))
 (.seq (xR [xM 69 9,xM 70 10,xM 71 0,xM 72 11,xM 73 12,xA 74 (.slcs (.t 71) (some (.t 72)) (some (.t 73))),xI 75 1 69 70,xS 1 75 74] [0,9,10,12])
 (.seq (xR [xM 76 10,xA 77 (.bin .add (.t 76) (xi 1)),xM 10 77] [0,9,10,12])
 (.seq (xR [xM 78 12,xA 79 (.bin .add (.t 78) (xi 1)),xM 12 79] [0,9,10,12])
 (.seq (.block 6 f83_l2)
 (xR [xM 94 12,xM 11 94] [0,9,10,11,12])))))))))
def f83_l3:ACode:=.loop f83_b3
def f83:AFun:=⟨1,
 (.seq (xR [xA 2 (.mov .own (.k (.c (.osl 1 []))))] [0])
 (.seq (xR [xA 3 (.mov .cp (xi 0))] [0,3])
 (.seq (xR [xA 4 (.mov .cp (xi 1))] [0,3,4])
 (.seq (xR [xA 5 (.mov .cp (.k (.c (.b (.d (.int .u8 0))))))] [0,3,4,5])
 (.seq (.seq (xR [xA 6 (.mov .cp (xi 0))] [0,3,4,5,6])
 (.block 0 f83_l0))
 (.seq (.seq (xR [xM 36 5,xA 37 (.bin .geq (.t 36) (.k (.c (.b (.d (.int .u8 128))))))] [0,3,37])
 (.cond (.t 37)
 (.seq (xR [xM 38 0,xA 39 (.call 109 [(.t 38),(.k (.c (.fn 110 [] [])))]),xO 2 39] [2])
 .ret)
 .skip))
 (.seq (xR [xM 40 3,xA 41 (.mks .arr 1 16 [xa] (.t 40) (.t 40)),xM 9 41] [0,9])
 (.seq (xR [xA 10 (.mov .cp (xi 0))] [0,9,10])
 (.seq (xR [xA 11 (.mov .cp (xi 0))] [0,9,10])
 (.seq (xR [xA 12 (.mov .cp (xi 0))] [0,9,10,12])
 (.seq (.block 2 f83_l1)
 (.seq (xR [xM 56 12,xM 11 56] [0,9,10,11,12])
 (.seq (.block 4 f83_l3)
 (.seq (.seq (xR [xM 95 11,xM 96 0,xA 97 (.len 1 (.t 96)),xA 98 (.bin .lss (.t 95) (.t 97))] [0,9,10,11,98])
 (.cond (.t 98)
 (xR [xM 99 9,xM 100 10,xM 101 0,xM 102 11,xA 103 (.slcs (.t 101) (some (.t 102)) none),xI 104 1 99 100,xS 1 104 103] [9])
 .skip))
 (.seq (xR [xM 105 9,xO 2 105] [2])
 .ret))))))))))))))),[(.tmp 2)],.pure,false,false⟩
def f130:AFun:=⟨1,
 (.seq (xR [xA 2 (.mov .own xU)] [0])
 (.seq (xR [xA 3 (.callb 83 [(xs ⟨#[99,108,97,115,115,32,105,110,116,101,114,102,97,99,101,32,101,120,116,101,110,100,115,32,105,109,112,108,101,109,101,110,116,115,32,102,105,101,108,100,32,115,116,97,116,105,99,32,109,101,116,104,111,100,32,102,117,110,99,116,105,111,110,32,108,111,99,97,108,115,32,99,97,116,99,104,32,105,110,116,32,118,111,105,100]⟩)]),xM 4 0,xA 5 (.callb 33 [(.t 3),(.t 4)]),xO 2 5] [2])
 .ret)),[(.tmp 2)],.pure,false,false⟩
def f103:AFun:=⟨1,
 (.seq (xR [xA 2 (.mov .own xU)] [0])
 (.seq (xR [xM 3 0,xA 4 (.callb 129 [(.t 3)]),xM 5 4,xMT 6 0 5,xAT 7 (.callb 130 [(.t 6)]) 5,xNT 8 7 5,xA 9 (.pick (.t 5) (.t 8) xU),xO 2 9] [2])
 .ret)),[(.tmp 2)],.pure,false,false⟩
def f87_b0:ACode:=(.wrap true [0,1,7,8] [4] [(0,[])]
 (.seq (xR [xA 9 (.bin .lss (.t 8) (.t 7))] [0,1,7,8,9])
 (.seq (.cond (.t 9)
 .skip
 (.exit 0))
 (.seq (.block 1 (.seq (xR [xO 10 8,xO 5 10] [0,1,5,7,8])
 (.seq (xR [xM 11 1,xM 12 0,xM 13 5,xI 14 1 12 13,xL 15 14,xA 16 (.callv (.t 11) [(.t 15)])] [0,1,5,7,8,16])
 (.cond (.t 16)
 (.seq (xR [xO 17 5,xO 4 17] [4])
 .ret)
 .skip))))
 (xR [xA 18 (.bin .add (.t 8) (xi 1)),xO 8 18] [0,1,7,8])))))
def f87_l0:ACode:=.loop f87_b0
theorem u87_l0:LpEq f87_l0 f87_b0:=K_loop
def f87:AFun:=⟨2,
 (.seq (xR [xA 4 (.mov .own (xi 0))] [0,1])
 (.seq (.seq (xR [xM 6 0,xH 7 6,xA 8 (.mov .own (xi 0))] [0,1,7,8])
 (.block 0 f87_l0))
 (.seq (xR [xA 4 (.mov .own (xi (-1)))] [4])
 .ret))),[(.tmp 4)],.pure,false,false⟩
def f69:AFun:=⟨2,
 (.seq (xR [xA 4 (.mov .own xU)] [0,1])
 (.seq (xR [xM 5 0,xM 6 1,xA 7 (.call 87 [(.t 5),(.t 6)]),xA 8 (.bin .geq (.t 7) (xi 0)),xO 4 8] [4])
 .ret)),[(.tmp 4)],.pure,false,false⟩
def f131:AFun:=⟨2,
 (.seq (xR [xA 3 (.mov .own xU)] [0,1])
 (.seq (xR [xL 4 1,xM 5 0,xA 6 (.callv (.t 4) [(.t 5)]),xN 7 6,xO 3 7] [3])
 .ret)),[(.tmp 3)],.pure,false,false⟩
def f104:AFun:=⟨3,
 (.seq (xR [xB 5 2,xA 6 (.mov .own xU)] [0,1,5])
 (.seq (xR [xM 7 0,xH 8 7,xM 9 1,xA 10 (.bin .leq (.t 8) (.t 9)),xM 11 10,xMT 12 0 11,xAT 13 (.mkf 131 [] [(.t 5)]) 11,xAT 14 (.call 69 [(.t 12),(.t 13)]) 11,xNT 15 14 11,xA 16 (.pick (.t 11) (.t 15) xU),xO 6 16] [6])
 .ret)),[(.tmp 6)],.pure,false,false⟩
def f157_b0:ACode:=(.wrap true [0,1,7,8] [4] [(0,[])]
 (.seq (xR [xA 9 (.bin .lss (.t 8) (.t 7))] [0,1,7,8,9])
 (.seq (.cond (.t 9)
 .skip
 (.exit 0))
 (.seq (.block 1 (.seq (xR [xO 10 8,xO 5 10] [0,1,5,7,8])
 (.seq (xR [xM 11 1,xM 12 0,xM 13 5,xI 14 4 12 13,xQ 15 4 14,xA 16 (.callv (.t 11) [(.t 15)])] [0,1,5,7,8,16])
 (.cond (.t 16)
 (.seq (xR [xO 17 5,xO 4 17] [4])
 .ret)
 .skip))))
 (xR [xA 18 (.bin .add (.t 8) (xi 1)),xO 8 18] [0,1,7,8])))))
def f157_l0:ACode:=.loop f157_b0
theorem u157_l0:LpEq f157_l0 f157_b0:=K_loop
def f157:AFun:=⟨2,
 (.seq (xR [xA 4 (.mov .own (xi 0))] [0,1])
 (.seq (.seq (xR [xM 6 0,xH 7 6,xA 8 (.mov .own (xi 0))] [0,1,7,8])
 (.block 0 f157_l0))
 (.seq (xR [xA 4 (.mov .own (xi (-1)))] [4])
 .ret))),[(.tmp 4)],.pure,false,false⟩
def f132:AFun:=⟨2,
 (.seq (xR [xA 4 (.mov .own xU)] [0,1])
 (.seq (xR [xM 5 0,xM 6 1,xA 7 (.call 157 [(.t 5),(.t 6)]),xA 8 (.bin .geq (.t 7) (xi 0)),xO 4 8] [4])
 .ret)),[(.tmp 4)],.pure,false,false⟩
def f133:AFun:=⟨2,
 (.seq (xR [xB 2 0,xA 3 (.mov .own xU)] [1,2])
 (.seq (xR [xL 4 1,xQ 5 4 2,xA 6 (.callv (.t 4) [(.t 5)]),xN 7 6,xO 3 7] [3])
 .ret)),[(.tmp 3)],.pure,false,false⟩
def f105:AFun:=⟨3,
 (.seq (xR [xB 5 2,xA 6 (.mov .own xU)] [0,1,5])
 (.seq (xR [xM 7 0,xH 8 7,xM 9 1,xA 10 (.bin .leq (.t 8) (.t 9)),xM 11 10,xMT 12 0 11,xAT 13 (.mkf 133 [] [(.t 5)]) 11,xAT 14 (.call 132 [(.t 12),(.t 13)]) 11,xNT 15 14 11,xA 16 (.pick (.t 11) (.t 15) xU),xO 6 16] [6])
 .ret)),[(.tmp 6)],.pure,false,false⟩
def f134:AFun:=⟨1,
 (.seq (xR [xB 1 0,xA 2 (.mov .own xU)] [1])
 (.seq (.seq (xR [xF 3 0 1,xL 4 3] [1,4])
 (.block 0 (.seq (.seq (xR [xA 6 (.bin .eql (.t 4) (xi 1)),xM 5 6] [1,4,5])
 (.cond (.t 5)
 .skip
 (.seq (xR [xA 7 (.bin .eql (.t 4) (xi 2)),xM 5 7] [1,4,5])
 (.cond (.t 5)
 .skip
 (xR [xA 8 (.bin .eql (.t 4) (xi 4)),xM 5 8] [1,4,5])))))
 (.cond (.t 5)
 (.seq (xR [xF 9 1 1,xL 10 9,xA 11 (.bin .eql (.t 10) (xs ⟨#[]⟩)),xO 2 11] [2])
 .ret)
 (.seq (.seq (xR [xA 13 (.bin .eql (.t 4) (xi 3)),xM 12 13] [1,4,12])
 (.cond (.t 12)
 .skip
 (xR [xA 14 (.bin .eql (.t 4) (xi 5)),xM 12 14] [1,12])))
 (.cond (.t 12)
 (.seq (xR [xF 15 1 1,xL 16 15,xA 17 (.callb 103 [(.t 16)]),xO 2 17] [2])
 .ret)
 .skip))))))
 (.seq (xR [xA 2 (.mov .own xU)] [2])
 .ret))),[(.tmp 2)],.pure,false,false⟩
def f106:AFun:=⟨1,
 (.seq (xR [xB 1 0,xA 2 (.mov .own xU)] [1])
 (.seq (xR [xF 3 0 1,xL 4 3,xA 5 (.callb 103 [(.t 4)]),xM 6 5,xFT 7 1 1 6,xAT 8 (.ld .cp (some 2) (.t 7)) 6,xAT 9 (.callb 134 [(.t 8)]) 6,xA 10 (.pick (.t 6) (.t 9) xU),xO 2 10] [2])
 .ret)),[(.tmp 2)],.pure,false,false⟩
def f158_b0:ACode:=(.wrap true [0,1,7,8] [4] [(0,[])]
 (.seq (xR [xA 9 (.bin .lss (.t 8) (.t 7))] [0,1,7,8,9])
 (.seq (.cond (.t 9)
 .skip
 (.exit 0))
 (.seq (.block 1 (.seq (xR [xO 10 8,xO 5 10] [0,1,5,7,8])
 (.seq (xR [xM 11 1,xM 12 0,xM 13 5,xI 14 9 12 13,xQ 15 9 14,xA 16 (.callv (.t 11) [(.t 15)])] [0,1,5,7,8,16])
 (.cond (.t 16)
 (.seq (xR [xO 17 5,xO 4 17] [4])
 .ret)
 .skip))))
 (xR [xA 18 (.bin .add (.t 8) (xi 1)),xO 8 18] [0,1,7,8])))))
def f158_l0:ACode:=.loop f158_b0
theorem u158_l0:LpEq f158_l0 f158_b0:=K_loop
def f158:AFun:=⟨2,
 (.seq (xR [xA 4 (.mov .own (xi 0))] [0,1])
 (.seq (.seq (xR [xM 6 0,xH 7 6,xA 8 (.mov .own (xi 0))] [0,1,7,8])
 (.block 0 f158_l0))
 (.seq (xR [xA 4 (.mov .own (xi (-1)))] [4])
 .ret))),[(.tmp 4)],.pure,false,false⟩
def f135:AFun:=⟨2,
 (.seq (xR [xA 4 (.mov .own xU)] [0,1])
 (.seq (xR [xM 5 0,xM 6 1,xA 7 (.call 158 [(.t 5),(.t 6)]),xA 8 (.bin .geq (.t 7) (xi 0)),xO 4 8] [4])
 .ret)),[(.tmp 4)],.pure,false,false⟩
def f136:AFun:=⟨2,
 (.seq (xR [xB 2 0,xA 3 (.mov .own xU)] [1,2])
 (.seq (xR [xL 4 1,xQ 5 9 2,xA 6 (.callv (.t 4) [(.t 5)]),xN 7 6,xO 3 7] [3])
 .ret)),[(.tmp 3)],.pure,false,false⟩
def f107:AFun:=⟨3,
 (.seq (xR [xB 5 2,xA 6 (.mov .own xU)] [0,1,5])
 (.seq (xR [xM 7 0,xH 8 7,xM 9 1,xA 10 (.bin .leq (.t 8) (.t 9)),xM 11 10,xMT 12 0 11,xAT 13 (.mkf 136 [] [(.t 5)]) 11,xAT 14 (.call 135 [(.t 12),(.t 13)]) 11,xNT 15 14 11,xA 16 (.pick (.t 11) (.t 15) xU),xO 6 16] [6])
 .ret)),[(.tmp 6)],.pure,false,false⟩
def f150_b0:ACode:=(.wrap true [0,1,7,8] [4] [(0,[])]
 (.seq (xR [xA 9 (.bin .lss (.t 8) (.t 7))] [0,1,7,8,9])
 (.seq (.cond (.t 9)
 .skip
 (.exit 0))
 (.seq (.block 1 (.seq (xR [xO 10 8,xO 5 10] [0,1,5,7,8])
 (.seq (xR [xM 11 1,xM 12 0,xM 13 5,xI 14 2 12 13,xQ 15 2 14,xA 16 (.callv (.t 11) [(.t 15)])] [0,1,5,7,8,16])
 (.cond (.t 16)
 (.seq (xR [xO 17 5,xO 4 17] [4])
 .ret)
 .skip))))
 (xR [xA 18 (.bin .add (.t 8) (xi 1)),xO 8 18] [0,1,7,8])))))
def f150_l0:ACode:=.loop f150_b0
theorem u150_l0:LpEq f150_l0 f150_b0:=K_loop
def f150:AFun:=⟨2,
 (.seq (xR [xA 4 (.mov .own (xi 0))] [0,1])
 (.seq (.seq (xR [xM 6 0,xH 7 6,xA 8 (.mov .own (xi 0))] [0,1,7,8])
 (.block 0 f150_l0))
 (.seq (xR [xA 4 (.mov .own (xi (-1)))] [4])
 .ret))),[(.tmp 4)],.pure,false,false⟩
def f119:AFun:=⟨2,
 (.seq (xR [xA 4 (.mov .own xU)] [0,1])
 (.seq (xR [xM 5 0,xM 6 1,xA 7 (.call 150 [(.t 5),(.t 6)]),xA 8 (.bin .geq (.t 7) (xi 0)),xO 4 8] [4])
 .ret)),[(.tmp 4)],.pure,false,false⟩
def f159:AFun:=⟨2,
 (.seq (xR [xB 2 0,xA 3 (.mov .own xU)] [1,2])
 (.seq (xR [xL 4 1,xQ 5 2 2,xA 6 (.callv (.t 4) [(.t 5)]),xN 7 6,xO 3 7] [3])
 .ret)),[(.tmp 3)],.pure,false,false⟩
def f137:AFun:=⟨3,
 (.seq (xR [xB 5 2,xA 6 (.mov .own xU)] [0,1,5])
 (.seq (xR [xM 7 0,xH 8 7,xM 9 1,xA 10 (.bin .leq (.t 8) (.t 9)),xM 11 10,xMT 12 0 11,xAT 13 (.mkf 159 [] [(.t 5)]) 11,xAT 14 (.call 119 [(.t 12),(.t 13)]) 11,xNT 15 14 11,xA 16 (.pick (.t 11) (.t 15) xU),xO 6 16] [6])
 .ret)),[(.tmp 6)],.pure,false,false⟩
def f138:AFun:=⟨3,
 (.seq (xR [xA 6 (.mov .own xU)] [0,1,2])
 (.seq (xR [xM 7 0,xM 8 1,xA 9 (.bin .geq (.t 7) (.t 8)),xM 10 9,xMT 11 0 10,xMT 12 2 10,xAT 13 (.bin .leq (.t 11) (.t 12)) 10,xA 14 (.pick (.t 10) (.t 13) xU),xO 6 14] [6])
 .ret)),[(.tmp 6)],.pure,false,false⟩
def f179_b0:ACode:=(.wrap true [0,1,7,8] [4] [(0,[])]
 (.seq (xR [xA 9 (.bin .lss (.t 8) (.t 7))] [0,1,7,8,9])
 (.seq (.cond (.t 9)
 .skip
 (.exit 0))
 (.seq (.block 1 (.seq (xR [xO 10 8,xO 5 10] [0,1,5,7,8])
 (.seq (xR [xM 11 1,xM 12 0,xM 13 5,xI 14 4 12 13,xQ 15 4 14,xA 16 (.callv (.t 11) [(.t 15)])] [0,1,5,7,8,16])
 (.cond (.t 16)
 (.seq (xR [xO 17 5,xO 4 17] [4])
 .ret)
 .skip))))
 (xR [xA 18 (.bin .add (.t 8) (xi 1)),xO 8 18] [0,1,7,8])))))
def f179_l0:ACode:=.loop f179_b0
theorem u179_l0:LpEq f179_l0 f179_b0:=K_loop
def f179:AFun:=⟨2,
 (.seq (xR [xA 4 (.mov .own (xi 0))] [0,1])
 (.seq (.seq (xR [xM 6 0,xH 7 6,xA 8 (.mov .own (xi 0))] [0,1,7,8])
 (.block 0 f179_l0))
 (.seq (xR [xA 4 (.mov .own (xi (-1)))] [4])
 .ret))),[(.tmp 4)],.pure,false,false⟩
def f160:AFun:=⟨2,
 (.seq (xR [xA 4 (.mov .own xU)] [0,1])
 (.seq (xR [xM 5 0,xM 6 1,xA 7 (.call 179 [(.t 5),(.t 6)]),xA 8 (.bin .geq (.t 7) (xi 0)),xO 4 8] [4])
 .ret)),[(.tmp 4)],.pure,false,false⟩
def f161:AFun:=⟨2,
 (.seq (xR [xB 2 0,xA 3 (.mov .own xU)] [1,2])
 (.seq (xR [xL 4 1,xQ 5 4 2,xA 6 (.callv (.t 4) [(.t 5)]),xN 7 6,xO 3 7] [3])
 .ret)),[(.tmp 3)],.pure,false,false⟩
def f139:AFun:=⟨3,
 (.seq (xR [xB 5 2,xA 6 (.mov .own xU)] [0,1,5])
 (.seq (xR [xM 7 0,xH 8 7,xM 9 1,xA 10 (.bin .leq (.t 8) (.t 9)),xM 11 10,xMT 12 0 11,xAT 13 (.mkf 161 [] [(.t 5)]) 11,xAT 14 (.call 160 [(.t 12),(.t 13)]) 11,xNT 15 14 11,xA 16 (.pick (.t 11) (.t 15) xU),xO 6 16] [6])
 .ret)),[(.tmp 6)],.pure,false,false⟩
def f180:AFun:=⟨1,
 (.seq (xR [xA 2 (.mov .own xU)] [0])
 (.seq (xR [xM 3 0,xA 4 (.bin .geq (.t 3) (xi 14)),xM 5 4,xMT 6 0 5,xAT 7 (.bin .leq (.t 6) (xi 26)) 5,xA 8 (.pick (.t 5) (.t 7) xU),xO 2 8] [2])
 .ret)),[(.tmp 2)],.pure,false,false⟩
def f162:AFun:=⟨1,
 (.seq (xR [xA 2 (.mov .own (xi 0)),xA 3 (.mov .own (xi 0)),xA 4 (.mov .own xU)] [0])
 (.seq (.block 0 (.seq (xR [xM 6 0,xA 7 (.bin .eql (.t 6) (xi 1)),xM 5 7] [0,5])
 (.cond (.t 5)
 (.seq (xR [xA 2 (.mov .own (xi (-2147483648))),xA 3 (.mov .own (xi 2147483647)),xA 4 (.mov .own xT)] [2,3,4])
 .ret)
 (.seq (xR [xM 9 0,xA 10 (.bin .eql (.t 9) (xi 3)),xM 11 10,xMF 12 0 11,xAF 13 (.bin .eql (.t 12) (xi 4)) 11,xA 14 (.pick (.t 11) xT (.t 13)),xM 8 14] [0,8])
 (.cond (.t 8)
 (.seq (xR [xA 2 (.mov .own (xi 0)),xA 3 (.mov .own (xi 7)),xA 4 (.mov .own xT)] [2,3,4])
 .ret)
 (.seq (xR [xM 16 0,xA 17 (.callb 180 [(.t 16)]),xM 15 17] [15])
 (.cond (.t 15)
 (.seq (xR [xA 2 (.mov .own (xi 0)),xA 3 (.mov .own (xi 47)),xA 4 (.mov .own xT)] [2,3,4])
 .ret)
 .skip)))))))
 (.seq (xR [xA 2 (.mov .own (xi 0)),xA 3 (.mov .own (xi 0)),xA 4 (.mov .own xU)] [2,3,4])
 .ret))),[(.tmp 2),(.tmp 3),(.tmp 4)],.pure,false,false⟩
def f163:AFun:=⟨2,
 (.seq (xR [xA 4 (.mov .own xU)] [0,1])
 (.seq (xR [xM 5 1,xM 6 5,xMT 7 0 6,xAT 8 (.callb 103 [(.t 7)]) 6,xA 9 (.pick (.t 6) (.t 8) xU),xM 10 9,xMF 11 1 10,xNF 12 11 10,xMF 13 12 10,xMT 14 0 13,xAT 15 (.bin .eql (.t 14) (xs ⟨#[]⟩)) 13,xAF 16 (.pick (.t 13) (.t 15) xU) 10,xA 17 (.pick (.t 10) xT (.t 16)),xO 4 17] [4])
 .ret)),[(.tmp 4)],.pure,false,false⟩
def f164:AFun:=⟨1,
 (.seq (xR [xA 2 (.mov .own (xi 0))] [0])
 (.seq (.seq (xR [xM 3 0] [3])
 (.block 0 (.seq (.seq (xR [xA 5 (.bin .eql (.t 3) (xi 27)),xM 4 5] [3,4])
 (.cond (.t 4)
 .skip
 (.seq (xR [xA 6 (.bin .eql (.t 3) (xi 33)),xM 4 6] [3,4])
 (.cond (.t 4)
 .skip
 (.seq (xR [xA 7 (.bin .eql (.t 3) (xi 37)),xM 4 7] [3,4])
 (.cond (.t 4)
 .skip
 (xR [xA 8 (.bin .eql (.t 3) (xi 38)),xM 4 8] [3,4])))))))
 (.cond (.t 4)
 (.seq (xR [xA 2 (.mov .own (xi 1))] [2])
 .ret)
 (.seq (.seq (xR [xA 10 (.bin .eql (.t 3) (xi 28)),xM 9 10] [3,9])
 (.cond (.t 9)
 .skip
 (.seq (xR [xA 11 (.bin .eql (.t 3) (xi 29)),xM 9 11] [3,9])
 (.cond (.t 9)
 .skip
 (.seq (xR [xA 12 (.bin .eql (.t 3) (xi 30)),xM 9 12] [3,9])
 (.cond (.t 9)
 .skip
 (.seq (xR [xA 13 (.bin .eql (.t 3) (xi 31)),xM 9 13] [3,9])
 (.cond (.t 9)
 .skip
 (.seq (xR [xA 14 (.bin .eql (.t 3) (xi 39)),xM 9 14] [3,9])
 (.cond (.t 9)
 .skip
 (xR [xA 15 (.bin .eql (.t 3) (xi 40)),xM 9 15] [9])))))))))))
 (.cond (.t 9)
 (.seq (xR [xA 2 (.mov .own (xi 2))] [2])
 .ret)
 .skip))))))
 (.seq (xR [xA 2 (.mov .own (xi 0))] [2])
 .ret))),[(.tmp 2)],.pure,false,false⟩
def f140:AFun:=⟨1,
 (.seq (xR [xB 1 0,xA 2 (.mov .own xU)] [1])
 (.seq (xR [xF 7 0 1,xL 8 7,xA 9 (.callb 162 [(.t 8)]),xO 6 9,xE 10 0 6,xE 11 1 6,xE 12 2 6,xM 3 10,xM 4 11,xM 5 12] [1,3,4])
 (.seq (xG [xF 13 0 1,xL 14 13,xA 15 (.callb 138 [(.t 14),(xi 0),(xi 43)]),xM 16 15,xFT 17 1 1 16,xLT 18 17 16,xMT 19 3 16,xMT 20 4 16,xAT 21 (.callb 138 [(.t 18),(.t 19),(.t 20)]) 16,xA 22 (.pick (.t 16) (.t 21) xU),xM 23 22,xFT 24 2 1 23,xLT 25 24 23,xFT 26 0 1 23,xLT 27 26 23,xAT 28 (.callb 164 [(.t 27)]) 23,xAT 29 (.bin .gtr (.t 28) (xi 0)) 23,xAT 30 (.callb 163 [(.t 25),(.t 29)]) 23,xA 31 (.pick (.t 23) (.t 30) xU),xM 32 31,xFT 33 3 1 32,xLT 34 33 32,xFT 35 0 1 32,xLT 36 35 32,xAT 37 (.callb 164 [(.t 36)]) 32,xAT 38 (.bin .gtr (.t 37) (xi 1)) 32,xAT 39 (.callb 163 [(.t 34),(.t 38)]) 32,xA 40 (.pick (.t 32) (.t 39) xU),xM 2 40] [2])
 .ret))),[(.tmp 2)],.pure,false,false⟩
def f181_b0:ACode:=(.wrap true [0,1,7,8] [4] [(0,[])]
 (.seq (xR [xA 9 (.bin .lss (.t 8) (.t 7))] [0,1,7,8,9])
 (.seq (.cond (.t 9)
 .skip
 (.exit 0))
 (.seq (.block 1 (.seq (xR [xO 10 8,xO 5 10] [0,1,5,7,8])
 (.seq (xR [xM 11 1,xM 12 0,xM 13 5,xI 14 4 12 13,xQ 15 4 14,xA 16 (.callv (.t 11) [(.t 15)])] [0,1,5,7,8,16])
 (.cond (.t 16)
 (.seq (xR [xO 17 5,xO 4 17] [4])
 .ret)
 .skip))))
 (xR [xA 18 (.bin .add (.t 8) (xi 1)),xO 8 18] [0,1,7,8])))))
def f181_l0:ACode:=.loop f181_b0
theorem u181_l0:LpEq f181_l0 f181_b0:=K_loop
def f181:AFun:=⟨2,
 (.seq (xR [xA 4 (.mov .own (xi 0))] [0,1])
 (.seq (.seq (xR [xM 6 0,xH 7 6,xA 8 (.mov .own (xi 0))] [0,1,7,8])
 (.block 0 f181_l0))
 (.seq (xR [xA 4 (.mov .own (xi (-1)))] [4])
 .ret))),[(.tmp 4)],.pure,false,false⟩
def f165:AFun:=⟨2,
 (.seq (xR [xA 4 (.mov .own xU)] [0,1])
 (.seq (xR [xM 5 0,xM 6 1,xA 7 (.call 181 [(.t 5),(.t 6)]),xA 8 (.bin .geq (.t 7) (xi 0)),xO 4 8] [4])
 .ret)),[(.tmp 4)],.pure,false,false⟩
def f166:AFun:=⟨2,
 (.seq (xR [xB 2 0,xA 3 (.mov .own xU)] [1,2])
 (.seq (xR [xL 4 1,xQ 5 4 2,xA 6 (.callv (.t 4) [(.t 5)]),xN 7 6,xO 3 7] [3])
 .ret)),[(.tmp 3)],.pure,false,false⟩
def f141:AFun:=⟨3,
 (.seq (xR [xB 5 2,xA 6 (.mov .own xU)] [0,1,5])
 (.seq (xR [xM 7 0,xH 8 7,xM 9 1,xA 10 (.bin .leq (.t 8) (.t 9)),xM 11 10,xMT 12 0 11,xAT 13 (.mkf 166 [] [(.t 5)]) 11,xAT 14 (.call 165 [(.t 12),(.t 13)]) 11,xNT 15 14 11,xA 16 (.pick (.t 11) (.t 15) xU),xO 6 16] [6])
 .ret)),[(.tmp 6)],.pure,false,false⟩
def f142:AFun:=⟨1,
 (.seq (xR [xB 1 0,xA 2 (.mov .own xU)] [1])
 (.seq (xR [xF 3 0 1,xL 4 3,xA 5 (.callb 103 [(.t 4)]),xM 6 5,xFT 7 1 1 6,xLT 8 7 6,xAT 9 (.callb 138 [(.t 8),(xi 0),(xi 48)]) 6,xA 10 (.pick (.t 6) (.t 9) xU),xM 11 10,xFT 12 2 1 11,xLT 13 12 11,xAT 14 (.callb 138 [(.t 13),(xi 0),(xi 48)]) 11,xA 15 (.pick (.t 11) (.t 14) xU),xM 16 15,xFT 17 3 1 16,xLT 18 17 16,xAT 19 (.callb 138 [(.t 18),(xi 0),(xi 48)]) 16,xA 20 (.pick (.t 16) (.t 19) xU),xO 2 20] [2])
 .ret)),[(.tmp 2)],.pure,false,false⟩
def f108:AFun:=⟨1,
 (.seq (xR [xB 1 0,xA 2 (.mov .own xU)] [1])
 (.seq (.seq (xR [xF 3 2 1,xL 4 3,xM 5 4,xFT 6 6 1 5,xLT 7 6 5,xAT 8 (.bin .neq (.t 7) (xi 0)) 5,xMT 9 8 5,xFF 10 7 1 9,xLF 11 10 9,xAF 12 (.len 0 (.t 11)) 9,xFF 13 8 1 9,xLF 14 13 9,xAF 15 (.len 0 (.t 14)) 9,xAF 16 (.bin .add (.t 12) (.t 15)) 9,xAF 17 (.bin .gtr (.t 16) (xi 0)) 9,xAT 18 (.pick (.t 9) xT (.t 17)) 5,xA 19 (.pick (.t 5) (.t 18) xU)] [1,19])
 (.cond (.t 19)
 (.seq (xR [xA 2 (.mov .own xU)] [2])
 .ret)
 .skip))
 (.seq (xR [xF 20 0 1,xL 21 20,xA 22 (.callb 103 [(.t 21)]),xM 23 22,xFT 24 3 1 23,xLT 25 24 23,xAT 26 (.call 137 [(.t 25),(xi 4),(.k (.c (.fn 134 [] [])))]) 23,xA 27 (.pick (.t 23) (.t 26) xU),xM 28 27,xFT 29 4 1 28,xAT 30 (.ld .cp (some 2) (.t 29)) 28,xAT 31 (.callb 134 [(.t 30)]) 28,xA 32 (.pick (.t 28) (.t 31) xU),xM 33 32,xFT 34 6 1 33,xLT 35 34 33,xAT 36 (.callb 138 [(.t 35),(xi 0),(xi 8)]) 33,xA 37 (.pick (.t 33) (.t 36) xU),xM 38 37,xFT 39 7 1 38,xLT 40 39 38,xAT 41 (.call 139 [(.t 40),(xi 48),(.k (.c (.fn 140 [] [])))]) 38,xA 42 (.pick (.t 38) (.t 41) xU),xM 43 42,xFT 44 8 1 43,xLT 45 44 43,xAT 46 (.call 141 [(.t 45),(xi 4),(.k (.c (.fn 142 [] [])))]) 43,xA 47 (.pick (.t 43) (.t 46) xU),xO 2 47] [2])
 .ret))),[(.tmp 2)],.pure,false,false⟩
def f82:AFun:=⟨1,
 (.seq (xR [xB 1 0,xA 2 (.mov .own xU)] [1])
 (.seq (xR [xF 4 2 1,xL 5 4,xA 6 (.bin .eql (.t 5) (xs ⟨#[]⟩)),xM 7 6,xFF 8 1 1 7,xLF 9 8 7,xNF 10 9 7,xMF 11 10 7,xFT 12 2 1 11,xLT 13 12 11,xAT 14 (.callb 103 [(.t 13)]) 11,xAF 15 (.pick (.t 11) (.t 14) xU) 7,xA 16 (.pick (.t 7) xT (.t 15)),xM 3 16] [1,3])
 (.seq (xR [xF 17 0 1,xL 18 17,xA 19 (.callb 103 [(.t 18)]),xM 20 19,xMT 21 3 20,xA 22 (.pick (.t 20) (.t 21) xU),xM 23 22,xFT 24 3 1 23,xLT 25 24 23,xAT 26 (.call 104 [(.t 25),(xi 4),(.k (.c (.fn 103 [] [])))]) 23,xA 27 (.pick (.t 23) (.t 26) xU),xM 28 27,xFT 29 4 1 28,xLT 30 29 28,xAT 31 (.call 105 [(.t 30),(xi 6),(.k (.c (.fn 106 [] [])))]) 28,xA 32 (.pick (.t 28) (.t 31) xU),xM 33 32,xFT 34 5 1 33,xLT 35 34 33,xAT 36 (.call 107 [(.t 35),(xi 6),(.k (.c (.fn 108 [] [])))]) 33,xA 37 (.pick (.t 33) (.t 36) xU),xO 2 37] [2])
 .ret))),[(.tmp 2)],.pure,false,false⟩
def f65:AFun:=⟨1,
 (.seq (xR [xB 1 0,xA 2 (.mov .own (xi 0))] [1])
 (.seq (.seq (xR [xF 3 0 1,xL 4 3,xA 5 (.call 81 [(.t 4),(xi 10),(.k (.c (.fn 82 [] [])))]),xN 6 5] [6])
 (.cond (.t 6)
 (.seq (xR [xA 2 (.mov .own (xi 4))] [2])
 .ret)
 .skip))
 (.seq (xR [xA 2 (.mov .own (xi 0))] [2])
 .ret))),[(.tmp 2)],.pure,false,false⟩
def f66_b0:ACode:=(.wrap true [1,7,8,9] [0] [(0,[1])]
 (.seq (xR [xA 10 (.bin .lss (.t 9) (.t 8))] [1,7,8,9,10])
 (.seq (.cond (.t 10)
 .skip
 (.exit 0))
 (.seq (.block 1 (.seq (xR [xI 11 1 7 9,xL 12 11,xM 3 12] [1,3,7,8,9])
 (xR [xO 13 1,xM 14 3,xA 15 (.build [xa,xb,xa,(.osl 1 []),(.osl 4 []),(.osl 9 [])] [(0,1,(.t 14)),(2,1,(xs ⟨#[69,114,114,111,114]⟩))]),xA 16 (.bsl .own 6 1 [xa,xb,xa,(.osl 1 []),(.osl 4 []),(.osl 9 [])] [(0,(.t 15))]),xA 17 (.app 6 112 (.t 13) (.t 16)),xO 1 17] [1,7,8,9])))
 (xR [xA 18 (.bin .add (.t 9) (xi 1)),xM 9 18] [1,7,8,9])))))
def f66_l0:ACode:=.loop f66_b0
def f66:AFun:=⟨0,
 (.seq (xR [xA 0 (.mov .own (.k (.c (.osl 6 []))))] [])
 (.seq (xR [xA 4 (.build [xa,xb,xa,(.osl 1 []),(.osl 4 []),(.osl 9 [])] [(0,1,(xs ⟨#[79,98,106,101,99,116]⟩))]),xA 5 (.build [xa,xb,xa,(.osl 1 []),(.osl 4 []),(.osl 9 [])] [(0,1,(xs ⟨#[69,114,114,111,114]⟩)),(2,1,(xs ⟨#[79,98,106,101,99,116]⟩))]),xA 6 (.bsl .own 6 2 [xa,xb,xa,(.osl 1 []),(.osl 4 []),(.osl 9 [])] [(0,(.t 4)),(1,(.t 5))]),xO 1 6] [1])
 (.seq (.seq (xR [xA 7 (.callb 83 [(xs ⟨#[78,117,108,108,69,114,114,111,114,32,82,97,110,103,101,69,114,114,111,114,32,67,97,115,116,69,114,114,111,114,32,78,117,109,69,114,114,111,114,32,83,105,122,101,69,114,114,111,114,32,68,101,112,116,104,69,114,114,111,114]⟩)]),xH 8 7,xA 9 (.mov .cp (xi 0))] [1,7,8,9])
 (.block 0 f66_l0))
 (.seq (xR [xO 19 1,xO 0 19] [0])
 .ret)))),[(.tmp 0)],.pure,false,false⟩
def f85:AFun:=⟨2,
 (.seq (xR [xB 3 1,xA 4 (.mov .own (xs ⟨#[]⟩)),xA 5 (.mov .own xU)] [3])
 (.seq (.block 0 (.seq (xR [xF 7 1 3,xL 8 7,xM 9 8,xFF 10 0 3 9,xLF 11 10 9,xAF 12 (.bin .eql (.t 11) (xs ⟨#[79,98,106,101,99,116]⟩)) 9,xA 13 (.pick (.t 9) xT (.t 12)),xM 6 13] [3,6])
 (.cond (.t 6)
 (.seq (xR [xA 4 (.mov .own (xs ⟨#[]⟩)),xA 5 (.mov .own xU)] [4,5])
 .ret)
 (.seq (xR [xF 15 2 3,xL 16 15,xA 17 (.bin .eql (.t 16) (xs ⟨#[]⟩)),xM 14 17] [3,14])
 (.cond (.t 14)
 (.seq (xR [xA 4 (.mov .own (xs ⟨#[79,98,106,101,99,116]⟩)),xA 5 (.mov .own xT)] [4,5])
 .ret)
 .skip)))))
 (.seq (xR [xF 18 2 3,xL 19 18,xO 4 19,xA 5 (.mov .own xT)] [4,5])
 .ret))),[(.tmp 4),(.tmp 5)],.pure,false,false⟩
def f86:AFun:=⟨2,
 (.seq (xR [xA 3 (.mov .own xU)] [0,1])
 (.seq (xR [xL 7 1,xA 8 (.nilc (.t 7)),xF 9 3 8,xL 10 9,xM 11 0,xA 12 (.lkp [2] (.agg [xa,xb,xa,xd,xd,xd]) true (.t 10) (.t 11)),xO 6 12,xE 13 0 6,xE 14 1 6,xA 4 (.alloc [xa,xb,xa,(.osl 1 []),(.osl 4 []),(.osl 9 [])]),xS 6 4 13,xM 5 14] [4,5])
 (.seq (xR [xM 15 5,xN 16 15,xM 17 16,xFF 18 1 4 17,xLF 19 18 17,xNF 20 19 17,xA 21 (.pick (.t 17) xT (.t 20)),xO 3 21] [3])
 .ret))),[(.tmp 3)],.pure,false,false⟩
def f68:AFun:=⟨2,
 (.seq (xR [xB 2 0,xB 3 1,xA 4 (.mov .own xU)] [2,3])
 (.seq (.seq (xR [xL 10 2,xQ 11 6 3,xA 12 (.call 85 [(.t 10),(.t 11)]),xO 9 12,xE 13 0 9,xE 14 1 9,xM 5 13,xM 6 14] [2,3,5,6])
 (.seq (xR [xM 15 6] [2,3,5,15])
 (.cond (.t 15)
 (.seq (xR [xL 17 2,xA 18 (.nilc (.t 17)),xF 19 3 18,xL 20 19,xM 21 5,xA 22 (.lkp [2] (.agg [xa,xb,xa,xd,xd,xd]) true (.t 20) (.t 21)),xO 16 22,xE 23 0 16,xE 24 1 16,xA 7 (.alloc [xa,xb,xa,(.osl 1 []),(.osl 4 []),(.osl 9 [])]),xS 6 7 23,xM 8 24] [2,3,7,8])
 (.seq (xR [xM 25 8,xN 26 25,xM 27 26,xFF 28 1 7 27,xLF 29 28 27,xA 30 (.pick (.t 27) xT (.t 29))] [2,3,30])
 (.cond (.t 30)
 (.seq (xR [xA 4 (.mov .own xT)] [4])
 .ret)
 .skip)))
 .skip)))
 (.seq (xR [xF 31 3 3,xL 32 31,xA 33 (.mkf 86 [] [(.t 2)]),xA 34 (.call 69 [(.t 32),(.t 33)]),xO 4 34] [4])
 .ret))),[(.tmp 4)],.pure,false,false⟩
def f111:AFun:=⟨1,
 (.seq (xR [xA 2 (.mov .own (.k (.c (.osl 1 []))))] [0])
 (.seq (.seq (xR [xM 3 0,xA 4 (.eq false 4 [] (.t 3) (.k (.c (.b .nils))))] [0,4])
 (.cond (.t 4)
 (.seq (xR [xA 2 (.mov .own (.k (.c (.osl 1 []))))] [2])
 .ret)
 .skip))
 (.seq (xR [xA 5 (.bsl .own 1 0 [xa] []),xM 6 0,xA 7 (.app 1 16 (.t 5) (.t 6)),xO 2 7] [2])
 .ret))),[(.tmp 2)],.pure,true,false⟩
def f88:AFun:=⟨2,
 (.seq (xR [xA 4 (.mov .own (.k (.c (.osl 1 []))))] [0,1])
 (.seq (xR [xM 9 0,xA 10 (.nilc (.t 9)),xF 11 3 10,xL 12 11,xM 13 1,xA 14 (.lkp [2] (.agg [xa,xb,xa,xd,xd,xd]) false (.t 12) (.t 13)),xA 5 (.alloc [xa,xb,xa,(.osl 1 []),(.osl 4 []),(.osl 9 [])]),xS 6 5 14] [0,5])
 (.seq (xR [xF 15 3 5,xL 16 15,xA 17 (.callb 111 [(.t 16)]),xO 6 17] [0,5,6])
 (.seq (.seq (xR [xM 19 0,xQ 20 6 5,xA 21 (.call 85 [(.t 19),(.t 20)]),xO 18 21,xE 22 0 18,xE 23 1 18,xM 7 22,xM 8 23] [6,7,8])
 (.seq (xR [xM 24 8] [6,7,24])
 (.cond (.t 24)
 (xR [xO 25 6,xM 26 7,xA 27 (.bsl .own 1 1 [xa] [(0,(.t 26))]),xA 28 (.app 1 16 (.t 25) (.t 27)),xO 6 28] [6])
 .skip)))
 (.seq (xR [xO 29 6,xO 4 29] [4])
 .ret))))),[(.tmp 4)],.pure,false,false⟩
def f71_b0:ACode:=(.wrap true [0,2,12,13,14] [] [(0,[])]
 (.seq (xR [xA 15 (.bin .lss (.t 14) (.t 13))] [0,2,12,13,14,15])
 (.seq (.cond (.t 15)
 .skip
 (.exit 0))
 (.seq (.block 1 (.seq (xR [xI 16 1 12 14,xL 17 16,xM 7 17] [0,2,7,12,13,14])
 (.seq (xR [xM 18 2,xM 19 7,xA 20 (.lkp [2] (.c xb) false (.t 18) (.t 19)),xN 21 20] [0,2,7,12,13,14,21])
 (.cond (.t 21)
 (xR [xM 22 0,xM 23 7,xM 24 2,xA 25 (.call 71 [(.t 22),(.t 23),(.t 24)])] [0,2,12,13,14])
 .skip))))
 (xR [xA 26 (.bin .add (.t 14) (xi 1)),xM 14 26] [0,2,12,13,14])))))
def f71_l0:ACode:=.loop f71_b0
theorem u71_l0:LpEq f71_l0 f71_b0:=K_loop
def f71:AFun:=⟨3,
 (.seq (xR [xM 8 2,xM 9 1,xZ (.upd [2] (.t 8) (.t 9) xT)] [0,1,2])
 (.seq (xR [xM 10 0,xM 11 1,xA 12 (.call 88 [(.t 10),(.t 11)]),xH 13 12,xA 14 (.mov .cp (xi 0))] [0,2,12,13,14])
 (.block 0 f71_l0))),[],.trim,false,false⟩
def f70_b0:ACode:=(.wrap true [0,1,5,11,12,13] [4] [(0,[1,5])]
 (.seq (xR [xA 14 (.bin .lss (.t 13) (.t 12))] [0,1,5,11,12,13,14])
 (.seq (.cond (.t 14)
 .skip
 (.exit 0))
 (.seq (.block 1 (.seq (xR [xI 15 1 11 13,xL 16 15,xM 7 16] [0,1,5,7,11,12,13])
 (.seq (xR [xM 17 5,xM 18 7,xA 19 (.lkp [2] (.c xb) false (.t 17) (.t 18)),xN 20 19] [0,1,5,7,11,12,13,20])
 (.cond (.t 20)
 (xR [xM 21 0,xM 22 7,xM 23 5,xA 24 (.call 71 [(.t 21),(.t 22),(.t 23)])] [0,1,5,11,12,13])
 .skip))))
 (xR [xA 25 (.bin .add (.t 13) (xi 1)),xM 13 25] [0,1,5,11,12,13])))))
def f70_l0:ACode:=.loop f70_b0
theorem u70_l0:LpEq f70_l0 f70_b0:=K_loop
def f70:AFun:=⟨2,
 (.seq (xR [xA 4 (.mov .own xU)] [0,1])
 (.seq (xR [xA 8 (.mkm),xM 5 8] [0,1,5])
 (.seq (.seq (xR [xM 9 0,xM 10 1,xA 11 (.call 88 [(.t 9),(.t 10)]),xH 12 11,xA 13 (.mov .cp (xi 0))] [0,1,5,11,12,13])
 (.block 0 f70_l0))
 (.seq (xR [xM 26 5,xM 27 1,xA 28 (.lkp [2] (.c xb) false (.t 26) (.t 27)),xO 4 28] [4])
 .ret)))),[(.tmp 4)],.pure,false,false⟩
def f46_b0:ACode:=(.wrap false [3,4,34,35,36] [2] [(0,[3,4])]
 (.seq (xR [xA 37 (.bin .lss (.t 36) (.t 35))] [3,4,34,35,36,37])
 (.seq (.cond (.t 37)
 .skip
 (.exit 0))
 (.seq (.block 1 (.seq (xR [xI 38 6 34 36,xQ 39 6 38,xA 6 (.alloc [xa,xb,xa,(.osl 1 []),(.osl 4 []),(.osl 9 [])]),xS 6 6 39] [3,4,6,34,35,36])
 (.seq (xG [xM 40 3,xM 41 3,xA 42 (.nilc (.t 41)),xF 43 1 42,xW 44 43,xF 45 0 6,xL 46 45,xA 47 (.bsl .own 1 1 [xa] [(0,(.t 46))]),xA 48 (.app 1 16 (.t 44) (.t 47)),xA 49 (.nilc (.t 40)),xF 50 1 49,xS 1 50 48] [3,4,6,34,35,36])
 (xG [xM 51 3,xA 52 (.nilc (.t 51)),xF 53 3 52,xL 54 53,xF 55 0 6,xL 56 55,xQ 57 6 6,xZ (.upd [2] (.t 54) (.t 56) (.t 57))] [3,4,34,35,36]))))
 (xR [xA 58 (.bin .add (.t 36) (xi 1)),xM 36 58] [3,4,34,35,36])))))
def f46_l0:ACode:=.loop f46_b0
theorem u46_l0:LpEq f46_l0 f46_b0:=K_loop
def f46_b1:ACode:=(.wrap false [3,99,100,101] [2] [(3,[3])]
 (.seq (xR [xA 102 (.bin .lss (.t 101) (.t 100))] [3,99,100,101,102])
 (.seq (.cond (.t 102)
 .skip
 (.exit 3))
 (.seq (.block 4 (.seq (xR [xI 103 1 99 101,xL 104 103,xM 8 104] [3,8,99,100,101])
 (.seq (xR [xM 105 3,xA 106 (.nilc (.t 105)),xF 107 4 106,xL 108 107,xM 109 8,xA 110 (.mkm),xZ (.upd [2] (.t 110) (xs ⟨#[79,98,106,101,99,116]⟩) xT),xM 111 110,xZ (.upd [2] (.t 108) (.t 109) (.t 111))] [3,8,99,100,101])
 (xR [xM 112 3,xM 113 8,xM 114 3,xA 115 (.nilc (.t 114)),xF 116 4 115,xL 117 116,xM 118 8,xA 119 (.lkp [2] (.c (.b .nilm)) false (.t 117) (.t 118)),xA 120 (.call 71 [(.t 112),(.t 113),(.t 119)])] [3,99,100,101]))))
 (xR [xA 121 (.bin .add (.t 101) (xi 1)),xM 101 121] [3,99,100,101])))))
def f46_l1:ACode:=.loop f46_b1
theorem u46_l1:LpEq f46_l1 f46_b1:=K_loop
def f46:AFun:=⟨1,
 (.seq (xR [xB 1 0,xA 2 (.mov .own (.k (.c (.b .nilp))))] [1])
 (.seq (xR [xQ 9 1 1,xA 10 (.callb 65 [(.t 9)]),xA 11 (.mkm),xA 12 (.mkm),xA 13 (.build [xc,(.osl 1 []),xc,(.b .nilm),(.b .nilm)] [(2,1,(.t 10)),(3,1,(.t 11)),(4,1,(.t 12))]),xB 14 13,xO 3 14] [1,3])
 (.seq (.seq (xR [xM 15 3,xA 16 (.nilc (.t 15)),xF 17 2 16,xL 18 17,xA 19 (.bin .neq (.t 18) (xi 0))] [1,3,19])
 (.cond (.t 19)
 (.seq (xR [xO 20 3,xO 2 20] [2])
 .ret)
 .skip))
 (.seq (xG [xA 21 (.callb 66 []),xF 22 0 1,xL 23 22,xA 24 (.app 6 112 (.t 21) (.t 23)),xM 4 24] [1,3,4])
 (.seq (xR [xM 25 3,xM 26 4,xH 27 26,xF 28 0 1,xL 29 28,xH 30 29,xA 31 (.bin .sub (.t 27) (.t 30)),xA 32 (.nilc (.t 25)),xF 33 0 32,xS 1 33 31] [3,4])
 (.seq (.seq (xR [xM 34 4,xH 35 34,xA 36 (.mov .cp (xi 0))] [3,4,34,35,36])
 (.block 0 f46_l0))
 (.seq (.block 2 (.seq (xR [xM 60 3,xA 61 (.nilc (.t 60)),xF 62 3 61,xL 63 62,xA 64 (.len 2 (.t 63)),xM 65 4,xH 66 65,xA 67 (.bin .lss (.t 64) (.t 66)),xM 59 67] [3,4,59])
 (.cond (.t 59)
 (xR [xM 68 3,xA 69 (.nilc (.t 68)),xF 70 2 69,xZ (.st 1 (.t 70) (xi 6))] [3])
 (.seq (xR [xM 72 4,xM 73 3,xA 74 (.mkf 68 [(.t 73)] []),xA 75 (.call 67 [(.t 72),(.t 74)]),xM 71 75] [3,71])
 (.cond (.t 71)
 (xR [xM 76 3,xA 77 (.nilc (.t 76)),xF 78 2 77,xZ (.st 1 (.t 78) (xi 5))] [3])
 (.seq (xR [xM 80 3,xA 81 (.nilc (.t 80)),xF 82 1 81,xL 83 82,xM 84 3,xA 85 (.mkf 70 [(.t 84)] []),xA 86 (.call 69 [(.t 83),(.t 85)]),xM 79 86] [3,79])
 (.cond (.t 79)
 (xR [xM 87 3,xA 88 (.nilc (.t 87)),xF 89 2 88,xZ (.st 1 (.t 89) (xi 7))] [3])
 .skip)))))))
 (.seq (.seq (xR [xM 90 3,xA 91 (.nilc (.t 90)),xF 92 2 91,xL 93 92,xA 94 (.bin .neq (.t 93) (xi 0))] [3,94])
 (.cond (.t 94)
 (.seq (xR [xO 95 3,xO 2 95] [2])
 .ret)
 .skip))
 (.seq (.seq (xR [xM 96 3,xA 97 (.nilc (.t 96)),xF 98 1 97,xL 99 98,xH 100 99,xA 101 (.mov .cp (xi 0))] [3,99,100,101])
 (.block 3 f46_l1))
 (.seq (xR [xO 122 3,xO 2 122] [2])
 .ret)))))))))),[(.tmp 2)],.free,false,false⟩
def f53:AFun:=⟨2,
 (.seq (xR [xA 4 (.alloc [xa,xb,xa,(.osl 1 []),(.osl 4 []),(.osl 9 [])]),xA 5 (.mov .own xU)] [0,1,4])
 (.seq (xR [xM 9 0,xA 10 (.nilc (.t 9)),xF 11 3 10,xL 12 11,xM 13 1,xA 14 (.lkp [2] (.agg [xa,xb,xa,xd,xd,xd]) true (.t 12) (.t 13)),xO 8 14,xE 15 0 8,xE 16 1 8,xA 6 (.alloc [xa,xb,xa,(.osl 1 []),(.osl 4 []),(.osl 9 [])]),xS 6 6 15,xM 7 16] [0,4,6,7])
 (.seq (xG [xA 17 (.ldn (some 6) (.t 6) (.t 6)),xM 18 7,xM 19 18,xMT 20 0 19,xAT 21 (.nilc (.t 20)) 19,xFT 22 2 21 19,xAT 23 (.ldn none (.t 22) (.t 0)) 19,xAT 24 (.bin .eql (.t 23) (xi 0)) 19,xA 25 (.pick (.t 19) (.t 24) xU),xZ (.stl 6 (.t 4) (.t 17) [0,6]),xM 5 25] [4,5])
 .ret))),[(.cell 4 (some 6)),(.tmp 5)],.pure,false,false⟩
def f116:AFun:=⟨2,
 (.seq (xR [xA 4 (.mov .own (xs ⟨#[]⟩)),xA 5 (.mov .own xU)] [0,1])
 (.seq (xR [xM 9 0,xM 10 1,xA 11 (.call 53 [(.t 9),(.t 10)]),xO 8 11,xE 12 0 8,xE 13 1 8,xA 6 (.alloc [xa,xb,xa,(.osl 1 []),(.osl 4 []),(.osl 9 [])]),xS 6 6 12,xM 7 13] [0,6,7])
 (.seq (.seq (xR [xM 14 7,xN 15 14] [0,6,15])
 (.cond (.t 15)
 (.seq (xR [xA 4 (.mov .own (xs ⟨#[]⟩)),xA 5 (.mov .own xU)] [4,5])
 .ret)
 .skip))
 (.seq (xR [xM 16 0,xQ 17 6 6,xA 18 (.call 85 [(.t 16),(.t 17)]),xE 19 0 18,xE 20 1 18,xO 4 19,xO 5 20] [4,5])
 .ret)))),[(.tmp 4),(.tmp 5)],.pure,false,false⟩
def f148_b0:ACode:=(.wrap true [0,1,3] [] [(0,[])]
 (.seq (.seq (xR [xM 7 3,xA 8 (.bin .geq (.t 7) (xi 0))] [0,1,3,8])
 (.cond (.t 8)
 .skip
 (.exit 0)))
 (.seq (.block 1 (.seq (xR [xM 11 0,xM 12 3,xL 13 1,xM 14 3,xI 15 1 13 14,xL 16 15,xA 17 (.callv (.t 11) [(.t 12),(.t 16)]),xN 18 17] [0,1,3,18])
 (.cond (.t 18)
 .ret
 .skip)))
 (xR [xM 9 3,xA 10 (.bin .sub (.t 9) (xi 1)),xM 3 10] [0,1,3]))))
def f148_l0:ACode:=.loop f148_b0
def f148:AFun:=⟨2,
 (.seq (xR [xL 4 1,xH 5 4,xA 6 (.bin .sub (.t 5) (xi 1)),xM 3 6] [0,1,3])
 (.block 0 f148_l0)),[],.pure,false,false⟩
def f117:AFun:=⟨1,
 (.seq (xR [xB 1 0,xA 2 (.mov .own (.k (.c .nilf)))] [1])
 (.seq (xR [xA 3 (.mkf 148 [] [(.t 1)]),xO 2 3] [2])
 .ret)),[(.tmp 2)],.free,false,false⟩
def f149_b0:ACode:=(.wrap true [0,1,3] [] [(0,[])]
 (.seq (.seq (xR [xM 7 3,xA 8 (.bin .geq (.t 7) (xi 0))] [0,1,3,8])
 (.cond (.t 8)
 .skip
 (.exit 0)))
 (.seq (.block 1 (.seq (xR [xM 11 0,xM 12 3,xL 13 1,xM 14 3,xI 15 9 13 14,xQ 16 9 15,xA 17 (.callv (.t 11) [(.t 12),(.t 16)]),xN 18 17] [0,1,3,18])
 (.cond (.t 18)
 .ret
 .skip)))
 (xR [xM 9 3,xA 10 (.bin .sub (.t 9) (xi 1)),xM 3 10] [0,1,3]))))
def f149_l0:ACode:=.loop f149_b0
def f149:AFun:=⟨2,
 (.seq (xR [xL 4 1,xH 5 4,xA 6 (.bin .sub (.t 5) (xi 1)),xM 3 6] [0,1,3])
 (.block 0 f149_l0)),[],.pure,false,false⟩
def f118:AFun:=⟨1,
 (.seq (xR [xB 1 0,xA 2 (.mov .own (.k (.c .nilf)))] [1])
 (.seq (xR [xA 3 (.mkf 149 [] [(.t 1)]),xO 2 3] [2])
 .ret)),[(.tmp 2)],.free,false,false⟩
def f91_b0:ACode:=(.wrap true [2,3,4,5,6] [] [(0,[2,3,4])]
 (.seq (.seq (xR [xM 16 6] [2,3,4,5,16])
 (.cond (.t 16)
 .skip
 (.exit 0)))
 (.seq (.block 1 (xR [xO 26 4,xM 27 5,xA 28 (.bsl .own 1 1 [xa] [(0,(.t 27))]),xA 29 (.app 1 16 (.t 26) (.t 28)),xO 4 29] [2,3,4,5]))
 (xR [xL 18 2,xA 19 (.nilc (.t 18)),xF 20 4 19,xL 21 20,xM 22 5,xA 23 (.call 116 [(.t 21),(.t 22)]),xO 17 23,xE 24 0 17,xE 25 1 17,xM 5 24,xM 6 25] [2,3,4,5,6]))))
def f91_l0:ACode:=.loop f91_b0
theorem u91_l0:LpEq f91_l0 f91_b0:=K_loop
def f91_b1:ACode:=(.wrap true [2,3,8,9,50,51,52] [] [(4,[2,3,8,9])]
 (.seq (xR [xA 53 (.bin .lss (.t 52) (.t 51))] [2,3,8,9,50,51,52,53])
 (.seq (.cond (.t 53)
 .skip
 (.exit 4))
 (.seq (.block 5 (.seq (xR [xI 54 4 50 52,xQ 55 4 54,xA 12 (.alloc [xa,xc,xa,xb]),xS 4 12 55] [2,3,8,9,12,50,51,52])
 (.seq (xR [xF 56 3 12,xL 57 56,xN 58 57] [2,3,8,9,12,50,51,52,58])
 (.cond (.t 58)
 (xG [xL 59 2,xA 60 (.nilc (.t 59)),xF 61 7 60,xL 62 61,xL 63 3,xL 64 2,xA 65 (.nilc (.t 64)),xF 66 7 65,xL 67 66,xL 68 3,xA 69 (.lko [2] 4 (.t 67) (.t 68)),xL 70 8,xF 71 0 12,xL 72 71,xF 73 1 12,xQ 74 2 73,xA 75 (.build [xa,xa,xc,xa] [(0,1,(.t 70)),(1,1,(.t 72)),(2,2,(.t 74))]),xA 76 (.bsl .own 4 1 [xa,xa,xc,xa] [(0,(.t 75))]),xA 77 (.app 4 56 (.t 69) (.t 76)),xZ (.updo [2] (.t 62) (.t 63) (.t 77))] [2,3,8,9,50,51,52])
 .skip))))
 (xR [xA 78 (.bin .add (.t 52) (xi 1)),xM 52 78] [2,3,8,9,50,51,52])))))
def f91_l1:ACode:=.loop f91_b1
theorem u91_l1:LpEq f91_l1 f91_b1:=K_loop
def f91_a0:ACode:=(xR [xA 14 (.alloc [xa,xb,xb,(.osl 2 []),xc,xa,xc,(.osl 4 []),(.osl 4 [])]),xS 9 14 83] [2,3,8,14])
def f91_y0:ACode:=(.block 7 (xG [xL 84 2,xA 85 (.nilc (.t 84)),xF 86 9 85,xL 87 86,xL 88 3,xF 89 0 14,xL 90 89,xA 91 (.build [xa,xa] [(0,1,(.t 88)),(1,1,(.t 90))]),xL 92 2,xA 93 (.nilc (.t 92)),xF 94 10 93,xL 95 94,xL 96 3,xF 97 0 14,xL 98 97,xA 99 (.build [xa,xa] [(0,1,(.t 96)),(1,1,(.t 98))]),xQ 100 9 14,xL 101 8,xA 102 (.ment [2,2] (.t 87) (.t 91)),xA 103 (.exd 1 (.t 102)),xZ (.estr (.t 87) (.t 103) (.t 100)),xA 104 (.ment [2,2] (.t 95) (.t 99)),xA 105 (.exd 1 (.t 104)),xZ (.estr (.t 95) (.t 105) (.t 101))] []))
def f91_r0:ACode:=.rng 149 (.t 81) 82 83 9 true f91_a0 f91_y0
theorem u91_r0 {bd:Bd} {s:St} {β:Type} {k:AExit→St→Option β} {fns:Nat→Option AFun}:K fns bd f91_r0 s k=(match rngGo bd 149 9 true (.t 81) s with
 | some (rows,σ)=>KR fns bd 82 83 true f91_a0 f91_y0 (downE s.env) rows σ fun σ'=>k .normal ⟨s.env,σ'⟩
 | none=>none):=K_rng
def f91_a1:ACode:=(xR [xA 8 (.alloc [xa]),xS 1 8 39] [2,3,8])
def f91_y1:ACode:=(.block 3 (.seq (xG [xL 41 2,xA 42 (.nilc (.t 41)),xF 43 4 42,xL 44 43,xL 45 8,xA 46 (.callp 53 [(.t 44),(.t 45)]),xO 40 46,xA 47 (.exd 0 (.t 40)),xA 48 (.exd 1 (.t 40)),xA 9 (.alloc [xa,xb,xa,(.osl 1 []),(.osl 4 []),(.osl 9 [])]),xS 6 9 47,xM 10 48] [2,3,8,9])
 (.seq (.seq (xR [xF 49 4 9,xL 50 49,xH 51 50,xA 52 (.mov .cp (xi 0))] [2,3,8,9,50,51,52])
 (.block 4 f91_l1))
 (.seq (xR [xF 79 5 9,xL 80 79,xA 81 (.call 118 [(.t 80)])] [2,3,8,81])
 (.block 6 f91_r0)))))
def f91_r1:ACode:=.rng 148 (.t 37) 38 39 1 false f91_a1 f91_y1
theorem u91_r1 {bd:Bd} {s:St} {β:Type} {k:AExit→St→Option β} {fns:Nat→Option AFun}:K fns bd f91_r1 s k=(match rngGo bd 148 1 false (.t 37) s with
 | some (rows,σ)=>KR fns bd 38 39 false f91_a1 f91_y1 (downE s.env) rows σ fun σ'=>k .normal ⟨s.env,σ'⟩
 | none=>none):=K_rng
def f91:AFun:=⟨2,
 (.seq (xR [xB 2 0,xB 3 1] [2,3])
 (.seq (xR [xA 4 (.mov .own (.k (.c (.osl 1 []))))] [2,3,4])
 (.seq (.seq (xR [xL 15 3,xM 5 15,xA 6 (.mov .cp xT)] [2,3,4,5,6])
 (.block 0 f91_l0))
 (.seq (xG [xL 30 2,xA 31 (.nilc (.t 30)),xF 32 6 31,xL 33 32,xL 34 3,xM 35 4,xZ (.upd [2] (.t 33) (.t 34) (.t 35))] [2,3,4])
 (.seq (xR [xM 36 4,xA 37 (.call 117 [(.t 36)])] [2,3,37])
 (.block 2 f91_r1)))))),[],.free,false,false⟩
def f120:AFun:=⟨1,
 (.seq (xR [xB 1 0,xA 2 (.mov .own xU)] [1])
 (.seq (xR [xF 3 0 1,xL 4 3,xA 5 (.bin .eql (.t 4) (xi 1)),xO 2 5] [2])
 .ret)),[(.tmp 2)],.pure,false,false⟩
def f205:AFun:=⟨1,
 (.seq (xR [xA 2 (.mov .own xU)] [0])
 (.seq (xR [xM 3 0,xM 4 0,xA 5 (.bin .neq (.t 3) (.t 4)),xO 2 5] [2])
 .ret)),[(.tmp 2)],.pure,false,false⟩
def f195:AFun:=⟨2,
 (.seq (xR [xA 4 (.mov .own xU)] [0,1])
 (.seq (xR [xM 5 0,xA 6 (.callb 205 [(.t 5)]),xM 7 6,xMT 8 1 7,xAT 9 (.callb 205 [(.t 8)]) 7,xNT 10 9 7,xA 11 (.pick (.t 7) (.t 10) xU),xM 12 11,xMF 13 0 12,xMF 14 1 12,xAF 15 (.bin .lss (.t 13) (.t 14)) 12,xA 16 (.pick (.t 12) xT (.t 15)),xO 4 16] [4])
 .ret)),[(.tmp 4)],.pure,false,false⟩
def f189_b0:ACode:=(.wrap true [0,1,2,6,7] [] [(2,[0,1,2,6])]
 (.seq (.seq (xG [xM 16 7,xM 17 1,xA 18 (.bin .gtr (.t 16) (.t 17)),xM 19 18,xMT 20 0 19,xMT 21 7 19,xIT 22 1 20 21 19,xLT 23 22 19,xMT 24 0 19,xMT 25 7 19,xAT 26 (.bin .sub (.t 25) (xi 1)) 19,xIT 27 1 24 26 19,xLT 28 27 19,xAT 29 (.callb 195 [(.t 23),(.t 28)]) 19,xA 30 (.pick (.t 19) (.t 29) xU)] [0,1,2,6,7,30])
 (.cond (.t 30)
 .skip
 (.exit 2)))
 (.seq (.block 3 (xG [xM 33 0,xM 34 7,xM 35 0,xM 36 7,xA 37 (.bin .sub (.t 36) (xi 1)),xM 38 0,xM 39 7,xA 40 (.bin .sub (.t 39) (xi 1)),xI 41 1 38 40,xL 42 41,xM 43 0,xM 44 7,xI 45 1 43 44,xL 46 45,xI 47 1 33 34,xS 1 47 42,xI 48 1 35 37,xS 1 48 46] [0,1,2,6,7]))
 (xR [xM 31 7,xA 32 (.bin .sub (.t 31) (xi 1)),xM 7 32] [0,1,2,6,7]))))
def f189_l0:ACode:=.loop f189_b0
theorem u189_l0:LpEq f189_l0 f189_b0:=K_loop
def f189_b1:ACode:=(.wrap true [0,1,2,6] [] [(0,[])]
 (.seq (.seq (xR [xM 10 6,xM 11 2,xA 12 (.bin .lss (.t 10) (.t 11))] [0,1,2,6,12])
 (.cond (.t 12)
 .skip
 (.exit 0)))
 (.seq (.block 1 (.seq (xR [xM 15 6,xM 7 15] [0,1,2,6,7])
 (.block 2 f189_l0)))
 (xR [xM 13 6,xA 14 (.bin .add (.t 13) (xi 1)),xM 6 14] [0,1,2,6]))))
def f189_l1:ACode:=.loop f189_b1
theorem u189_l1:LpEq f189_l1 f189_b1:=K_loop
def f189:AFun:=⟨3,
 (.seq (xR [xM 8 1,xA 9 (.bin .add (.t 8) (xi 1)),xM 6 9] [0,1,2,6])
 (.block 0 f189_l1)),[],.trim,false,false⟩
def f198:AFun:=⟨1,
 (.seq (xR [xA 2 (.mov .own (xi 0))] [0,2])
 (.seq (.seq (xR [xM 3 0,xA 4 (.bin .geq (.t 3) (.k (.c (.b (.d (.int .u32 65536))))))] [0,2,4])
 (.cond (.t 4)
 (.seq (xR [xM 5 0,xA 6 (.bin .shr (.t 5) (.k (.c (.b (.d (.int .u64 16)))))),xM 0 6] [0])
 (xR [xA 2 (.mov .own (xi 16))] [0,2]))
 .skip))
 (.seq (.seq (xR [xM 7 0,xA 8 (.bin .geq (.t 7) (.k (.c (.b (.d (.int .u32 256))))))] [0,2,8])
 (.cond (.t 8)
 (.seq (xR [xM 9 0,xA 10 (.bin .shr (.t 9) (.k (.c (.b (.d (.int .u64 8)))))),xM 0 10] [0,2])
 (xR [xM 11 2,xA 12 (.bin .add (.t 11) (xi 8)),xO 2 12] [0,2]))
 .skip))
 (.seq (xR [xM 13 2,xM 14 0,xA 15 (.conv .u8 (.t 14)),xA 16 (.ixs (xs ⟨#[0,1,2,2,3,3,3,3,4,4,4,4,4,4,4,4,5,5,5,5,5,5,5,5,5,5,5,5,5,5,5,5,6,6,6,6,6,6,6,6,6,6,6,6,6,6,6,6,6,6,6,6,6,6,6,6,6,6,6,6,6,6,6,6,7,7,7,7,7,7,7,7,7,7,7,7,7,7,7,7,7,7,7,7,7,7,7,7,7,7,7,7,7,7,7,7,7,7,7,7,7,7,7,7,7,7,7,7,7,7,7,7,7,7,7,7,7,7,7,7,7,7,7,7,7,7,7,7,8,8,8,8,8,8,8,8,8,8,8,8,8,8,8,8,8,8,8,8,8,8,8,8,8,8,8,8,8,8,8,8,8,8,8,8,8,8,8,8,8,8,8,8,8,8,8,8,8,8,8,8,8,8,8,8,8,8,8,8,8,8,8,8,8,8,8,8,8,8,8,8,8,8,8,8,8,8,8,8,8,8,8,8,8,8,8,8,8,8,8,8,8,8,8,8,8,8,8,8,8,8,8,8,8,8,8,8,8,8,8,8,8,8,8,8,8,8,8,8,8,8,8,8,8,8,8,8]⟩) (.t 15)),xA 17 (.conv .i64 (.t 16)),xA 18 (.bin .add (.t 13) (.t 17)),xO 2 18] [2])
 .ret)))),[(.tmp 2)],.pure,false,false⟩
def f199:AFun:=⟨1,
 (.seq (xR [xA 2 (.mov .own (xi 0))] [0,2])
 (.seq (.seq (xR [xM 3 0,xA 4 (.bin .geq (.t 3) (.k (.c (.b (.d (.int .u64 4294967296))))))] [0,2,4])
 (.cond (.t 4)
 (.seq (xR [xM 5 0,xA 6 (.bin .shr (.t 5) (.k (.c (.b (.d (.int .u64 32)))))),xM 0 6] [0])
 (xR [xA 2 (.mov .own (xi 32))] [0,2]))
 .skip))
 (.seq (.seq (xR [xM 7 0,xA 8 (.bin .geq (.t 7) (.k (.c (.b (.d (.int .u64 65536))))))] [0,2,8])
 (.cond (.t 8)
 (.seq (xR [xM 9 0,xA 10 (.bin .shr (.t 9) (.k (.c (.b (.d (.int .u64 16)))))),xM 0 10] [0,2])
 (xR [xM 11 2,xA 12 (.bin .add (.t 11) (xi 16)),xO 2 12] [0,2]))
 .skip))
 (.seq (.seq (xR [xM 13 0,xA 14 (.bin .geq (.t 13) (.k (.c (.b (.d (.int .u64 256))))))] [0,2,14])
 (.cond (.t 14)
 (.seq (xR [xM 15 0,xA 16 (.bin .shr (.t 15) (.k (.c (.b (.d (.int .u64 8)))))),xM 0 16] [0,2])
 (xR [xM 17 2,xA 18 (.bin .add (.t 17) (xi 8)),xO 2 18] [0,2]))
 .skip))
 (.seq (xR [xM 19 2,xM 20 0,xA 21 (.conv .u8 (.t 20)),xA 22 (.ixs (xs ⟨#[0,1,2,2,3,3,3,3,4,4,4,4,4,4,4,4,5,5,5,5,5,5,5,5,5,5,5,5,5,5,5,5,6,6,6,6,6,6,6,6,6,6,6,6,6,6,6,6,6,6,6,6,6,6,6,6,6,6,6,6,6,6,6,6,7,7,7,7,7,7,7,7,7,7,7,7,7,7,7,7,7,7,7,7,7,7,7,7,7,7,7,7,7,7,7,7,7,7,7,7,7,7,7,7,7,7,7,7,7,7,7,7,7,7,7,7,7,7,7,7,7,7,7,7,7,7,7,7,8,8,8,8,8,8,8,8,8,8,8,8,8,8,8,8,8,8,8,8,8,8,8,8,8,8,8,8,8,8,8,8,8,8,8,8,8,8,8,8,8,8,8,8,8,8,8,8,8,8,8,8,8,8,8,8,8,8,8,8,8,8,8,8,8,8,8,8,8,8,8,8,8,8,8,8,8,8,8,8,8,8,8,8,8,8,8,8,8,8,8,8,8,8,8,8,8,8,8,8,8,8,8,8,8,8,8,8,8,8,8,8,8,8,8,8,8,8,8,8,8,8,8,8,8,8,8,8]⟩) (.t 21)),xA 23 (.conv .i64 (.t 22)),xA 24 (.bin .add (.t 19) (.t 23)),xO 2 24] [2])
 .ret))))),[(.tmp 2)],.pure,false,false⟩
def f178:AFun:=⟨1,
 (.seq (xR [xA 2 (.mov .own (xi 0))] [0])
 (.seq (.cond (.k (.c (.b (.d (.bool false)))))
 (.seq (xR [xM 3 0,xA 4 (.conv .u32 (.t 3)),xA 5 (.callb 198 [(.t 4)]),xO 2 5] [2])
 .ret)
 .skip)
 (.seq (xR [xM 6 0,xA 7 (.callb 199 [(.t 6)]),xO 2 7] [2])
 .ret))),[(.tmp 2)],.pure,false,false⟩
def f201:AFun:=⟨1,
 (.seq (xR [xA 2 (.mov .own (.k (.c (.b (.d (.int .u64 0))))))] [0])
 (.seq (xR [xM 3 0,xA 4 (.conv .u64 (.t 3)),xA 5 (.callb 178 [(.t 4)]),xA 6 (.bin .shl (.k (.c (.b (.d (.int .u64 1))))) (.t 5)),xO 2 6] [2])
 .ret)),[(.tmp 2)],.pure,false,false⟩
def f202:AFun:=⟨1,
 (.seq (xR [xA 2 (.mov .own (.k (.c (.b (.d (.int .u64 0))))))] [0])
 (.seq (xG [xM 3 0,xA 4 (.nilc (.t 3)),xL 5 4,xM 6 0,xA 7 (.nilc (.t 6)),xL 8 7,xA 9 (.bin .shl (.t 8) (.k (.c (.b (.d (.int .u64 13)))))),xA 10 (.bin .xor (.t 5) (.t 9)),xA 11 (.nilc (.t 3)),xS 1 11 10] [0])
 (.seq (xG [xM 12 0,xA 13 (.nilc (.t 12)),xL 14 13,xM 15 0,xA 16 (.nilc (.t 15)),xL 17 16,xA 18 (.bin .shr (.t 17) (.k (.c (.b (.d (.int .u64 7)))))),xA 19 (.bin .xor (.t 14) (.t 18)),xA 20 (.nilc (.t 12)),xS 1 20 19] [0])
 (.seq (xG [xM 21 0,xA 22 (.nilc (.t 21)),xL 23 22,xM 24 0,xA 25 (.nilc (.t 24)),xL 26 25,xA 27 (.bin .shl (.t 26) (.k (.c (.b (.d (.int .u64 17)))))),xA 28 (.bin .xor (.t 23) (.t 27)),xA 29 (.nilc (.t 21)),xS 1 29 28] [0])
 (.seq (xR [xM 30 0,xA 31 (.nilc (.t 30)),xL 32 31,xO 2 32] [2])
 .ret))))),[(.tmp 2)],.pure,false,false⟩
def f206:AFun:=⟨4,
 (.seq (xR [xA 8 (.mov .own (xi 0)),xA 9 (.mov .own (xi 0))] [0,1,2,3])
 (.seq (.seq (xG [xM 10 0,xM 11 2,xI 12 1 10 11,xL 13 12,xM 14 0,xM 15 1,xI 16 1 14 15,xL 17 16,xA 18 (.callb 195 [(.t 13),(.t 17)])] [1,2,3,18])
 (.cond (.t 18)
 (.seq (xR [xM 19 3,xA 20 (.nilc (.t 19)),xL 21 20,xA 22 (.bin .add (.t 21) (xi 1)),xA 23 (.nilc (.t 19)),xS 1 23 22] [1,2])
 (.seq (xR [xO 24 2,xO 25 1,xO 8 24,xO 9 25] [8,9])
 .ret))
 .skip))
 (.seq (xR [xO 26 1,xO 27 2,xO 8 26,xO 9 27] [8,9])
 .ret))),[(.tmp 8),(.tmp 9)],.pure,false,false⟩
def f204:AFun:=⟨5,
 (.seq (xR [xA 10 (.mov .own (xi 0))] [0,1,2,3,4])
 (.seq (xR [xM 12 0,xM 13 1,xM 14 2,xM 15 4,xA 16 (.call 206 [(.t 12),(.t 13),(.t 14),(.t 15)]),xO 11 16,xE 17 0 11,xE 18 1 11,xM 1 17,xO 2 18] [0,1,2,3,4])
 (.seq (xR [xM 20 0,xM 21 2,xM 22 3,xM 23 4,xA 24 (.call 206 [(.t 20),(.t 21),(.t 22),(.t 23)]),xO 19 24,xE 25 0 19,xE 26 1 19,xO 2 25,xM 3 26] [0,1,2,4])
 (.seq (xR [xM 28 0,xM 29 1,xM 30 2,xM 31 4,xA 32 (.call 206 [(.t 28),(.t 29),(.t 30),(.t 31)]),xO 27 32,xE 33 0 27,xE 34 1 27,xM 1 33,xO 2 34] [2])
 (.seq (xR [xO 35 2,xO 10 35] [10])
 .ret))))),[(.tmp 10)],.pure,false,false⟩
def f203:AFun:=⟨3,
 (.seq (xR [xA 6 (.mov .own (xi 0))] [0,1,2])
 (.seq (xR [xM 7 0,xM 8 1,xA 9 (.bin .sub (.t 8) (xi 1)),xM 10 1,xM 11 1,xA 12 (.bin .add (.t 11) (xi 1)),xM 13 2,xA 14 (.call 204 [(.t 7),(.t 9),(.t 10),(.t 12),(.t 13)]),xO 6 14] [6])
 .ret)),[(.tmp 6)],.pure,false,false⟩
def f177_b0:ACode:=(.wrap true [0,1,2,3,8,9] [] []
 (.block 1 (.seq (xR [xM 19 2,xM 20 1,xA 21 (.bin .sub (.t 19) (.t 20)),xM 10 21] [0,1,2,3,8,9,10])
 (.seq (.seq (xR [xM 22 10,xA 23 (.bin .leq (.t 22) (xi 12))] [0,1,2,3,8,9,10,23])
 (.cond (.t 23)
 (.seq (xR [xM 24 0,xM 25 1,xM 26 2,xA 27 (.call 189 [(.t 24),(.t 25),(.t 26)])] [])
 .ret)
 .skip))
 (.seq (.seq (xR [xM 28 3,xA 29 (.bin .eql (.t 28) (xi 0))] [0,1,2,3,8,9,10,29])
 (.cond (.t 29)
 (.seq (xR [xM 30 0,xM 31 1,xM 32 2,xA 33 (.callb 190 [(.t 30),(.t 31),(.t 32)])] [])
 .ret)
 .skip))
 (.seq (.seq (xR [xM 34 8,xN 35 34] [0,1,2,3,8,9,10,35])
 (.cond (.t 35)
 (.seq (xR [xM 36 0,xM 37 1,xM 38 2,xA 39 (.callb 191 [(.t 36),(.t 37),(.t 38)])] [0,1,2,3,8,9,10])
 (xR [xM 40 3,xA 41 (.bin .sub (.t 40) (xi 1)),xM 3 41] [0,1,2,3,8,9,10]))
 .skip))
 (.seq (xR [xM 43 0,xM 44 1,xM 45 2,xA 46 (.callb 192 [(.t 43),(.t 44),(.t 45)]),xO 42 46,xE 47 0 42,xE 48 1 42,xM 11 47,xM 12 48] [0,1,2,3,8,9,10,11,12])
 (.seq (.seq (xR [xM 49 12,xA 50 (.bin .eql (.t 49) (xi 2))] [0,1,2,3,8,9,10,11,12,50])
 (.cond (.t 50)
 (.seq (xR [xM 51 0,xM 52 1,xM 53 2,xA 54 (.callb 193 [(.t 51),(.t 52),(.t 53)])] [0,1,2,3,8,9,10,11])
 (.seq (xR [xM 55 2,xA 56 (.bin .sub (.t 55) (xi 1)),xM 57 11,xM 58 1,xA 59 (.bin .sub (.t 57) (.t 58)),xA 60 (.bin .sub (.t 56) (.t 59)),xM 11 60] [0,1,2,3,8,9,10,11])
 (xR [xA 12 (.mov .cp (xi 1))] [0,1,2,3,8,9,10,11,12])))
 .skip))
 (.seq (.seq (xR [xM 61 8,xM 62 61,xMT 63 9 62,xA 64 (.pick (.t 62) (.t 63) xU),xM 65 64,xMT 66 12 65,xAT 67 (.bin .eql (.t 66) (xi 1)) 65,xA 68 (.pick (.t 65) (.t 67) xU)] [0,1,2,3,8,9,10,11,68])
 (.cond (.t 68)
 (.seq (xR [xM 69 0,xM 70 1,xM 71 2,xA 72 (.callb 194 [(.t 69),(.t 70),(.t 71)])] [0,1,2,3,8,9,10,11,72])
 (.cond (.t 72)
 .ret
 .skip))
 .skip))
 (.seq (.seq (xG [xM 73 1,xA 74 (.bin .gtr (.t 73) (xi 0)),xM 75 74,xMT 76 0 75,xMT 77 1 75,xAT 78 (.bin .sub (.t 77) (xi 1)) 75,xIT 79 1 76 78 75,xLT 80 79 75,xMT 81 0 75,xMT 82 11 75,xIT 83 1 81 82 75,xLT 84 83 75,xAT 85 (.callb 195 [(.t 80),(.t 84)]) 75,xNT 86 85 75,xA 87 (.pick (.t 75) (.t 86) xU)] [0,1,2,3,8,9,10,11,87])
 (.cond (.t 87)
 (.seq (xR [xM 88 0,xM 89 1,xM 90 2,xM 91 11,xA 92 (.callb 196 [(.t 88),(.t 89),(.t 90),(.t 91)]),xM 13 92] [0,2,3,8,9,13])
 (.seq (xR [xM 93 13,xM 1 93] [0,1,2,3,8,9])
 (.exit 1)))
 .skip))
 (.seq (xR [xM 95 0,xM 96 1,xM 97 2,xM 98 11,xA 99 (.callb 197 [(.t 95),(.t 96),(.t 97),(.t 98)]),xO 94 99,xE 100 0 94,xE 101 1 94,xM 14 100,xM 15 101] [0,1,2,3,10,14,15])
 (.seq (xR [xM 102 15,xM 9 102] [0,1,2,3,9,10,14])
 (.seq (xR [xM 103 14,xM 104 1,xA 105 (.bin .sub (.t 103) (.t 104)),xM 106 2,xM 107 14,xA 108 (.bin .sub (.t 106) (.t 107)),xM 16 105,xM 17 108] [0,1,2,3,9,10,14,16,17])
 (.seq (xR [xM 109 10,xA 110 (.bin .quo (.t 109) (xi 8)),xM 18 110] [0,1,2,3,9,14,16,17,18])
 (.seq (xR [xM 111 16,xM 112 17,xA 113 (.bin .lss (.t 111) (.t 112))] [0,1,2,3,9,14,16,17,18,113])
 (.cond (.t 113)
 (.seq (xR [xM 114 16,xM 115 18,xA 116 (.bin .geq (.t 114) (.t 115)),xM 8 116] [0,1,2,3,8,9,14])
 (.seq (xR [xM 117 0,xM 118 1,xM 119 14,xM 120 3,xA 121 (.call 177 [(.t 117),(.t 118),(.t 119),(.t 120)])] [0,2,3,8,9,14])
 (xR [xM 122 14,xA 123 (.bin .add (.t 122) (xi 1)),xM 1 123] [0,1,2,3,8,9])))
 (.seq (xR [xM 124 17,xM 125 18,xA 126 (.bin .geq (.t 124) (.t 125)),xM 8 126] [0,1,2,3,8,9,14])
 (.seq (xR [xM 127 0,xM 128 14,xA 129 (.bin .add (.t 128) (xi 1)),xM 130 2,xM 131 3,xA 132 (.call 177 [(.t 127),(.t 129),(.t 130),(.t 131)])] [0,1,3,8,9,14])
 (xR [xM 133 14,xM 2 133] [0,1,2,3,8,9])))))))))))))))))))
def f177_l0:ACode:=.loop f177_b0
theorem u177_l0:LpEq f177_l0 f177_b0:=K_loop
def f177:AFun:=⟨4,
 (.seq (xR [xA 8 (.mov .cp xT)] [0,1,2,3,8])
 (.seq (xR [xA 9 (.mov .cp xT)] [0,1,2,3,8,9])
 (.block 0 f177_l0))),[],.trim,false,false⟩
def f151:AFun:=⟨1,
 (.seq (xR [xM 3 0,xH 4 3,xM 2 4] [0,2])
 (xR [xM 5 0,xM 6 2,xM 7 2,xA 8 (.conv .u64 (.t 7)),xA 9 (.callb 178 [(.t 8)]),xA 10 (.call 177 [(.t 5),(xi 0),(.t 6),(.t 9)])] [])),[],.trim,false,false⟩
def f152_b0:ACode:=(.wrap true [0,3,4,5] [2] [(2,[0,3])]
 (.seq (.seq (xR [xM 29 5,xM 30 4,xH 31 30,xA 32 (.bin .lss (.t 29) (.t 31))] [0,3,4,5,32])
 (.cond (.t 32)
 .skip
 (.exit 2)))
 (.seq (.block 3 (.seq (xG [xM 35 4,xM 36 5,xI 37 1 35 36,xL 38 37,xM 39 4,xM 40 5,xA 41 (.bin .sub (.t 40) (xi 1)),xI 42 1 39 41,xL 43 42,xA 44 (.bin .neq (.t 38) (.t 43))] [0,3,4,5,44])
 (.cond (.t 44)
 (.seq (xR [xM 45 0,xM 46 3,xM 47 4,xM 48 5,xI 49 1 47 48,xL 50 49,xI 51 1 45 46,xS 1 51 50] [0,3,4,5])
 (xR [xM 52 3,xA 53 (.bin .add (.t 52) (xi 1)),xM 3 53] [0,3,4,5]))
 .skip)))
 (xR [xM 33 5,xA 34 (.bin .add (.t 33) (xi 1)),xM 5 34] [0,3,4,5]))))
def f152_l0:ACode:=.loop f152_b0
theorem u152_l0:LpEq f152_l0 f152_b0:=K_loop
def f152_b1:ACode:=(.wrap true [0,3] [2] [(0,[0])]
 (.seq (.seq (xR [xM 10 3,xM 11 0,xH 12 11,xA 13 (.bin .lss (.t 10) (.t 12))] [0,3,13])
 (.cond (.t 13)
 .skip
 (.exit 0)))
 (.seq (.block 1 (.seq (xG [xM 16 0,xM 17 3,xI 18 1 16 17,xL 19 18,xM 20 0,xM 21 3,xA 22 (.bin .sub (.t 21) (xi 1)),xI 23 1 20 22,xL 24 23,xA 25 (.bin .eql (.t 19) (.t 24))] [0,3,25])
 (.cond (.t 25)
 (.seq (xR [xM 26 0,xM 27 3,xA 28 (.slc .cp 1 (.t 26) (some (.t 27)) none),xM 4 28] [0,3,4])
 (.seq (.seq (xR [xA 5 (.mov .cp (xi 1))] [0,3,4,5])
 (.block 2 f152_l0))
 (.seq (xR [xM 54 0,xM 55 3,xA 56 (.slc .cp 1 (.t 54) (some (.t 55)) none),xZ (.clr 1 [xa] (.t 56))] [0,3])
 (.seq (xR [xM 57 0,xM 58 3,xA 59 (.slc .cp 1 (.t 57) none (some (.t 58))),xM 2 59] [2])
 .ret))))
 .skip)))
 (xR [xM 14 3,xA 15 (.bin .add (.t 14) (xi 1)),xM 3 15] [0,3]))))
def f152_l1:ACode:=.loop f152_b1
theorem u152_l1:LpEq f152_l1 f152_b1:=K_loop
def f152:AFun:=⟨1,
 (.seq (xR [xA 2 (.mov .cp (.k (.c (.b .nils))))] [0])
 (.seq (.seq (xR [xM 6 0,xH 7 6,xA 8 (.bin .lss (.t 7) (xi 2))] [0,8])
 (.cond (.t 8)
 (.seq (xR [xM 9 0,xM 2 9] [2])
 .ret)
 .skip))
 (.seq (.seq (xR [xA 3 (.mov .cp (xi 1))] [0,3])
 (.block 0 f152_l1))
 (.seq (xR [xM 60 0,xM 2 60] [2])
 .ret)))),[(.tmp 2)],.trim,false,false⟩
def f121:AFun:=⟨1,
 (.seq (xR [xA 2 (.mov .own xU)] [0])
 (.seq (xR [xM 3 0,xA 4 (.call 151 [(.t 3)])] [0])
 (.seq (xR [xM 5 0,xA 6 (.call 152 [(.t 5)]),xH 7 6,xM 8 0,xH 9 8,xA 10 (.bin .lss (.t 7) (.t 9)),xO 2 10] [2])
 .ret))),[(.tmp 2)],.trim,false,false⟩
def f122:AFun:=⟨2,
 (.seq (xR [xB 3 1,xA 4 (.mov .own xU)] [0,3])
 (.seq (xG [xM 8 0,xA 9 (.nilc (.t 8)),xF 10 4 9,xL 11 10,xF 12 1 3,xL 13 12,xA 14 (.callp 53 [(.t 11),(.t 13)]),xO 7 14,xA 15 (.exd 0 (.t 7)),xA 16 (.exd 1 (.t 7)),xA 5 (.alloc [xa,xb,xa,(.osl 1 []),(.osl 4 []),(.osl 9 [])]),xS 6 5 15,xM 6 16] [3,6])
 (.seq (xR [xF 17 1 3,xL 18 17,xA 19 (.bin .neq (.t 18) (xs ⟨#[]⟩)),xM 20 19,xMT 21 6 20,xNT 22 21 20,xA 23 (.pick (.t 20) (.t 22) xU),xO 4 23] [4])
 .ret))),[(.tmp 4)],.pure,false,false⟩
def f92_b0:ACode:=(.wrap false [0,3,5,6,7,8,14,15,16] [4] [(0,[0,3,5,6,7,8])]
 (.seq (xR [xA 17 (.bin .lss (.t 16) (.t 15))] [0,3,5,6,7,8,14,15,16,17])
 (.seq (.cond (.t 17)
 .skip
 (.exit 0))
 (.seq (.block 1 (.seq (xR [xI 18 4 14 16,xQ 19 4 18,xA 10 (.alloc [xa,xc,xa,xb]),xS 4 10 19] [0,3,5,6,7,8,10,14,15,16])
 (xG [xM 20 5,xF 21 0 10,xA 22 (.ldn none (.t 21) (.t 10)),xA 23 (.bsl .own 1 1 [xa] [(0,(.t 22))]),xA 24 (.appl 1 16 (.t 20) (.t 23) [10]),xO 25 8,xF 26 1 10,xA 27 (.ldn (some 2) (.t 26) (.t 10)),xA 28 (.bsl .own 2 1 [xc,xa] [(0,(.t 27))]),xA 29 (.app 2 24 (.t 25) (.t 28)),xM 5 24,xO 8 29] [0,3,5,6,7,8,14,15,16])))
 (xR [xA 30 (.bin .add (.t 16) (xi 1)),xM 16 30] [0,3,5,6,7,8,14,15,16])))))
def f92_l0:ACode:=.loop f92_b0
theorem u92_l0:LpEq f92_l0 f92_b0:=K_loop
def f92_b1:ACode:=(.wrap false [0,3,5,6,7,8,32,33,34] [4] [(2,[0,3,5,6,7,8])]
 (.seq (xR [xA 35 (.bin .lss (.t 34) (.t 33))] [0,3,5,6,7,8,32,33,34,35])
 (.seq (.cond (.t 35)
 .skip
 (.exit 2))
 (.seq (.block 3 (.seq (xR [xI 36 9 32 34,xQ 37 9 36,xA 12 (.alloc [xa,xb,xb,(.osl 2 []),xc,xa,xc,(.osl 4 []),(.osl 4 [])]),xS 9 12 37] [0,3,5,6,7,8,12,32,33,34])
 (.seq (.seq (xR [xF 38 2 12,xL 39 38,xF 40 1 3,xL 41 40,xA 42 (.eq true 0 [] (.t 39) (.t 41)),xM 43 42,xFF 44 1 3 43,xLF 45 44 43,xMF 46 45 43,xFT 47 1 12 46,xLT 48 47 46,xAF 49 (.pick (.t 46) (.t 48) xU) 43,xA 50 (.pick (.t 43) xT (.t 49))] [0,3,5,6,7,8,12,32,33,34,50])
 (.cond (.t 50)
 (.seq (xR [xA 4 (.mov .own (xi 4))] [4])
 .ret)
 .skip))
 (xG [xM 51 6,xF 52 0 12,xA 53 (.ldn none (.t 52) (.t 12)),xA 54 (.bsl .own 1 1 [xa] [(0,(.t 53))]),xA 55 (.appl 1 16 (.t 51) (.t 54) [12]),xO 56 8,xF 57 3 12,xA 58 (.ldn none (.t 57) (.t 12)),xA 59 (.app 2 24 (.t 56) (.t 58)),xO 60 7,xF 61 4 12,xA 62 (.ldn (some 2) (.t 61) (.t 12)),xA 63 (.bsl .own 2 1 [xc,xa] [(0,(.t 62))]),xA 64 (.app 2 24 (.t 60) (.t 63)),xM 6 55,xO 8 59,xO 7 64] [0,3,5,6,7,8,32,33,34]))))
 (xR [xA 65 (.bin .add (.t 34) (xi 1)),xM 34 65] [0,3,5,6,7,8,32,33,34])))))
def f92_l1:ACode:=.loop f92_b1
theorem u92_l1:LpEq f92_l1 f92_b1:=K_loop
def f92:AFun:=⟨2,
 (.seq (xR [xB 3 1,xA 4 (.mov .own (xi 0))] [0,3])
 (.seq (xR [xA 5 (.mov .cp (.k (.c (.b .nils)))),xA 6 (.mov .cp (.k (.c (.b .nils))))] [0,3,5,6])
 (.seq (xR [xA 7 (.mov .own (.k (.c (.osl 2 [])))),xA 8 (.mov .own (.k (.c (.osl 2 []))))] [0,3,5,6,7,8])
 (.seq (.seq (xR [xF 13 4 3,xL 14 13,xH 15 14,xA 16 (.mov .cp (xi 0))] [0,3,5,6,7,8,14,15,16])
 (.block 0 f92_l0))
 (.seq (.seq (xR [xF 31 5 3,xL 32 31,xH 33 32,xA 34 (.mov .cp (xi 0))] [0,3,5,6,7,8,32,33,34])
 (.block 2 f92_l1))
 (.seq (.block 4 (.seq (.seq (xR [xF 67 1 3,xL 68 67,xM 69 68,xFT 70 4 3 69,xLT 71 70 69,xAT 72 (.len 0 (.t 71)) 69,xAT 73 (.bin .gtr (.t 72) (xi 0)) 69,xA 74 (.pick (.t 69) (.t 73) xU),xM 66 74] [0,5,6,7,8,66])
 (.cond (.t 66)
 .skip
 (xR [xM 75 8,xA 76 (.call 119 [(.t 75),(.k (.c (.fn 120 [] [])))]),xM 66 76] [0,5,6,7,8,66])))
 (.cond (.t 66)
 (.seq (xR [xA 4 (.mov .own (xi 4))] [4])
 .ret)
 (.seq (xR [xM 78 5,xA 79 (.call 121 [(.t 78)]),xM 80 79,xMF 81 6 80,xAF 82 (.call 121 [(.t 81)]) 80,xA 83 (.pick (.t 80) xT (.t 82)),xM 77 83] [0,7,8,77])
 (.cond (.t 77)
 (.seq (xR [xA 4 (.mov .own (xi 6))] [4])
 .ret)
 (.seq (xR [xO 85 8,xM 86 7,xA 87 (.app 2 24 (.t 85) (.t 86)),xM 88 0,xA 89 (.mkf 122 [(.t 88)] []),xA 90 (.call 119 [(.t 87),(.t 89)]),xM 84 90] [84])
 (.cond (.t 84)
 (.seq (xR [xA 4 (.mov .own (xi 5))] [4])
 .ret)
 .skip)))))))
 (.seq (xR [xA 4 (.mov .own (xi 0))] [4])
 .ret))))))),[(.tmp 4)],.pure,false,false⟩
def f153_b0:ACode:=(.wrap true [0,1,7,8] [4] [(0,[])]
 (.seq (xR [xA 9 (.bin .lss (.t 8) (.t 7))] [0,1,7,8,9])
 (.seq (.cond (.t 9)
 .skip
 (.exit 0))
 (.seq (.block 1 (.seq (xR [xO 10 8,xO 5 10] [0,1,5,7,8])
 (.seq (xR [xM 11 1,xM 12 0,xM 13 5,xI 14 4 12 13,xQ 15 4 14,xA 16 (.callv (.t 11) [(.t 15)])] [0,1,5,7,8,16])
 (.cond (.t 16)
 (.seq (xR [xO 17 5,xO 4 17] [4])
 .ret)
 .skip))))
 (xR [xA 18 (.bin .add (.t 8) (xi 1)),xO 8 18] [0,1,7,8])))))
def f153_l0:ACode:=.loop f153_b0
theorem u153_l0:LpEq f153_l0 f153_b0:=K_loop
def f153:AFun:=⟨2,
 (.seq (xR [xA 4 (.mov .own (xi 0))] [0,1])
 (.seq (.seq (xR [xM 6 0,xH 7 6,xA 8 (.mov .own (xi 0))] [0,1,7,8])
 (.block 0 f153_l0))
 (.seq (xR [xA 4 (.mov .own (xi (-1)))] [4])
 .ret))),[(.tmp 4)],.pure,false,false⟩
def f123:AFun:=⟨2,
 (.seq (xR [xA 4 (.mov .own xU)] [0,1])
 (.seq (xR [xM 5 0,xM 6 1,xA 7 (.call 153 [(.t 5),(.t 6)]),xA 8 (.bin .geq (.t 7) (xi 0)),xO 4 8] [4])
 .ret)),[(.tmp 4)],.pure,false,false⟩
def f124:AFun:=⟨2,
 (.seq (xR [xB 2 0,xA 3 (.mov .own xU)] [1,2])
 (.seq (xR [xF 4 1 2,xL 5 4,xF 6 0 1,xL 7 6,xA 8 (.bin .eql (.t 5) (.t 7)),xO 3 8] [3])
 .ret)),[(.tmp 3)],.pure,false,false⟩
def f154_b0:ACode:=(.wrap true [0,1,12,13] [4] [(0,[])]
 (.seq (xR [xA 14 (.bin .lss (.t 13) (.t 12))] [0,1,12,13,14])
 (.seq (.cond (.t 14)
 .skip
 (.exit 0))
 (.seq (.block 1 (.seq (xR [xM 15 13,xM 5 15] [0,1,5,12,13])
 (.seq (xG [xM 16 0,xM 17 5,xI 18 2 16 17,xQ 19 2 18,xM 20 1,xM 21 5,xI 22 2 20 21,xQ 23 2 22,xA 24 (.eq true 2 [1,2] (.t 19) (.t 23))] [0,1,12,13,24])
 (.cond (.t 24)
 (.seq (xR [xA 4 (.mov .own xU)] [4])
 .ret)
 .skip))))
 (xR [xA 25 (.bin .add (.t 13) (xi 1)),xM 13 25] [0,1,12,13])))))
def f154_l0:ACode:=.loop f154_b0
theorem u154_l0:LpEq f154_l0 f154_b0:=K_loop
def f154:AFun:=⟨2,
 (.seq (xR [xA 4 (.mov .own xU)] [0,1])
 (.seq (.seq (xR [xM 6 0,xH 7 6,xM 8 1,xH 9 8,xA 10 (.bin .neq (.t 7) (.t 9))] [0,1,10])
 (.cond (.t 10)
 (.seq (xR [xA 4 (.mov .own xU)] [4])
 .ret)
 .skip))
 (.seq (.seq (xR [xM 11 0,xH 12 11,xA 13 (.mov .cp (xi 0))] [0,1,12,13])
 (.block 0 f154_l0))
 (.seq (xR [xA 4 (.mov .own xT)] [4])
 .ret)))),[(.tmp 4)],.pure,false,false⟩
def f125:AFun:=⟨2,
 (.seq (xR [xB 2 0,xB 3 1,xA 4 (.mov .own xU)] [2,3])
 (.seq (xR [xF 5 1 2,xL 6 5,xF 7 1 3,xL 8 7,xA 9 (.eq false 0 [] (.t 6) (.t 8)),xM 10 9,xFT 11 3 2 10,xLT 12 11 10,xFT 13 3 3 10,xLT 14 13 10,xAT 15 (.callb 154 [(.t 12),(.t 14)]) 10,xA 16 (.pick (.t 10) (.t 15) xU),xM 17 16,xFT 18 4 2 17,xAT 19 (.ld .cp (some 2) (.t 18)) 17,xFT 20 4 3 17,xAT 21 (.ld .cp (some 2) (.t 20)) 17,xAT 22 (.eq false 2 [1,2] (.t 19) (.t 21)) 17,xA 23 (.pick (.t 17) (.t 22) xU),xO 4 23] [4])
 .ret)),[(.tmp 4)],.pure,false,false⟩
def f93_b0:ACode:=(.wrap true [0,3,5,26,27,28] [4] [(0,[0,3,5])]
 (.seq (xR [xA 29 (.bin .lss (.t 28) (.t 27))] [0,3,5,26,27,28,29])
 (.seq (.cond (.t 29)
 .skip
 (.exit 0))
 (.seq (.block 1 (.seq (xR [xI 30 4 26 28,xQ 31 4 30,xA 8 (.alloc [xa,xc,xa,xb]),xS 4 8 31] [0,3,5,8,26,27,28])
 (.seq (xR [xF 32 3 8,xL 33 32,xN 34 33,xM 35 34,xMT 36 0 35,xAT 37 (.nilc (.t 36)) 35,xFT 38 7 37 35,xLT 39 38 35,xMT 40 5 35,xAT 41 (.lkp [2] (.c xd) false (.t 39) (.t 40)) 35,xAT 42 (.mkf 124 [] [(.t 8)]) 35,xAT 43 (.call 123 [(.t 41),(.t 42)]) 35,xA 44 (.pick (.t 35) (.t 43) xU)] [0,3,5,26,27,28,44])
 (.cond (.t 44)
 (.seq (xR [xA 4 (.mov .own (xi 6))] [4])
 .ret)
 .skip))))
 (xR [xA 45 (.bin .add (.t 28) (xi 1)),xM 28 45] [0,3,5,26,27,28])))))
def f93_l0:ACode:=.loop f93_b0
theorem u93_l0:LpEq f93_l0 f93_b0:=K_loop
def f93_b1:ACode:=(.wrap true [0,5,47,48,49] [4] [(2,[])]
 (.seq (xR [xA 50 (.bin .lss (.t 49) (.t 48))] [0,5,47,48,49,50])
 (.seq (.cond (.t 50)
 .skip
 (.exit 2))
 (.seq (.block 3 (.seq (xR [xI 51 9 47 49,xQ 52 9 51,xA 10 (.alloc [xa,xb,xb,(.osl 2 []),xc,xa,xc,(.osl 4 []),(.osl 4 [])]),xS 9 10 52] [0,5,10,47,48,49])
 (.seq (xG [xM 54 0,xA 55 (.nilc (.t 54)),xF 56 9 55,xL 57 56,xM 58 5,xF 59 0 10,xL 60 59,xA 61 (.build [xa,xa] [(0,1,(.t 58)),(1,1,(.t 60))]),xA 62 (.lkp [2,2] (.agg [xa,xb,xb,xd,xc,xa,xc,xd,xd]) true (.t 57) (.t 61)),xO 53 62,xA 63 (.exd 0 (.t 53)),xA 64 (.exd 1 (.t 53)),xA 11 (.alloc [xa,xb,xb,(.osl 2 []),xc,xa,xc,(.osl 4 []),(.osl 4 [])]),xS 9 11 63,xM 12 64] [0,5,10,11,12,47,48,49])
 (.seq (xR [xM 65 12,xM 66 65,xAT 67 (.ld .cp (some 9) (.t 10)) 66,xAT 68 (.ld .cp (some 9) (.t 11)) 66,xAT 69 (.callb 125 [(.t 67),(.t 68)]) 66,xNT 70 69 66,xA 71 (.pick (.t 66) (.t 70) xU)] [0,5,47,48,49,71])
 (.cond (.t 71)
 (.seq (xR [xA 4 (.mov .own (xi 8))] [4])
 .ret)
 .skip)))))
 (xR [xA 72 (.bin .add (.t 49) (xi 1)),xM 49 72] [0,5,47,48,49])))))
def f93_l1:ACode:=.loop f93_b1
theorem u93_l1:LpEq f93_l1 f93_b1:=K_loop
def f93:AFun:=⟨2,
 (.seq (xR [xB 3 1,xA 4 (.mov .own (xi 0))] [0,3])
 (.seq (.seq (xR [xF 13 1 3,xL 14 13] [0,3,14])
 (.cond (.t 14)
 (.seq (xR [xA 4 (.mov .own (xi 0))] [4])
 .ret)
 .skip))
 (.seq (xG [xM 16 0,xA 17 (.nilc (.t 16)),xF 18 4 17,xL 19 18,xF 20 0 3,xL 21 20,xA 22 (.callp 116 [(.t 19),(.t 21)]),xO 15 22,xA 23 (.exd 0 (.t 15)),xA 24 (.exd 1 (.t 15)),xM 5 23,xM 6 24] [0,3,5])
 (.seq (.seq (xR [xF 25 4 3,xL 26 25,xH 27 26,xA 28 (.mov .cp (xi 0))] [0,3,5,26,27,28])
 (.block 0 f93_l0))
 (.seq (.seq (xR [xF 46 5 3,xL 47 46,xH 48 47,xA 49 (.mov .cp (xi 0))] [0,5,47,48,49])
 (.block 2 f93_l1))
 (.seq (xR [xA 4 (.mov .own (xi 0))] [4])
 .ret)))))),[(.tmp 4)],.pure,false,false⟩
def f47:AFun:=⟨3,
 (.seq (xR [xA 6 (.mov .own xU)] [0,1,2])
 (.seq (xR [xM 7 0,xA 8 (.nilc (.t 7)),xF 9 2 8,xL 10 9,xA 11 (.bin .eql (.t 10) (xi 0)),xM 12 11,xMT 13 0 12,xAT 14 (.nilc (.t 13)) 12,xFT 15 4 14 12,xLT 16 15 12,xMT 17 1 12,xAT 18 (.lkp [2] (.c (.b .nilm)) false (.t 16) (.t 17)) 12,xMT 19 2 12,xAT 20 (.lkp [2] (.c xb) false (.t 18) (.t 19)) 12,xA 21 (.pick (.t 12) (.t 20) xU),xO 6 21] [6])
 .ret)),[(.tmp 6)],.pure,false,false⟩
def f94_b0:ACode:=(.wrap true [0,3,21,22,23,51,52,53] [4] [(2,[0,3,21,22,23])]
 (.seq (xR [xA 54 (.bin .lss (.t 53) (.t 52))] [0,3,21,22,23,51,52,53,54])
 (.seq (.cond (.t 54)
 .skip
 (.exit 2))
 (.seq (.block 3 (.seq (xR [xI 55 9 51 53,xQ 56 9 55,xA 10 (.alloc [xa,xb,xb,(.osl 2 []),xc,xa,xc,(.osl 4 []),(.osl 4 [])]),xS 9 10 56] [0,3,10,21,22,23,51,52,53])
 (.seq (xG [xM 58 0,xA 59 (.nilc (.t 58)),xF 60 9 59,xL 61 60,xF 62 0 3,xL 63 62,xF 64 0 10,xL 65 64,xA 66 (.build [xa,xa] [(0,1,(.t 63)),(1,1,(.t 65))]),xA 67 (.lkp [2,2] (.agg [xa,xb,xb,xd,xc,xa,xc,xd,xd]) true (.t 61) (.t 66)),xO 57 67,xA 68 (.exd 0 (.t 57)),xA 69 (.exd 1 (.t 57)),xA 11 (.alloc [xa,xb,xb,(.osl 2 []),xc,xa,xc,(.osl 4 []),(.osl 4 [])]),xS 9 11 68,xM 12 69] [0,3,10,11,12,21,22,23,51,52,53])
 (.block 4 (.seq (xR [xM 71 12,xN 72 71,xM 70 72] [0,3,10,11,21,22,23,51,52,53,70])
 (.cond (.t 70)
 (.seq (xR [xA 4 (.mov .own (xi 5))] [4])
 .ret)
 (.seq (xR [xQ 74 9 10,xQ 75 9 11,xA 76 (.callb 125 [(.t 74),(.t 75)]),xN 77 76,xM 73 77] [0,3,21,22,23,51,52,53,73])
 (.cond (.t 73)
 (.seq (xR [xA 4 (.mov .own (xi 8))] [4])
 .ret)
 .skip))))))))
 (xR [xA 78 (.bin .add (.t 53) (xi 1)),xM 53 78] [0,3,21,22,23,51,52,53])))))
def f94_l0:ACode:=.loop f94_b0
theorem u94_l0:LpEq f94_l0 f94_b0:=K_loop
def f94_b1:ACode:=(.wrap true [0,3,21,22,23] [4] [(0,[])]
 (.seq (xR [xA 24 (.bin .lss (.t 23) (.t 22))] [0,3,21,22,23,24])
 (.seq (.cond (.t 24)
 .skip
 (.exit 0))
 (.seq (.block 1 (.seq (xR [xI 25 1 21 23,xL 26 25,xM 6 26] [0,3,6,21,22,23])
 (.seq (xR [xM 28 0,xA 29 (.nilc (.t 28)),xF 30 4 29,xL 31 30,xM 32 6,xA 33 (.call 53 [(.t 31),(.t 32)]),xO 27 33,xE 34 0 27,xE 35 1 27,xA 7 (.alloc [xa,xb,xa,(.osl 1 []),(.osl 4 []),(.osl 9 [])]),xS 6 7 34,xM 8 35] [0,3,6,7,21,22,23])
 (.seq (.seq (xG [xF 36 1 7,xL 37 36,xN 38 37,xM 39 38,xMF 40 0 39,xAF 41 (.nilc (.t 40)) 39,xFF 42 4 41 39,xLF 43 42 39,xFF 44 0 3 39,xLF 45 44 39,xMF 46 6 39,xAF 47 (.callp 47 [(.t 43),(.t 45),(.t 46)]) 39,xNF 48 47 39,xA 49 (.pick (.t 39) xT (.t 48))] [0,3,7,21,22,23,49])
 (.cond (.t 49)
 (.exit 1)
 .skip))
 (.seq (xR [xF 50 5 7,xL 51 50,xH 52 51,xA 53 (.mov .cp (xi 0))] [0,3,21,22,23,51,52,53])
 (.block 2 f94_l0))))))
 (xR [xA 79 (.bin .add (.t 23) (xi 1)),xM 23 79] [0,3,21,22,23])))))
def f94_l1:ACode:=.loop f94_b1
theorem u94_l1:LpEq f94_l1 f94_b1:=K_loop
def f94:AFun:=⟨2,
 (.seq (xR [xB 3 1,xA 4 (.mov .own (xi 0))] [0,3])
 (.seq (.seq (xR [xF 13 1 3,xL 14 13] [0,3,14])
 (.cond (.t 14)
 (.seq (xR [xA 4 (.mov .own (xi 0))] [4])
 .ret)
 .skip))
 (.seq (.seq (xR [xM 15 0,xA 16 (.nilc (.t 15)),xF 17 4 16,xL 18 17,xA 19 (.nilc (.t 18)),xF 20 1 19,xL 21 20,xH 22 21,xA 23 (.mov .cp (xi 0))] [0,3,21,22,23])
 (.block 0 f94_l1))
 (.seq (xR [xA 4 (.mov .own (xi 0))] [4])
 .ret)))),[(.tmp 4)],.pure,false,false⟩
def f73_b0:ACode:=(.wrap true [0,3,57,58,59,79,80,81] [] [(2,[0,57,58,59])]
 (.seq (xR [xA 82 (.bin .lss (.t 81) (.t 80))] [0,3,57,58,59,79,80,81,82])
 (.seq (.cond (.t 82)
 .skip
 (.exit 2))
 (.seq (.block 3 (.seq (xR [xI 83 4 79 81,xQ 84 4 83,xA 7 (.alloc [xa,xc,xa,xb]),xS 4 7 84] [0,3,7,57,58,59,79,80,81])
 (.seq (xR [xF 85 3 7,xL 86 85] [0,3,7,57,58,59,79,80,81,86])
 (.cond (.t 86)
 (xG [xM 87 0,xM 88 0,xA 89 (.nilc (.t 88)),xF 90 8 89,xW 91 90,xM 92 3,xF 93 0 7,xL 94 93,xF 95 1 7,xQ 96 2 95,xA 97 (.build [xa,xa,xc,xa] [(0,1,(.t 92)),(1,1,(.t 94)),(2,2,(.t 96))]),xA 98 (.bsl .own 4 1 [xa,xa,xc,xa] [(0,(.t 97))]),xA 99 (.app 4 56 (.t 91) (.t 98)),xA 100 (.nilc (.t 87)),xF 101 8 100,xS 1 101 99] [0,3,57,58,59,79,80,81])
 .skip))))
 (xR [xA 102 (.bin .add (.t 81) (xi 1)),xM 81 102] [0,3,57,58,59,79,80,81])))))
def f73_l0:ACode:=.loop f73_b0
theorem u73_l0:LpEq f73_l0 f73_b0:=K_loop
def f73_b1:ACode:=(.wrap false [0,57,58,59] [] [(0,[0])]
 (.seq (xR [xA 60 (.bin .lss (.t 59) (.t 58))] [0,57,58,59,60])
 (.seq (.cond (.t 60)
 .skip
 (.exit 0))
 (.seq (.block 1 (.seq (xR [xI 61 1 57 59,xL 62 61,xM 3 62] [0,3,57,58,59])
 (.seq (xR [xM 64 0,xA 65 (.nilc (.t 64)),xF 66 4 65,xL 67 66,xM 68 3,xA 69 (.call 53 [(.t 67),(.t 68)]),xO 63 69,xE 70 0 63,xE 71 1 63,xA 4 (.alloc [xa,xb,xa,(.osl 1 []),(.osl 4 []),(.osl 9 [])]),xS 6 4 70,xM 5 71] [0,3,4,57,58,59])
 (.seq (.seq (xR [xF 72 1 4,xL 73 72,xN 74 73] [0,3,4,57,58,59,74])
 (.cond (.t 74)
 (xR [xM 75 0,xM 76 3,xA 77 (.call 91 [(.t 75),(.t 76)])] [0,3,4,57,58,59])
 .skip))
 (.seq (xR [xF 78 4 4,xL 79 78,xH 80 79,xA 81 (.mov .cp (xi 0))] [0,3,57,58,59,79,80,81])
 (.block 2 f73_l0))))))
 (xR [xA 103 (.bin .add (.t 59) (xi 1)),xM 59 103] [0,57,58,59])))))
def f73_l1:ACode:=.loop f73_b1
theorem u73_l1:LpEq f73_l1 f73_b1:=K_loop
def f73_b2:ACode:=(.wrap true [0,9,110,111,112,120,121,122] [] [(6,[0,110,111,112])]
 (.seq (xR [xA 123 (.bin .lss (.t 122) (.t 121))] [0,9,110,111,112,120,121,122,123])
 (.seq (.cond (.t 123)
 .skip
 (.exit 6))
 (.seq (.block 7 (.seq (xR [xI 124 6 120 122,xQ 125 6 124,xA 11 (.alloc [xa,xb,xa,(.osl 1 []),(.osl 4 []),(.osl 9 [])]),xS 6 11 125] [0,9,11,110,111,112,120,121,122])
 (.seq (xR [xM 126 0,xA 127 (.nilc (.t 126)),xF 128 5 127,xL 129 128,xA 130 (.bin .eql (.t 129) (xi 0))] [0,9,11,110,111,112,120,121,122,130])
 (.cond (.t 130)
 (xR [xM 131 0,xM 132 9,xQ 133 6 11,xA 134 (.callv (.t 132) [(.t 133)]),xA 135 (.nilc (.t 131)),xF 136 5 135,xS 1 136 134] [0,9,110,111,112,120,121,122])
 .skip))))
 (xR [xA 137 (.bin .add (.t 122) (xi 1)),xM 122 137] [0,9,110,111,112,120,121,122])))))
def f73_l2:ACode:=.loop f73_b2
theorem u73_l2:LpEq f73_l2 f73_b2:=K_loop
def f73_b3:ACode:=(.wrap true [0,110,111,112] [] [(4,[])]
 (.seq (xR [xA 113 (.bin .lss (.t 112) (.t 111))] [0,110,111,112,113])
 (.seq (.cond (.t 113)
 .skip
 (.exit 4))
 (.seq (.block 5 (.seq (xR [xI 114 1 110 112,xL 115 114,xM 9 115] [0,9,110,111,112])
 (.seq (xR [xM 116 0,xA 117 (.nilc (.t 116)),xF 118 3 117,xF 119 0 118,xL 120 119,xH 121 120,xA 122 (.mov .cp (xi 0))] [0,9,110,111,112,120,121,122])
 (.block 6 f73_l2))))
 (xR [xA 138 (.bin .add (.t 112) (xi 1)),xM 112 138] [0,110,111,112])))))
def f73_l3:ACode:=.loop f73_b3
theorem u73_l3:LpEq f73_l3 f73_b3:=K_loop
def f73:AFun:=⟨1,
 (.seq (xR [xM 12 0,xM 13 0,xA 14 (.nilc (.t 13)),xF 15 3 14,xQ 16 1 15,xA 17 (.call 46 [(.t 16)]),xA 18 (.nilc (.t 12)),xF 19 4 18,xS 1 19 17] [0])
 (.seq (xR [xM 20 0,xM 21 0,xA 22 (.nilc (.t 21)),xF 23 4 22,xL 24 23,xA 25 (.nilc (.t 24)),xF 26 2 25,xL 27 26,xA 28 (.nilc (.t 20)),xF 29 5 28,xS 1 29 27] [0])
 (.seq (.seq (xR [xM 30 0,xA 31 (.nilc (.t 30)),xF 32 5 31,xL 33 32,xA 34 (.bin .neq (.t 33) (xi 0))] [0,34])
 (.cond (.t 34)
 .ret
 .skip))
 (.seq (xR [xM 35 0,xM 36 0,xA 37 (.mkm),xA 38 (.mkm),xA 39 (.nilc (.t 35)),xF 40 6 39,xS 1 40 37,xA 41 (.nilc (.t 36)),xF 42 7 41,xS 1 42 38] [0])
 (.seq (xR [xM 43 0,xM 44 0,xA 45 (.mkm),xA 46 (.mkm),xA 47 (.nilc (.t 43)),xF 48 9 47,xS 1 48 45,xA 49 (.nilc (.t 44)),xF 50 10 49,xS 1 50 46] [0])
 (.seq (.seq (xR [xM 51 0,xA 52 (.nilc (.t 51)),xF 53 4 52,xL 54 53,xA 55 (.nilc (.t 54)),xF 56 1 55,xL 57 56,xH 58 57,xA 59 (.mov .cp (xi 0))] [0,57,58,59])
 (.block 0 f73_l1))
 (.seq (xR [xM 104 0,xA 105 (.mkf 92 [(.t 104)] []),xM 106 0,xA 107 (.mkf 93 [(.t 106)] []),xM 108 0,xA 109 (.mkf 94 [(.t 108)] []),xA 110 (.bsl .arr 1 3 [.nilf] [(0,(.t 105)),(1,(.t 107)),(2,(.t 109))]),xH 111 110,xA 112 (.mov .cp (xi 0))] [0,110,111,112])
 (.block 4 f73_l3)))))))),[],.free,false,false⟩
def f51:AFun:=⟨1,
 (.seq (xR [xA 2 (.mov .own (.k (.c (.b .nilp))))] [0])
 (.seq (xR [xM 3 0,xA 4 (.nilc (.t 3)),xF 5 0 4,xM 6 0,xA 7 (.mkf 73 [(.t 6)] []),xA 8 (.call 72 [(.t 5),(.t 7)])] [0])
 (.seq (xR [xO 9 0,xO 2 9] [2])
 .ret))),[(.tmp 2)],.free,false,false⟩
def f26:AFun:=⟨1,
 (.seq (xR [xA 2 (.mov .own (xi 0))] [0])
 (.seq (xR [xM 3 0,xA 4 (.call 51 [(.t 3)]),xA 5 (.nilc (.t 4)),xF 6 5 5,xL 7 6,xO 2 7] [2])
 .ret)),[(.tmp 2)],.free,false,false⟩
def f32:AFun:=⟨2,
 (.seq (xR [xA 4 (.alloc [xa,xb,xa,(.osl 1 []),(.osl 4 []),(.osl 9 [])]),xA 5 (.mov .own xU)] [0,1,4])
 (.seq (xR [xM 9 0,xA 10 (.call 51 [(.t 9)]),xA 11 (.nilc (.t 10)),xF 12 4 11,xL 13 12,xM 14 1,xA 15 (.call 53 [(.t 13),(.t 14)]),xO 8 15,xE 16 0 8,xE 17 1 8,xA 6 (.alloc [xa,xb,xa,(.osl 1 []),(.osl 4 []),(.osl 9 [])]),xS 6 6 16,xM 7 17] [0,4,6,7])
 (.seq (xG [xA 18 (.ldn (some 6) (.t 6) (.t 6)),xM 19 7,xM 20 19,xMT 21 0 20,xAT 22 (.nilc (.t 21)) 20,xFT 23 5 22 20,xAT 24 (.ldn none (.t 23) (.t 0)) 20,xAT 25 (.bin .eql (.t 24) (xi 0)) 20,xA 26 (.pick (.t 20) (.t 25) xU),xZ (.stl 6 (.t 4) (.t 18) [0,6]),xM 5 26] [4,5])
 .ret))),[(.cell 4 (some 6)),(.tmp 5)],.free,false,false⟩
def f27:AFun:=⟨2,
 (.seq (xR [xB 3 1,xA 4 (.mov .own xU)] [0,3])
 (.seq (xR [xM 8 0,xF 9 1 3,xL 10 9,xA 11 (.call 32 [(.t 8),(.t 10)]),xO 7 11,xE 12 0 7,xE 13 1 7,xA 5 (.alloc [xa,xb,xa,(.osl 1 []),(.osl 4 []),(.osl 9 [])]),xS 6 5 12,xO 6 13] [3,6])
 (.seq (.seq (xR [xF 14 0 3,xL 15 14] [3,6,15])
 (.block 0 (.seq (.seq (xR [xA 17 (.bin .eql (.t 15) (xi 3)),xM 16 17] [3,6,15,16])
 (.cond (.t 16)
 .skip
 (xR [xA 18 (.bin .eql (.t 15) (xi 5)),xM 16 18] [3,6,15,16])))
 (.cond (.t 16)
 (.seq (xR [xO 19 6,xO 4 19] [4])
 .ret)
 (.seq (xR [xA 21 (.bin .eql (.t 15) (xi 4)),xM 20 21] [3,20])
 (.cond (.t 20)
 (.seq (xR [xF 22 1 3,xL 23 22,xA 24 (.bin .eql (.t 23) (xs ⟨#[]⟩)),xO 4 24] [4])
 .ret)
 .skip))))))
 (.seq (xR [xA 4 (.mov .own xU)] [4])
 .ret)))),[(.tmp 4)],.free,false,false⟩
def f34:AFun:=⟨1,
 (.seq (xR [xA 2 (.mov .own (.k (.c (.b .nilp))))] [0])
 (.seq (xR [xM 3 0,xA 4 (.call 51 [(.t 3)]),xA 5 (.nilc (.t 4)),xF 6 4 5,xL 7 6,xO 2 7] [2])
 .ret)),[(.tmp 2)],.free,false,false⟩
def f48_b0:ACode:=(.wrap true [0,1,5,21,22,23] [4] [(0,[5])]
 (.seq (xR [xA 24 (.bin .lss (.t 23) (.t 22))] [0,1,5,21,22,23,24])
 (.seq (.cond (.t 24)
 .skip
 (.exit 0))
 (.seq (.block 1 (.seq (xR [xI 25 1 21 23,xL 26 25,xM 7 26] [0,1,5,7,21,22,23])
 (.seq (xR [xM 27 0,xA 28 (.nilc (.t 27)),xF 29 3 28,xL 30 29,xM 31 7,xA 32 (.lkp [2] (.agg [xa,xb,xa,xd,xd,xd]) false (.t 30) (.t 31)),xA 33 (.fld 1 none (.t 32)),xN 34 33,xM 35 34,xMT 36 0 35,xMT 37 7 35,xMT 38 1 35,xAT 39 (.call 47 [(.t 36),(.t 37),(.t 38)]) 35,xA 40 (.pick (.t 35) (.t 39) xU)] [0,1,5,7,21,22,23,40])
 (.cond (.t 40)
 (xR [xO 41 5,xM 42 7,xA 43 (.bsl .own 1 1 [xa] [(0,(.t 42))]),xA 44 (.app 1 16 (.t 41) (.t 43)),xO 5 44] [0,1,5,21,22,23])
 .skip))))
 (xR [xA 45 (.bin .add (.t 23) (xi 1)),xM 23 45] [0,1,5,21,22,23])))))
def f48_l0:ACode:=.loop f48_b0
theorem u48_l0:LpEq f48_l0 f48_b0:=K_loop
def f48:AFun:=⟨2,
 (.seq (xR [xA 4 (.mov .own (.k (.c (.osl 1 []))))] [0,1])
 (.seq (xR [xA 5 (.mov .own (.k (.c (.osl 1 []))))] [0,1,5])
 (.seq (.seq (xR [xM 8 0,xA 9 (.nilc (.t 8)),xF 10 2 9,xL 11 10,xA 12 (.bin .neq (.t 11) (xi 0))] [0,1,5,12])
 (.cond (.t 12)
 (.seq (xR [xA 4 (.mov .own (.k (.c (.osl 1 []))))] [4])
 .ret)
 .skip))
 (.seq (.seq (xG [xM 13 0,xA 14 (.nilc (.t 13)),xF 15 1 14,xL 16 15,xM 17 0,xA 18 (.nilc (.t 17)),xF 19 0 18,xL 20 19,xA 21 (.slc .cp 1 (.t 16) (some (.t 20)) none),xH 22 21,xA 23 (.mov .cp (xi 0))] [0,1,5,21,22,23])
 (.block 0 f48_l0))
 (.seq (xR [xO 46 5,xO 4 46] [4])
 .ret))))),[(.tmp 4)],.pure,false,false⟩
def f52:AFun:=⟨3,
 (.seq (xR [xB 4 1,xB 5 2,xA 6 (.mov .own xU)] [0,4,5])
 (.seq (.seq (xR [xF 7 0 4,xL 8 7,xA 9 (.bin .eql (.t 8) (xi 3))] [0,4,5,9])
 (.cond (.t 9)
 (.seq (xG [xF 10 0 5,xL 11 10,xA 12 (.bin .eql (.t 11) (xi 3)),xM 13 12,xMT 14 0 13,xAT 15 (.callp 34 [(.t 14)]) 13,xFT 16 1 5 13,xLT 17 16 13,xFT 18 1 4 13,xLT 19 18 13,xAT 20 (.callp 47 [(.t 15),(.t 17),(.t 19)]) 13,xA 21 (.pick (.t 13) (.t 20) xU),xM 6 21] [6])
 .ret)
 .skip))
 (.seq (xR [xQ 22 2 5,xQ 23 2 4,xA 24 (.eq false 2 [1,2] (.t 22) (.t 23)),xO 6 24] [6])
 .ret))),[(.tmp 6)],.pure,false,false⟩
def f28_b0:ACode:=(.wrap true [0,2,3,4,6,11,19,20,21] [10] [(0,[0,2,3,4,6,11])]
 (.seq (xR [xA 22 (.bin .lss (.t 21) (.t 20))] [0,2,3,4,6,11,19,20,21,22])
 (.seq (.cond (.t 22)
 .skip
 (.exit 0))
 (.seq (.block 1 (.seq (xR [xM 23 21,xI 24 2 19 21,xQ 25 2 24,xA 13 (.alloc [xc,xa]),xM 12 23,xS 2 13 25] [0,2,3,4,6,11,12,13,19,20,21])
 (.seq (xR [xM 26 0,xQ 27 2 6,xQ 28 2 13,xA 29 (.call 52 [(.t 26),(.t 27),(.t 28)])] [0,2,3,4,6,11,12,19,20,21,29])
 (.cond (.t 29)
 (xR [xO 30 11,xM 31 12,xA 32 (.build [xc,xc,xc,xa] [(0,1,(xi 2)),(1,1,(.t 31))]),xA 33 (.bsl .own 4 1 [xc,xc,xc,xa] [(0,(.t 32))]),xA 34 (.app 4 40 (.t 30) (.t 33)),xO 11 34] [0,2,3,4,6,11,19,20,21])
 .skip))))
 (xR [xA 35 (.bin .add (.t 21) (xi 1)),xM 21 35] [0,2,3,4,6,11,19,20,21])))))
def f28_l0:ACode:=.loop f28_b0
theorem u28_l0:LpEq f28_l0 f28_b0:=K_loop
def f28_b1:ACode:=(.wrap true [11,48,49,50] [10] [(2,[11])]
 (.seq (xR [xA 51 (.bin .lss (.t 50) (.t 49))] [11,48,49,50,51])
 (.seq (.cond (.t 51)
 .skip
 (.exit 2))
 (.seq (.block 3 (.seq (xR [xI 52 1 48 50,xL 53 52,xM 15 53] [11,15,48,49,50])
 (xR [xO 54 11,xM 55 15,xA 56 (.build [xc,xa] [(0,1,(xi 3)),(1,1,(.t 55))]),xA 57 (.build [xc,xc,xc,xa] [(0,1,(xi 3)),(2,2,(.t 56))]),xA 58 (.bsl .own 4 1 [xc,xc,xc,xa] [(0,(.t 57))]),xA 59 (.app 4 40 (.t 54) (.t 58)),xO 11 59] [11,48,49,50])))
 (xR [xA 60 (.bin .add (.t 50) (xi 1)),xM 50 60] [11,48,49,50])))))
def f28_l1:ACode:=.loop f28_b1
theorem u28_l1:LpEq f28_l1 f28_b1:=K_loop
def f28_b2:ACode:=(.wrap true [6,11,63,64] [10] [(4,[11])]
 (.seq (xR [xA 65 (.bin .lss (.t 64) (.t 63))] [6,11,63,64,65])
 (.seq (.cond (.t 65)
 .skip
 (.exit 4))
 (.seq (.block 5 (.seq (xR [xM 66 64,xM 16 66] [6,11,16,63,64])
 (xR [xO 67 11,xM 68 16,xQ 69 2 6,xA 70 (.build [xc,xc,xc,xa] [(0,1,(xi 4)),(1,1,(.t 68)),(2,2,(.t 69))]),xA 71 (.bsl .own 4 1 [xc,xc,xc,xa] [(0,(.t 70))]),xA 72 (.app 4 40 (.t 67) (.t 71)),xO 11 72] [6,11,63,64])))
 (xR [xA 73 (.bin .add (.t 64) (xi 1)),xM 64 73] [6,11,63,64])))))
def f28_l2:ACode:=.loop f28_b2
theorem u28_l2:LpEq f28_l2 f28_b2:=K_loop
def f28:AFun:=⟨5,
 (.seq (xR [xB 6 1,xA 10 (.mov .own (.k (.c (.osl 4 []))))] [0,2,3,4,6])
 (.seq (xR [xA 17 (.build [xc,xc,xc,xa] [(0,1,(xi 1))]),xA 18 (.bsl .own 4 1 [xc,xc,xc,xa] [(0,(.t 17))]),xO 11 18] [0,2,3,4,6,11])
 (.seq (.seq (xR [xM 19 2,xH 20 19,xA 21 (.mov .cp (xi 0))] [0,2,3,4,6,11,19,20,21])
 (.block 0 f28_l0))
 (.seq (.seq (xR [xM 36 2,xH 37 36,xM 38 3,xA 39 (.bin .geq (.t 37) (.t 38))] [0,4,6,11,39])
 (.cond (.t 39)
 (.seq (xR [xO 40 11,xO 10 40] [10])
 .ret)
 .skip))
 (.seq (.seq (xR [xF 41 0 6,xL 42 41,xA 43 (.bin .eql (.t 42) (xi 3))] [0,4,6,11,43])
 (.cond (.t 43)
 (.seq (.seq (xG [xM 44 0,xA 45 (.callp 34 [(.t 44)]),xF 46 1 6,xL 47 46,xA 48 (.callp 48 [(.t 45),(.t 47)]),xH 49 48,xA 50 (.mov .cp (xi 0))] [11,48,49,50])
 (.block 2 f28_l1))
 (.seq (xR [xO 61 11,xO 10 61] [10])
 .ret))
 .skip))
 (.seq (.seq (xR [xM 62 4,xA 63 (.bin .add (.t 62) (xi 1)),xA 64 (.mov .cp (xi 0))] [6,11,63,64])
 (.block 4 f28_l2))
 (.seq (xR [xO 74 11,xO 10 74] [10])
 .ret))))))),[(.tmp 10)],.pure,false,false⟩
def f10:AFun:=⟨5,
 (.seq (xR [xB 5 0,xB 6 1,xA 10 (.mov .own (.k (.c (.osl 4 [])))),xA 11 (.mov .own (xi 0))] [2,3,4,5,6])
 (.seq (xR [xQ 13 1 5,xA 14 (.call 25 [(.t 13)]),xM 12 14] [2,3,4,6,12])
 (.seq (.block 0 (.seq (xR [xM 16 12,xA 17 (.call 26 [(.t 16)]),xA 18 (.bin .neq (.t 17) (xi 0)),xM 15 18] [2,3,4,6,12,15])
 (.cond (.t 15)
 (.seq (xR [xM 19 12,xA 20 (.call 26 [(.t 19)]),xA 10 (.mov .own (.k (.c (.osl 4 [])))),xO 11 20] [10,11])
 .ret)
 (.seq (xR [xM 22 12,xQ 23 2 6,xA 24 (.call 27 [(.t 22),(.t 23)]),xN 25 24,xM 21 25] [2,3,4,6,12,21])
 (.cond (.t 21)
 (.seq (xR [xA 10 (.mov .own (.k (.c (.osl 4 [])))),xA 11 (.mov .own (xi 8))] [10,11])
 .ret)
 (.seq (xR [xM 27 3,xA 28 (.bin .lss (.t 27) (xi 0)),xM 29 28,xMF 30 3 29,xAF 31 (.bin .gtr (.t 30) (xi 3)) 29,xA 32 (.pick (.t 29) xT (.t 31)),xM 33 32,xMF 34 4 33,xAF 35 (.bin .lss (.t 34) (xi 0)) 33,xA 36 (.pick (.t 33) xT (.t 35)),xM 37 36,xMF 38 4 37,xAF 39 (.bin .gtr (.t 38) (xi 3)) 37,xA 40 (.pick (.t 37) xT (.t 39)),xM 41 40,xMF 42 2 41,xAF 43 (.len 0 (.t 42)) 41,xAF 44 (.bin .gtr (.t 43) (xi 3)) 41,xA 45 (.pick (.t 41) xT (.t 44)),xM 26 45] [2,3,4,6,12,26])
 (.cond (.t 26)
 (.seq (xR [xA 10 (.mov .own (.k (.c (.osl 4 [])))),xA 11 (.mov .own (xi 1))] [10,11])
 .ret)
 .skip)))))))
 (.seq (xR [xM 46 12,xQ 47 2 6,xM 48 2,xM 49 3,xM 50 4,xA 51 (.call 28 [(.t 46),(.t 47),(.t 48),(.t 49),(.t 50)]),xO 10 51,xA 11 (.mov .own (xi 0))] [10,11])
 .ret)))),[(.tmp 10),(.tmp 11)],.pure,false,false⟩
def f49:AFun:=⟨2,
 (.seq (xR [xA 4 (.mov .own (.k (.c (.osl 4 [])))),xA 5 (.mov .own xU)] [0,1])
 (.seq (xR [xM 9 0,xA 10 (.call 51 [(.t 9)]),xA 11 (.nilc (.t 10)),xF 12 6 11,xL 13 12,xM 14 1,xA 15 (.lkp [2] (.c xd) true (.t 13) (.t 14)),xO 8 15,xE 16 0 8,xE 17 1 8,xM 6 16,xM 7 17] [0,1,7])
 (.seq (xG [xM 18 0,xA 19 (.nilc (.t 18)),xF 20 7 19,xL 21 20,xM 22 1,xA 23 (.lkp [2] (.c xd) false (.t 21) (.t 22)),xM 24 7,xM 25 24,xMT 26 0 25,xAT 27 (.nilc (.t 26)) 25,xFT 28 5 27 25,xLT 29 28 25,xAT 30 (.bin .eql (.t 29) (xi 0)) 25,xA 31 (.pick (.t 25) (.t 30) xU),xO 4 23,xM 5 31] [4,5])
 .ret))),[(.tmp 4),(.tmp 5)],.free,false,false⟩
def f95:AFun:=⟨2,
 (.seq (xR [xA 4 (.mov .own (.k (.c (.b (.d (.int .u32 0)))))),xA 5 (.mov .own (.k (.c (.b (.d (.int .u32 0))))))] [0,1])
 (.seq (xR [xM 7 0,xA 8 (.conv .u64 (.t 7)),xM 9 1,xA 10 (.conv .u64 (.t 9)),xA 11 (.bin .mul (.t 8) (.t 10)),xM 6 11] [6])
 (.seq (xR [xM 12 6,xA 13 (.bin .shr (.t 12) (.k (.c (.b (.d (.int .u64 32)))))),xA 14 (.conv .u32 (.t 13)),xM 15 6,xA 16 (.conv .u32 (.t 15)),xO 4 14,xO 5 16] [4,5])
 .ret))),[(.tmp 4),(.tmp 5)],.pure,false,false⟩
def f96:AFun:=⟨2,
 (.seq (xR [xA 4 (.mov .own (.k (.c (.b (.d (.int .u64 0)))))),xA 5 (.mov .own (.k (.c (.b (.d (.int .u64 0))))))] [0,1])
 (.seq (xR [xM 14 0,xA 15 (.bin .and (.t 14) (.k (.c (.b (.d (.int .u64 4294967295)))))),xM 6 15] [0,1,6])
 (.seq (xR [xM 16 0,xA 17 (.bin .shr (.t 16) (.k (.c (.b (.d (.int .u64 32)))))),xM 7 17] [0,1,6,7])
 (.seq (xR [xM 18 1,xA 19 (.bin .and (.t 18) (.k (.c (.b (.d (.int .u64 4294967295)))))),xM 8 19] [0,1,6,7,8])
 (.seq (xR [xM 20 1,xA 21 (.bin .shr (.t 20) (.k (.c (.b (.d (.int .u64 32)))))),xM 9 21] [0,1,6,7,8,9])
 (.seq (xR [xM 22 6,xM 23 8,xA 24 (.bin .mul (.t 22) (.t 23)),xM 10 24] [0,1,6,7,8,9,10])
 (.seq (xR [xM 25 7,xM 26 8,xA 27 (.bin .mul (.t 25) (.t 26)),xM 28 10,xA 29 (.bin .shr (.t 28) (.k (.c (.b (.d (.int .u64 32)))))),xA 30 (.bin .add (.t 27) (.t 29)),xM 11 30] [0,1,6,7,9,11])
 (.seq (xR [xM 31 11,xA 32 (.bin .and (.t 31) (.k (.c (.b (.d (.int .u64 4294967295)))))),xM 12 32] [0,1,6,7,9,11,12])
 (.seq (xR [xM 33 11,xA 34 (.bin .shr (.t 33) (.k (.c (.b (.d (.int .u64 32)))))),xM 13 34] [0,1,6,7,9,12,13])
 (.seq (xR [xM 35 12,xM 36 6,xM 37 9,xA 38 (.bin .mul (.t 36) (.t 37)),xA 39 (.bin .add (.t 35) (.t 38)),xM 12 39] [0,1,7,9,12,13])
 (.seq (xR [xM 40 7,xM 41 9,xA 42 (.bin .mul (.t 40) (.t 41)),xM 43 13,xA 44 (.bin .add (.t 42) (.t 43)),xM 45 12,xA 46 (.bin .shr (.t 45) (.k (.c (.b (.d (.int .u64 32)))))),xA 47 (.bin .add (.t 44) (.t 46)),xO 4 47] [0,1,4])
 (.seq (xR [xM 48 0,xM 49 1,xA 50 (.bin .mul (.t 48) (.t 49)),xO 5 50] [4,5])
 .ret)))))))))))),[(.tmp 4),(.tmp 5)],.pure,false,false⟩
def f74:AFun:=⟨2,
 (.seq (xR [xA 4 (.mov .own (.k (.c (.b (.d (.int .u64 0)))))),xA 5 (.mov .own (.k (.c (.b (.d (.int .u64 0))))))] [0,1])
 (.seq (.cond (.k (.c (.b (.d (.bool false)))))
 (.seq (xR [xM 11 0,xA 12 (.conv .u32 (.t 11)),xM 13 1,xA 14 (.conv .u32 (.t 13)),xA 15 (.callb 95 [(.t 12),(.t 14)]),xO 10 15,xE 16 0 10,xE 17 1 10,xM 6 16,xM 7 17] [6,7])
 (.seq (xR [xM 18 6,xA 19 (.conv .u64 (.t 18)),xM 20 7,xA 21 (.conv .u64 (.t 20)),xO 4 19,xO 5 21] [4,5])
 .ret))
 .skip)
 (.seq (xR [xM 23 0,xM 24 1,xA 25 (.callb 96 [(.t 23),(.t 24)]),xO 22 25,xE 26 0 22,xE 27 1 22,xO 8 26,xO 9 27] [8,9])
 (.seq (xR [xO 28 8,xO 29 9,xO 4 28,xO 5 29] [4,5])
 .ret)))),[(.tmp 4),(.tmp 5)],.pure,false,false⟩
def f55_b0:ACode:=(.wrap true [7,8] [4] [(0,[7])]
 (.seq (.seq (xR [xM 34 8,xM 35 7,xH 36 35,xA 37 (.bin .lss (.t 34) (.t 36))] [7,8,37])
 (.cond (.t 37)
 .skip
 (.exit 0)))
 (.block 1 (xG [xM 38 8,xM 39 7,xM 40 8,xA 41 (.slc .cp 2 (.t 39) (some (.t 40)) none),xM 42 7,xM 43 8,xA 44 (.slc .cp 2 (.t 42) none (some (.t 43))),xA 45 (.cpy 2 (.t 41) (.t 44)),xA 46 (.bin .add (.t 38) (.t 45)),xM 8 46] [7,8]))))
def f55_l0:ACode:=.loop f55_b0
def f55:AFun:=⟨2,
 (.seq (xR [xA 4 (.mov .cp (.k (.c (.b .nils))))] [0,1])
 (.seq (.seq (xR [xM 9 1,xA 10 (.bin .lss (.t 9) (xi 0))] [0,1,10])
 (.cond (.t 10)
 (xR [xA 11 (.bad),xZ (.bad)] [0,1])
 .skip))
 (.seq (xR [xM 13 0,xH 14 13,xA 15 (.conv .u64 (.t 14)),xM 16 1,xA 17 (.conv .u64 (.t 16)),xA 18 (.callb 74 [(.t 15),(.t 17)]),xO 12 18,xE 19 0 12,xE 20 1 12,xM 5 19,xM 6 20] [0,5,6])
 (.seq (.seq (xR [xM 21 5,xA 22 (.bin .gtr (.t 21) (.k (.c (.b (.d (.int .u64 0)))))),xM 23 22,xMF 24 6 23,xAF 25 (.bin .gtr (.t 24) (.k (.c (.b (.d (.int .u64 9223372036854775807)))))) 23,xA 26 (.pick (.t 23) xT (.t 25))] [0,6,26])
 (.cond (.t 26)
 (xR [xA 27 (.bad),xZ (.bad)] [0,6])
 .skip))
 (.seq (xR [xM 28 6,xA 29 (.conv .i64 (.t 28)),xA 30 (.mks .arr 2 24 [xc,xa] (.t 29) (.t 29)),xO 7 30] [0,7])
 (.seq (xR [xM 31 7,xM 32 0,xA 33 (.cpy 2 (.t 31) (.t 32)),xM 8 33] [7,8])
 (.seq (.block 0 f55_l0)
 (.seq (xR [xO 47 7,xM 4 47] [4])
 .ret)))))))),[(.tmp 4)],.pure,false,false⟩
def f35_b0:ACode:=(.wrap true [5,22,23,24] [4] [(0,[5])]
 (.seq (xR [xA 25 (.bin .lss (.t 24) (.t 23))] [5,22,23,24,25])
 (.seq (.cond (.t 25)
 .skip
 (.exit 0))
 (.seq (.block 1 (.seq (xR [xI 26 4 22 24,xQ 27 4 26,xA 9 (.alloc [xa,xa,xc,xa]),xS 4 9 27] [5,9,22,23,24])
 (xR [xO 28 5,xF 29 2 9,xQ 30 2 29,xA 31 (.bsl .own 2 1 [xc,xa] [(0,(.t 30))]),xA 32 (.app 2 24 (.t 28) (.t 31)),xO 5 32] [5,22,23,24])))
 (xR [xA 33 (.bin .add (.t 24) (xi 1)),xM 24 33] [5,22,23,24])))))
def f35_l0:ACode:=.loop f35_b0
theorem u35_l0:LpEq f35_l0 f35_b0:=K_loop
def f35:AFun:=⟨2,
 (.seq (xR [xB 3 1,xA 4 (.mov .own (.k (.c (.osl 2 []))))] [0,3])
 (.seq (xR [xA 5 (.mov .own (.k (.c (.osl 2 []))))] [0,3,5])
 (.seq (.seq (xR [xF 11 0 3,xL 12 11,xA 13 (.bin .eql (.t 12) (xi 3))] [0,3,5,13])
 (.cond (.t 13)
 (.seq (xR [xM 15 0,xF 16 2 3,xF 17 1 16,xL 18 17,xA 19 (.call 49 [(.t 15),(.t 18)]),xO 14 19,xE 20 0 14,xE 21 1 14,xM 6 20,xM 7 21] [5,6])
 (.seq (.seq (xR [xM 22 6,xH 23 22,xA 24 (.mov .cp (xi 0))] [5,22,23,24])
 (.block 0 f35_l0))
 (.seq (xR [xO 34 5,xO 4 34] [4])
 .ret)))
 .skip))
 (.seq (xR [xA 35 (.build [xc,xa] [(0,1,(xi 2))]),xA 10 (.alloc [xc,xa]),xS 2 10 35] [3,10])
 (.seq (.seq (xR [xF 36 2 3,xF 37 0 36,xL 38 37,xA 39 (.bin .eql (.t 38) (xi 5))] [3,10,39])
 (.cond (.t 39)
 (xR [xF 40 2 3,xF 41 1 40,xL 42 41,xA 43 (.build [xc,xa] [(0,1,(xi 3)),(1,1,(.t 42))]),xS 2 10 43] [3,10])
 .skip))
 (.seq (xR [xQ 44 2 10,xA 45 (.bsl .own 2 1 [xc,xa] [(0,(.t 44))]),xF 46 1 3,xL 47 46,xA 48 (.callb 55 [(.t 45),(.t 47)]),xO 4 48] [4])
 .ret)))))),[(.tmp 4)],.pure,false,false⟩
def f12:AFun:=⟨2,
 (.seq (xR [xB 2 0,xB 3 1,xA 4 (.mov .own (.k (.c (.osl 2 [])))),xA 5 (.mov .own (xi 0))] [2,3])
 (.seq (xR [xQ 10 1 2,xA 11 (.call 25 [(.t 10)]),xM 6 11] [3,6])
 (.seq (.seq (xR [xM 12 6,xA 13 (.call 26 [(.t 12)]),xA 14 (.bin .neq (.t 13) (xi 0))] [3,6,14])
 (.cond (.t 14)
 (.seq (xR [xM 15 6,xA 16 (.call 26 [(.t 15)]),xA 4 (.mov .own (.k (.c (.osl 2 [])))),xO 5 16] [4,5])
 .ret)
 .skip))
 (.seq (xR [xM 18 6,xF 19 2 3,xF 20 1 19,xL 21 20,xA 22 (.call 32 [(.t 18),(.t 21)]),xO 17 22,xE 23 0 17,xE 24 1 17,xA 7 (.alloc [xa,xb,xa,(.osl 1 []),(.osl 4 []),(.osl 9 [])]),xS 6 7 23,xM 8 24] [3,6,7])
 (.seq (xG [xM 25 6,xA 26 (.callp 34 [(.t 25)]),xA 27 (.nilc (.t 26)),xF 28 1 27,xL 29 28,xM 30 6,xA 31 (.callp 34 [(.t 30)]),xA 32 (.nilc (.t 31)),xF 33 0 32,xL 34 33,xA 35 (.slc .cp 1 (.t 29) (some (.t 34)) none),xF 36 2 3,xF 37 1 36,xL 38 37,xA 39 (.callb 33 [(.t 35),(.t 38)]),xM 9 39] [3,6,7,9])
 (.seq (.block 0 (.seq (xR [xF 41 0 3,xL 42 41,xA 43 (.bin .eql (.t 42) (xi 3)),xM 44 43,xFT 45 1 3 44,xLT 46 45 44,xAT 47 (.bin .eql (.t 46) (xi 0)) 44,xA 48 (.pick (.t 44) (.t 47) xU),xM 49 48,xFT 50 2 3 49,xFT 51 0 50 49,xLT 52 51 49,xAT 53 (.bin .eql (.t 52) (xi 3)) 49,xA 54 (.pick (.t 49) (.t 53) xU),xM 55 54,xMT 56 9 55,xA 57 (.pick (.t 55) (.t 56) xU),xM 58 57,xFT 59 1 7 58,xLT 60 59 58,xNT 61 60 58,xA 62 (.pick (.t 58) (.t 61) xU),xM 40 62] [3,6,40])
 (.cond (.t 40)
 .skip
 (.seq (xR [xF 64 0 3,xL 65 64,xA 66 (.bin .eql (.t 65) (xi 4)),xM 67 66,xFT 68 2 3 67,xFT 69 0 68 67,xLT 70 69 67,xAT 71 (.bin .neq (.t 70) (xi 3)) 67,xA 72 (.pick (.t 67) (.t 71) xU),xM 73 72,xMT 74 6 73,xFT 75 2 3 73,xAT 76 (.ld .cp (some 2) (.t 75)) 73,xAT 77 (.call 27 [(.t 74),(.t 76)]) 73,xA 78 (.pick (.t 73) (.t 77) xU),xM 79 78,xFT 80 1 3 79,xLT 81 80 79,xAT 82 (.bin .geq (.t 81) (xi 0)) 79,xA 83 (.pick (.t 79) (.t 82) xU),xM 84 83,xFT 85 1 3 84,xLT 86 85 84,xAT 87 (.bin .leq (.t 86) (xi 3)) 84,xA 88 (.pick (.t 84) (.t 87) xU),xM 63 88] [3,6,63])
 (.cond (.t 63)
 .skip
 (.seq (xR [xA 4 (.mov .own (.k (.c (.osl 2 [])))),xA 5 (.mov .own (xi 1))] [4,5])
 .ret))))))
 (.seq (xR [xM 89 6,xQ 90 4 3,xA 91 (.call 35 [(.t 89),(.t 90)]),xO 4 91,xA 5 (.mov .own (xi 0))] [4,5])
 .ret))))))),[(.tmp 4),(.tmp 5)],.pure,false,false⟩
def f37:AFun:=⟨0,
 (.seq (xR [xA 0 (.alloc [(.osl 6 [])])] [0])
 (.seq (xR [xA 2 (.build [xc,xa] [(0,1,(xi 3)),(1,1,(xs ⟨#[78,111,100,101]⟩))]),xA 1 (.alloc [xc,xa]),xS 2 1 2] [0,1])
 (.seq (xR [xQ 3 2 1,xA 4 (.build [xa,xc,xa,xb] [(0,1,(xs ⟨#[110,101,120,116]⟩)),(1,2,(.t 3))]),xA 5 (.bsl .own 4 1 [xa,xc,xa,xb] [(0,(.t 4))]),xQ 6 2 1,xA 7 (.bsl .own 2 1 [xc,xa] [(0,(.t 6))]),xA 8 (.build [xc,xa] [(0,1,(xi 2))]),xA 9 (.build [xc,xc,xa,xa] [(0,1,(xi 1)),(1,1,(xi 1))]),xA 10 (.build [xc,xc,xa,xa] [(0,1,(xi 41))]),xA 11 (.bsl .own 4 2 [xc,xc,xa,xa] [(0,(.t 9)),(1,(.t 10))]),xA 12 (.build [xa,xb,xb,(.osl 2 []),xc,xa,xc,(.osl 4 []),(.osl 4 [])] [(0,1,(xs ⟨#[109]⟩)),(1,1,xT),(3,1,(.t 7)),(4,2,(.t 8)),(6,1,(xi 1)),(7,1,(.t 11))]),xA 13 (.bsl .own 9 1 [xa,xb,xb,(.osl 2 []),xc,xa,xc,(.osl 4 []),(.osl 4 [])] [(0,(.t 12))]),xA 14 (.build [xa,xb,xa,(.osl 1 []),(.osl 4 []),(.osl 9 [])] [(0,1,(xs ⟨#[78,111,100,101]⟩)),(4,1,(.t 5)),(5,1,(.t 13))]),xA 15 (.bsl .own 6 1 [xa,xb,xa,(.osl 1 []),(.osl 4 []),(.osl 9 [])] [(0,(.t 14))]),xA 16 (.build [(.osl 6 [])] [(0,1,(.t 15))]),xS 1 0 16] [0])
 .ret))),[(.cell 0 (some 1))],.pure,false,false⟩
def f16:AFun:=⟨0,
 (.seq (xR [xA 0 (.mov .own xU)] [])
 (.seq (xR [xA 9 (.callb 37 []),xA 1 (.alloc [(.osl 6 [])]),xS 1 1 9] [1])
 (.seq (xR [xA 10 (.build [xc,xa] [(0,1,(xi 3)),(1,1,(xs ⟨#[78,111,100,101]⟩))]),xA 2 (.alloc [xc,xa]),xS 2 2 10] [1,2])
 (.seq (xR [xQ 12 1 1,xQ 13 2 2,xQ 14 2 2,xA 15 (.bsl .own 2 1 [xc,xa] [(0,(.t 14))]),xA 16 (.callb 10 [(.t 12),(.t 13),(.t 15),(xi 2),(xi 0)]),xO 11 16,xE 17 0 11,xE 18 1 11,xM 3 17,xM 4 18] [1,2,3,4])
 (.seq (xR [xQ 20 1 1,xQ 21 2 2,xA 22 (.callb 10 [(.t 20),(.t 21),(.k (.c (.osl 2 []))),(xi 0),(xi 0)]),xO 19 22,xE 23 0 19,xE 24 1 19,xM 5 23,xM 6 24] [1,2,3,4,5,6])
 (.seq (xR [xQ 26 1 1,xQ 27 2 2,xA 28 (.build [xc,xc,xc,xa] [(0,1,(xi 3)),(2,2,(.t 27))]),xA 29 (.callb 12 [(.t 26),(.t 28)]),xO 25 29,xE 30 0 25,xE 31 1 25,xM 7 30,xM 8 31] [2,3,4,5,6,7,8])
 (.seq (xG [xM 32 4,xA 33 (.bin .eql (.t 32) (xi 0)),xM 34 33,xMT 35 6 34,xAT 36 (.bin .eql (.t 35) (xi 0)) 34,xA 37 (.pick (.t 34) (.t 36) xU),xM 38 37,xMT 39 8 38,xAT 40 (.bin .eql (.t 39) (xi 0)) 38,xA 41 (.pick (.t 38) (.t 40) xU),xM 42 41,xMT 43 3 42,xAT 44 (.len 0 (.t 43)) 42,xAT 45 (.bin .eql (.t 44) (xi 3)) 42,xA 46 (.pick (.t 42) (.t 45) xU),xM 47 46,xMT 48 3 47,xAT 49 (.ia 4 (.t 48) (xi 0)) 47,xFT 50 0 49 47,xLT 51 50 47,xAT 52 (.bin .eql (.t 51) (xi 1)) 47,xA 53 (.pick (.t 47) (.t 52) xU),xM 54 53,xMT 55 3 54,xAT 56 (.ia 4 (.t 55) (xi 1)) 54,xFT 57 0 56 54,xLT 58 57 54,xAT 59 (.bin .eql (.t 58) (xi 2)) 54,xA 60 (.pick (.t 54) (.t 59) xU),xM 61 60,xMT 62 3 61,xAT 63 (.ia 4 (.t 62) (xi 2)) 61,xFT 64 0 63 61,xLT 65 64 61,xAT 66 (.bin .eql (.t 65) (xi 3)) 61,xA 67 (.pick (.t 61) (.t 66) xU),xM 68 67,xMT 69 5 68,xAT 70 (.len 0 (.t 69)) 68,xAT 71 (.bin .eql (.t 70) (xi 1)) 68,xA 72 (.pick (.t 68) (.t 71) xU),xM 73 72,xMT 74 7 73,xAT 75 (.len 0 (.t 74)) 73,xAT 76 (.bin .eql (.t 75) (xi 1)) 73,xA 77 (.pick (.t 73) (.t 76) xU),xM 78 77,xMT 79 7 78,xAT 80 (.ia 2 (.t 79) (xi 0)) 78,xAT 81 (.ld .cp (some 2) (.t 80)) 78,xAT 82 (.ld .cp (some 2) (.t 2)) 78,xAT 83 (.eq false 2 [1,2] (.t 81) (.t 82)) 78,xA 84 (.pick (.t 78) (.t 83) xU),xM 0 84] [0])
 .ret))))))),[(.tmp 0)],.pure,false,false⟩
def f20_b0:ACode:=(.wrap true [0,1,5] [4] [(0,[])]
 (.seq (.seq (xR [xM 6 5,xM 7 0,xH 8 7,xA 9 (.bin .lss (.t 6) (.t 8))] [0,1,5,9])
 (.cond (.t 9)
 .skip
 (.exit 0)))
 (.seq (.block 1 (.seq (xR [xM 12 0,xM 13 5,xI 14 6 12 13,xF 15 0 14,xL 16 15,xM 17 1,xA 18 (.bin .eql (.t 16) (.t 17))] [0,1,5,18])
 (.cond (.t 18)
 (.seq (xR [xO 19 5,xO 4 19] [4])
 .ret)
 .skip)))
 (xR [xM 10 5,xA 11 (.bin .add (.t 10) (xi 1)),xO 5 11] [0,1,5]))))
def f20_l0:ACode:=.loop f20_b0
theorem u20_l0:LpEq f20_l0 f20_b0:=K_loop
def f20:AFun:=⟨2,
 (.seq (xR [xA 4 (.mov .own (xi 0))] [0,1])
 (.seq (.seq (xR [xA 5 (.mov .own (xi 0))] [0,1,5])
 (.block 0 f20_l0))
 (.seq (xR [xA 4 (.mov .own (xi (-1)))] [4])
 .ret))),[(.tmp 4)],.pure,false,false⟩
def f40_b0:ACode:=(.wrap true [1,2,3] [0] [(0,[1])]
 (.seq (.seq (xR [xM 8 3,xM 9 2,xH 10 9,xA 11 (.bin .lss (.t 8) (.t 10))] [1,2,3,11])
 (.cond (.t 11)
 .skip
 (.exit 0)))
 (.seq (.block 1 (xR [xO 14 1,xM 15 2,xM 16 3,xI 17 1 15 16,xL 18 17,xA 19 (.build [xa,xb,xa,(.osl 1 []),(.osl 4 []),(.osl 9 [])] [(0,1,(.t 18)),(2,1,(xs ⟨#[69,114,114,111,114]⟩))]),xA 20 (.bsl .own 6 1 [xa,xb,xa,(.osl 1 []),(.osl 4 []),(.osl 9 [])] [(0,(.t 19))]),xA 21 (.app 6 112 (.t 14) (.t 20)),xO 1 21] [1,2,3]))
 (xR [xM 12 3,xA 13 (.bin .add (.t 12) (xi 1)),xM 3 13] [1,2,3]))))
def f40_l0:ACode:=.loop f40_b0
def f40:AFun:=⟨0,
 (.seq (xR [xA 0 (.mov .own (.k (.c (.osl 6 []))))] [])
 (.seq (xR [xA 4 (.build [xa,xb,xa,(.osl 1 []),(.osl 4 []),(.osl 9 [])] [(0,1,(xs ⟨#[79,98,106,101,99,116]⟩))]),xA 5 (.build [xa,xb,xa,(.osl 1 []),(.osl 4 []),(.osl 9 [])] [(0,1,(xs ⟨#[69,114,114,111,114]⟩)),(2,1,(xs ⟨#[79,98,106,101,99,116]⟩))]),xA 6 (.bsl .own 6 2 [xa,xb,xa,(.osl 1 []),(.osl 4 []),(.osl 9 [])] [(0,(.t 4)),(1,(.t 5))]),xO 1 6] [1])
 (.seq (xR [xA 7 (.bsl .own 1 6 [xa] [(0,(xs ⟨#[78,117,108,108,69,114,114,111,114]⟩)),(1,(xs ⟨#[82,97,110,103,101,69,114,114,111,114]⟩)),(2,(xs ⟨#[67,97,115,116,69,114,114,111,114]⟩)),(3,(xs ⟨#[78,117,109,69,114,114,111,114]⟩)),(4,(xs ⟨#[83,105,122,101,69,114,114,111,114]⟩)),(5,(xs ⟨#[68,101,112,116,104,69,114,114,111,114]⟩))]),xM 2 7] [1,2])
 (.seq (.seq (xR [xA 3 (.mov .cp (xi 0))] [1,2,3])
 (.block 0 f40_l0))
 (.seq (xR [xO 22 1,xO 0 22] [0])
 .ret))))),[(.tmp 0)],.pure,false,false⟩
def f101:AFun:=⟨1,
 (.seq (xR [xA 2 (.mov .own (.k (.c (.osl 2 []))))] [0])
 (.seq (xR [xA 3 (.mov .own (.k (.c (.osl 2 []))))] [0,3])
 (.seq (xR [xO 4 3,xM 5 0,xA 6 (.app 2 24 (.t 4) (.t 5)),xO 2 6] [2])
 .ret))),[(.tmp 2)],.pure,false,false⟩
def f80:AFun:=⟨1,
 (.seq (xR [xB 1 0,xA 2 (.alloc [xa,xb,xb,(.osl 2 []),xc,xa,xc,(.osl 4 []),(.osl 4 [])])] [1,2])
 (.seq (xR [xA 3 (.mov .cp (.k (.c (.b .nils))))] [1,2,3])
 (.seq (xR [xA 4 (.mov .cp (.k (.c (.b .nils))))] [1,2,3,4])
 (.seq (xG [xF 5 3 1,xL 6 5,xA 7 (.callb 101 [(.t 6)]),xM 8 3,xF 9 7 1,xL 10 9,xA 11 (.appn 4 48 (.t 8) (.t 10)),xM 12 4,xF 13 8 1,xL 14 13,xA 15 (.appn 4 40 (.t 12) (.t 14)),xF 16 3 1,xS 1 16 7,xF 17 7 1,xS 1 17 11,xF 18 8 1,xS 1 18 15] [1,2])
 (.seq (xR [xQ 19 9 1,xS 9 2 19] [2])
 .ret))))),[(.cell 2 (some 9))],.pure,false,false⟩
def f79_b0:ACode:=(.wrap true [1,2,5,6] [2] [(0,[1,2,5])]
 (.seq (.seq (xR [xM 17 6,xF 18 5 1,xL 19 18,xH 20 19,xA 21 (.bin .lss (.t 17) (.t 20))] [1,2,5,6,21])
 (.cond (.t 21)
 .skip
 (.exit 0)))
 (.seq (.block 1 (xR [xO 24 5,xF 25 5 1,xL 26 25,xM 27 6,xI 28 9 26 27,xQ 29 9 28,xA 30 (.callb 80 [(.t 29)]),xA 31 (.bsl .own 9 1 [xa,xb,xb,(.osl 2 []),xc,xa,xc,(.osl 4 []),(.osl 4 [])] [(0,(.t 30))]),xA 32 (.app 9 128 (.t 24) (.t 31)),xO 5 32] [1,2,5,6]))
 (xR [xM 22 6,xA 23 (.bin .add (.t 22) (xi 1)),xM 6 23] [1,2,5,6]))))
def f79_l0:ACode:=.loop f79_b0
theorem u79_l0:LpEq f79_l0 f79_b0:=K_loop
def f79:AFun:=⟨1,
 (.seq (xR [xB 1 0,xA 2 (.alloc [xa,xb,xa,(.osl 1 []),(.osl 4 []),(.osl 9 [])])] [1,2])
 (.seq (xR [xA 3 (.mov .cp (.k (.c (.b .nils))))] [1,2,3])
 (.seq (xR [xA 4 (.mov .cp (.k (.c (.b .nils))))] [1,2,3,4])
 (.seq (xR [xA 5 (.mov .own (.k (.c (.osl 9 []))))] [1,2,3,4,5])
 (.seq (xG [xM 7 3,xF 8 3 1,xL 9 8,xA 10 (.appn 1 16 (.t 7) (.t 9)),xM 11 4,xF 12 4 1,xL 13 12,xA 14 (.appn 4 48 (.t 11) (.t 13)),xF 15 3 1,xS 1 15 10,xF 16 4 1,xS 1 16 14] [1,2,5])
 (.seq (.seq (xR [xA 6 (.mov .cp (xi 0))] [1,2,5,6])
 (.block 0 f79_l0))
 (.seq (xR [xM 33 5,xF 34 5 1,xS 1 34 33] [1,2])
 (.seq (xR [xQ 35 6 1,xS 6 2 35] [2])
 .ret)))))))),[(.cell 2 (some 6))],.pure,false,false⟩
def f60_b0:ACode:=(.wrap true [1,2,3,4] [2] [(0,[2,3])]
 (.seq (.seq (xR [xM 5 4,xF 6 0 1,xL 7 6,xH 8 7,xA 9 (.bin .lss (.t 5) (.t 8))] [1,2,3,4,9])
 (.cond (.t 9)
 .skip
 (.exit 0)))
 (.seq (.block 1 (xG [xF 12 0 3,xW 13 12,xF 14 0 1,xL 15 14,xM 16 4,xI 17 6 15 16,xQ 18 6 17,xA 19 (.callb 79 [(.t 18)]),xA 20 (.bsl .own 6 1 [xa,xb,xa,(.osl 1 []),(.osl 4 []),(.osl 9 [])] [(0,(.t 19))]),xA 21 (.app 6 112 (.t 13) (.t 20)),xF 22 0 3,xS 1 22 21] [1,2,3,4]))
 (xR [xM 10 4,xA 11 (.bin .add (.t 10) (xi 1)),xM 4 11] [1,2,3,4]))))
def f60_l0:ACode:=.loop f60_b0
theorem u60_l0:LpEq f60_l0 f60_b0:=K_loop
def f60:AFun:=⟨1,
 (.seq (xR [xB 1 0,xA 2 (.alloc [(.osl 6 [])])] [1,2])
 (.seq (xR [xA 3 (.alloc [(.osl 6 [])])] [1,2,3])
 (.seq (.seq (xR [xA 4 (.mov .cp (xi 0))] [1,2,3,4])
 (.block 0 f60_l0))
 (.seq (xR [xQ 23 1 3,xS 1 2 23] [2])
 .ret)))),[(.cell 2 (some 1))],.pure,false,false⟩
def f39:AFun:=⟨1,
 (.seq (xR [xB 1 0,xA 2 (.mov .own (.k (.c (.osl 6 []))))] [1])
 (.seq (xG [xA 3 (.callb 40 []),xQ 4 1 1,xA 5 (.callb 60 [(.t 4)]),xA 6 (.fld 0 none (.t 5)),xA 7 (.app 6 112 (.t 3) (.t 6)),xO 2 7] [2])
 .ret)),[(.tmp 2)],.pure,false,false⟩
def f44_b0:ACode:=(.wrap true [0,1,5] [4] [(0,[])]
 (.seq (.seq (xR [xM 6 5,xM 7 0,xH 8 7,xA 9 (.bin .lss (.t 6) (.t 8))] [0,1,5,9])
 (.cond (.t 9)
 .skip
 (.exit 0)))
 (.seq (.block 1 (.seq (xR [xM 12 0,xM 13 5,xI 14 1 12 13,xL 15 14,xM 16 1,xA 17 (.bin .eql (.t 15) (.t 16))] [0,1,5,17])
 (.cond (.t 17)
 (.seq (xR [xA 4 (.mov .own xT)] [4])
 .ret)
 .skip)))
 (xR [xM 10 5,xA 11 (.bin .add (.t 10) (xi 1)),xM 5 11] [0,1,5]))))
def f44_l0:ACode:=.loop f44_b0
theorem u44_l0:LpEq f44_l0 f44_b0:=K_loop
def f44:AFun:=⟨2,
 (.seq (xR [xA 4 (.mov .own xU)] [0,1])
 (.seq (.seq (xR [xA 5 (.mov .cp (xi 0))] [0,1,5])
 (.block 0 f44_l0))
 (.seq (xR [xA 4 (.mov .own xU)] [4])
 .ret))),[(.tmp 4)],.pure,false,false⟩
def f58:AFun:=⟨1,
 (.seq (xR [xB 1 0,xA 2 (.mov .own (xs ⟨#[]⟩))] [1])
 (.seq (.seq (xR [xF 3 1 1,xL 4 3,xM 5 4,xFF 6 0 1 5,xLF 7 6 5,xAF 8 (.bin .eql (.t 7) (xs ⟨#[79,98,106,101,99,116]⟩)) 5,xA 9 (.pick (.t 5) xT (.t 8))] [1,9])
 (.cond (.t 9)
 (.seq (xR [xA 2 (.mov .own (xs ⟨#[]⟩))] [2])
 .ret)
 .skip))
 (.seq (.seq (xR [xF 10 2 1,xL 11 10,xA 12 (.bin .eql (.t 11) (xs ⟨#[]⟩))] [1,12])
 (.cond (.t 12)
 (.seq (xR [xA 2 (.mov .own (xs ⟨#[79,98,106,101,99,116]⟩))] [2])
 .ret)
 .skip))
 (.seq (xR [xF 13 2 1,xL 14 13,xO 2 14] [2])
 .ret)))),[(.tmp 2)],.pure,false,false⟩
def f59:AFun:=⟨1,
 (.seq (xR [xB 1 0,xA 2 (.mov .own (.k (.c (.osl 1 []))))] [1])
 (.seq (xR [xA 3 (.mov .own (.k (.c (.osl 1 []))))] [1,3])
 (.seq (.seq (xR [xQ 5 6 1,xA 6 (.callb 58 [(.t 5)]),xM 4 6] [1,3,4])
 (.seq (xR [xM 7 4,xA 8 (.bin .neq (.t 7) (xs ⟨#[]⟩))] [1,3,4,8])
 (.cond (.t 8)
 (xR [xO 9 3,xM 10 4,xA 11 (.bsl .own 1 1 [xa] [(0,(.t 10))]),xA 12 (.app 1 16 (.t 9) (.t 11)),xO 3 12] [1,3])
 .skip)))
 (.seq (xR [xO 13 3,xF 14 3 1,xL 15 14,xA 16 (.app 1 16 (.t 13) (.t 15)),xO 2 16] [2])
 .ret)))),[(.tmp 2)],.pure,false,false⟩
def f45_b0:ACode:=(.wrap true [0,5,6,8,9] [4] [(2,[0,5,6])]
 (.seq (.seq (xR [xM 31 9,xM 32 8,xH 33 32,xA 34 (.bin .lss (.t 31) (.t 33))] [0,5,6,8,9,34])
 (.cond (.t 34)
 .skip
 (.exit 2)))
 (.seq (.block 3 (.seq (xR [xM 37 5,xM 38 8,xM 39 9,xI 40 1 38 39,xL 41 40,xA 42 (.callb 44 [(.t 37),(.t 41)]),xN 43 42] [0,5,6,8,9,43])
 (.cond (.t 43)
 (xR [xO 44 5,xM 45 8,xM 46 9,xI 47 1 45 46,xL 48 47,xA 49 (.bsl .own 1 1 [xa] [(0,(.t 48))]),xA 50 (.app 1 16 (.t 44) (.t 49)),xO 5 50] [0,5,6,8,9])
 .skip)))
 (xR [xM 35 9,xA 36 (.bin .add (.t 35) (xi 1)),xM 9 36] [0,5,6,8,9]))))
def f45_l0:ACode:=.loop f45_b0
theorem u45_l0:LpEq f45_l0 f45_b0:=K_loop
def f45_b1:ACode:=(.wrap true [0,5,6] [4] [(0,[5])]
 (.seq (.seq (xR [xM 12 6,xM 13 5,xH 14 13,xA 15 (.bin .lss (.t 12) (.t 14))] [0,5,6,15])
 (.cond (.t 15)
 .skip
 (.exit 0)))
 (.seq (.block 1 (.seq (xR [xM 18 0,xM 19 5,xM 20 6,xI 21 1 19 20,xL 22 21,xA 23 (.callb 20 [(.t 18),(.t 22)]),xM 7 23] [0,5,6,7])
 (.seq (.seq (xR [xM 24 7,xA 25 (.bin .lss (.t 24) (xi 0))] [0,5,6,7,25])
 (.cond (.t 25)
 (.exit 1)
 .skip))
 (.seq (xR [xM 26 0,xM 27 7,xI 28 6 26 27,xQ 29 6 28,xA 30 (.callb 59 [(.t 29)]),xM 8 30] [0,5,6,8])
 (.seq (xR [xA 9 (.mov .cp (xi 0))] [0,5,6,8,9])
 (.block 2 f45_l0))))))
 (xR [xM 16 6,xA 17 (.bin .add (.t 16) (xi 1)),xM 6 17] [0,5,6]))))
def f45_l1:ACode:=.loop f45_b1
theorem u45_l1:LpEq f45_l1 f45_b1:=K_loop
def f45:AFun:=⟨2,
 (.seq (xR [xA 4 (.mov .own (.k (.c (.osl 1 []))))] [0,1])
 (.seq (xR [xM 10 1,xA 11 (.bsl .own 1 1 [xa] [(0,(.t 10))]),xO 5 11] [0,5])
 (.seq (.seq (xR [xA 6 (.mov .cp (xi 0))] [0,5,6])
 (.block 0 f45_l1))
 (.seq (xR [xO 51 5,xO 4 51] [4])
 .ret)))),[(.tmp 4)],.pure,false,false⟩
def f126:AFun:=⟨1,
 (.seq (xR [xA 2 (.mov .own xU)] [0])
 (.seq (xR [xM 3 0,xA 4 (.bin .geq (.t 3) (.k (.c (.b (.d (.int .u8 97)))))),xM 5 4,xMT 6 0 5,xAT 7 (.bin .leq (.t 6) (.k (.c (.b (.d (.int .u8 122)))))) 5,xA 8 (.pick (.t 5) (.t 7) xU),xM 9 8,xMF 10 0 9,xAF 11 (.bin .geq (.t 10) (.k (.c (.b (.d (.int .u8 65)))))) 9,xMF 12 11 9,xMT 13 0 12,xAT 14 (.bin .leq (.t 13) (.k (.c (.b (.d (.int .u8 90)))))) 12,xAF 15 (.pick (.t 12) (.t 14) xU) 9,xA 16 (.pick (.t 9) xT (.t 15)),xM 17 16,xMF 18 0 17,xAF 19 (.bin .eql (.t 18) (.k (.c (.b (.d (.int .u8 95)))))) 17,xA 20 (.pick (.t 17) xT (.t 19)),xO 2 20] [2])
 .ret)),[(.tmp 2)],.pure,false,false⟩
def f127:AFun:=⟨1,
 (.seq (xR [xA 2 (.mov .own xU)] [0])
 (.seq (xR [xM 3 0,xA 4 (.bin .geq (.t 3) (.k (.c (.b (.d (.int .u8 48)))))),xM 5 4,xMT 6 0 5,xAT 7 (.bin .leq (.t 6) (.k (.c (.b (.d (.int .u8 57)))))) 5,xA 8 (.pick (.t 5) (.t 7) xU),xO 2 8] [2])
 .ret)),[(.tmp 2)],.pure,false,false⟩
def f97_b0:ACode:=(.wrap true [0,3] [2] [(0,[])]
 (.seq (.seq (xR [xM 18 3,xM 19 0,xA 20 (.len 1 (.t 19)),xA 21 (.bin .lss (.t 18) (.t 20))] [0,3,21])
 (.cond (.t 21)
 .skip
 (.exit 0)))
 (.seq (.block 1 (.seq (xR [xM 24 0,xM 25 3,xA 26 (.ixs (.t 24) (.t 25)),xA 27 (.callb 126 [(.t 26)]),xN 28 27,xM 29 28,xMT 30 0 29,xMT 31 3 29,xAT 32 (.ixs (.t 30) (.t 31)) 29,xAT 33 (.callb 127 [(.t 32)]) 29,xNT 34 33 29,xA 35 (.pick (.t 29) (.t 34) xU)] [0,3,35])
 (.cond (.t 35)
 (.seq (xR [xA 2 (.mov .own xU)] [2])
 .ret)
 .skip)))
 (xR [xM 22 3,xA 23 (.bin .add (.t 22) (xi 1)),xM 3 23] [0,3]))))
def f97_l0:ACode:=.loop f97_b0
theorem u97_l0:LpEq f97_l0 f97_b0:=K_loop
def f97:AFun:=⟨1,
 (.seq (xR [xA 2 (.mov .own xU)] [0])
 (.seq (.seq (xR [xM 4 0,xA 5 (.len 1 (.t 4)),xA 6 (.bin .lss (.t 5) (xi 1)),xM 7 6,xMF 8 0 7,xAF 9 (.len 1 (.t 8)) 7,xAF 10 (.bin .gtr (.t 9) (xi 20)) 7,xA 11 (.pick (.t 7) xT (.t 10)),xM 12 11,xMF 13 0 12,xAF 14 (.ixs (.t 13) (xi 0)) 12,xAF 15 (.callb 126 [(.t 14)]) 12,xNF 16 15 12,xA 17 (.pick (.t 12) xT (.t 16))] [0,17])
 (.cond (.t 17)
 (.seq (xR [xA 2 (.mov .own xU)] [2])
 .ret)
 .skip))
 (.seq (.seq (xR [xA 3 (.mov .cp (xi 1))] [0,3])
 (.block 0 f97_l0))
 (.seq (xR [xA 2 (.mov .own xT)] [2])
 .ret)))),[(.tmp 2)],.pure,false,false⟩
def f98_b0:ACode:=(.wrap true [0,3,4] [2] [(0,[])]
 (.seq (.seq (xR [xM 6 4,xM 7 3,xH 8 7,xA 9 (.bin .lss (.t 6) (.t 8))] [0,3,4,9])
 (.cond (.t 9)
 .skip
 (.exit 0)))
 (.seq (.block 1 (.seq (xR [xM 12 3,xM 13 4,xI 14 1 12 13,xL 15 14,xM 16 0,xA 17 (.bin .eql (.t 15) (.t 16))] [0,3,4,17])
 (.cond (.t 17)
 (.seq (xR [xA 2 (.mov .own xT)] [2])
 .ret)
 .skip)))
 (xR [xM 10 4,xA 11 (.bin .add (.t 10) (xi 1)),xM 4 11] [0,3,4]))))
def f98_l0:ACode:=.loop f98_b0
theorem u98_l0:LpEq f98_l0 f98_b0:=K_loop
def f98:AFun:=⟨1,
 (.seq (xR [xA 2 (.mov .own xU)] [0])
 (.seq (xR [xA 5 (.bsl .own 1 12 [xa] [(0,(xs ⟨#[99,108,97,115,115]⟩)),(1,(xs ⟨#[105,110,116,101,114,102,97,99,101]⟩)),(2,(xs ⟨#[101,120,116,101,110,100,115]⟩)),(3,(xs ⟨#[105,109,112,108,101,109,101,110,116,115]⟩)),(4,(xs ⟨#[102,105,101,108,100]⟩)),(5,(xs ⟨#[115,116,97,116,105,99]⟩)),(6,(xs ⟨#[109,101,116,104,111,100]⟩)),(7,(xs ⟨#[102,117,110,99,116,105,111,110]⟩)),(8,(xs ⟨#[108,111,99,97,108,115]⟩)),(9,(xs ⟨#[99,97,116,99,104]⟩)),(10,(xs ⟨#[105,110,116]⟩)),(11,(xs ⟨#[118,111,105,100]⟩))]),xM 3 5] [0,3])
 (.seq (.seq (xR [xA 4 (.mov .cp (xi 0))] [0,3,4])
 (.block 0 f98_l0))
 (.seq (xR [xA 2 (.mov .own xU)] [2])
 .ret)))),[(.tmp 2)],.pure,false,false⟩
def f76:AFun:=⟨1,
 (.seq (xR [xA 2 (.mov .own xU)] [0])
 (.seq (xR [xM 3 0,xA 4 (.callb 97 [(.t 3)]),xM 5 4,xMT 6 0 5,xAT 7 (.callb 98 [(.t 6)]) 5,xNT 8 7 5,xA 9 (.pick (.t 5) (.t 8) xU),xO 2 9] [2])
 .ret)),[(.tmp 2)],.pure,false,false⟩
def f77:AFun:=⟨1,
 (.seq (xR [xB 1 0,xA 2 (.mov .own (xs ⟨#[]⟩))] [1])
 (.seq (.block 0 (.seq (xR [xF 4 0 1,xL 5 4,xA 6 (.bin .eql (.t 5) (xi 1)),xM 7 6,xFT 8 1 1 7,xLT 9 8 7,xAT 10 (.bin .eql (.t 9) (xs ⟨#[]⟩)) 7,xA 11 (.pick (.t 7) (.t 10) xU),xM 3 11] [1,3])
 (.cond (.t 3)
 (.seq (xR [xA 2 (.mov .own (xs ⟨#[118,111,105,100]⟩))] [2])
 .ret)
 (.seq (xR [xF 13 0 1,xL 14 13,xA 15 (.bin .eql (.t 14) (xi 2)),xM 16 15,xFT 17 1 1 16,xLT 18 17 16,xAT 19 (.bin .eql (.t 18) (xs ⟨#[]⟩)) 16,xA 20 (.pick (.t 16) (.t 19) xU),xM 12 20] [1,12])
 (.cond (.t 12)
 (.seq (xR [xA 2 (.mov .own (xs ⟨#[105,110,116]⟩))] [2])
 .ret)
 (.seq (xR [xF 22 0 1,xL 23 22,xA 24 (.bin .eql (.t 23) (xi 4)),xM 25 24,xFT 26 1 1 25,xLT 27 26 25,xAT 28 (.bin .eql (.t 27) (xs ⟨#[]⟩)) 25,xA 29 (.pick (.t 25) (.t 28) xU),xM 21 29] [1,21])
 (.cond (.t 21)
 (.seq (xR [xA 2 (.mov .own (xs ⟨#[105,110,116,91,93]⟩))] [2])
 .ret)
 (.seq (xR [xF 31 0 1,xL 32 31,xA 33 (.bin .eql (.t 32) (xi 3)),xM 34 33,xFT 35 1 1 34,xLT 36 35 34,xAT 37 (.callb 76 [(.t 36)]) 34,xA 38 (.pick (.t 34) (.t 37) xU),xM 30 38] [1,30])
 (.cond (.t 30)
 (.seq (xR [xF 39 1 1,xL 40 39,xO 2 40] [2])
 .ret)
 (.seq (xR [xF 42 0 1,xL 43 42,xA 44 (.bin .eql (.t 43) (xi 5)),xM 45 44,xFT 46 1 1 45,xLT 47 46 45,xAT 48 (.callb 76 [(.t 47)]) 45,xA 49 (.pick (.t 45) (.t 48) xU),xM 41 49] [1,41])
 (.cond (.t 41)
 (.seq (xR [xF 50 1 1,xL 51 50,xA 52 (.bin .add (.t 51) (xs ⟨#[91,93]⟩)),xO 2 52] [2])
 .ret)
 .skip)))))))))))
 (.seq (xR [xA 2 (.mov .own (xs ⟨#[]⟩))] [2])
 .ret))),[(.tmp 2)],.pure,false,false⟩
def f99:AFun:=⟨3,
 (.seq (xR [xA 6 (.mov .own xU)] [0,1,2])
 (.seq (xR [xM 7 0,xM 8 1,xA 9 (.bin .geq (.t 7) (.t 8)),xM 10 9,xMT 11 0 10,xMT 12 2 10,xAT 13 (.bin .leq (.t 11) (.t 12)) 10,xA 14 (.pick (.t 10) (.t 13) xU),xO 6 14] [6])
 .ret)),[(.tmp 6)],.pure,false,false⟩
def f128:AFun:=⟨1,
 (.seq (xR [xA 2 (.mov .own (xi 0))] [0])
 (.seq (.block 0 (.seq (xR [xM 4 0,xA 5 (.bin .eql (.t 4) (xi 1)),xM 3 5] [0,3])
 (.cond (.t 3)
 (.seq (xR [xA 2 (.mov .own (xi 1))] [2])
 .ret)
 (.seq (xR [xM 7 0,xA 8 (.bin .eql (.t 7) (xi 3)),xM 9 8,xMF 10 0 9,xAF 11 (.bin .eql (.t 10) (xi 4)) 9,xA 12 (.pick (.t 9) xT (.t 11)),xM 6 12] [0,6])
 (.cond (.t 6)
 (.seq (xR [xA 2 (.mov .own (xi 2))] [2])
 .ret)
 (.seq (xR [xM 14 0,xA 15 (.bin .geq (.t 14) (xi 14)),xM 16 15,xMT 17 0 16,xAT 18 (.bin .leq (.t 17) (xi 26)) 16,xA 19 (.pick (.t 16) (.t 18) xU),xM 13 19] [0,13])
 (.cond (.t 13)
 (.seq (xR [xA 2 (.mov .own (xi 3))] [2])
 .ret)
 (.seq (xR [xM 21 0,xA 22 (.bin .eql (.t 21) (xi 27)),xM 23 22,xMF 24 0 23,xAF 25 (.bin .eql (.t 24) (xi 33)) 23,xA 26 (.pick (.t 23) xT (.t 25)),xM 27 26,xMF 28 0 27,xAF 29 (.bin .eql (.t 28) (xi 37)) 27,xA 30 (.pick (.t 27) xT (.t 29)),xM 31 30,xMF 32 0 31,xAF 33 (.bin .eql (.t 32) (xi 38)) 31,xA 34 (.pick (.t 31) xT (.t 33)),xM 20 34] [0,20])
 (.cond (.t 20)
 (.seq (xR [xA 2 (.mov .own (xi 4))] [2])
 .ret)
 (.seq (xR [xM 36 0,xA 37 (.bin .geq (.t 36) (xi 28)),xM 38 37,xMT 39 0 38,xAT 40 (.bin .leq (.t 39) (xi 31)) 38,xA 41 (.pick (.t 38) (.t 40) xU),xM 42 41,xMF 43 0 42,xAF 44 (.bin .eql (.t 43) (xi 39)) 42,xA 45 (.pick (.t 42) xT (.t 44)),xM 46 45,xMF 47 0 46,xAF 48 (.bin .eql (.t 47) (xi 40)) 46,xA 49 (.pick (.t 46) xT (.t 48)),xM 35 49] [35])
 (.cond (.t 35)
 (.seq (xR [xA 2 (.mov .own (xi 5))] [2])
 .ret)
 .skip)))))))))))
 (.seq (xR [xA 2 (.mov .own (xi 0))] [2])
 .ret))),[(.tmp 2)],.pure,false,false⟩
def f100:AFun:=⟨1,
 (.seq (xR [xB 1 0,xA 2 (.mov .own xU)] [1])
 (.seq (.seq (xR [xF 3 0 1,xL 4 3,xA 5 (.callb 99 [(.t 4),(xi 0),(xi 43)]),xN 6 5] [1,6])
 (.cond (.t 6)
 (.seq (xR [xA 2 (.mov .own xU)] [2])
 .ret)
 .skip))
 (.seq (.seq (xR [xF 7 0 1,xL 8 7,xA 9 (.callb 128 [(.t 8)])] [1,9])
 (.block 0 (.seq (xR [xA 11 (.bin .eql (.t 9) (xi 1)),xM 10 11] [1,9,10])
 (.cond (.t 10)
 (.seq (xR [xF 12 1 1,xL 13 12,xA 14 (.callb 99 [(.t 13),(xi (-2147483648)),(xi 2147483647)]),xM 15 14,xFT 16 2 1 15,xLT 17 16 15,xAT 18 (.bin .eql (.t 17) (xs ⟨#[]⟩)) 15,xA 19 (.pick (.t 15) (.t 18) xU),xM 20 19,xFT 21 3 1 20,xLT 22 21 20,xAT 23 (.bin .eql (.t 22) (xs ⟨#[]⟩)) 20,xA 24 (.pick (.t 20) (.t 23) xU),xO 2 24] [2])
 .ret)
 (.seq (xR [xA 26 (.bin .eql (.t 9) (xi 2)),xM 25 26] [1,9,25])
 (.cond (.t 25)
 (.seq (xR [xF 27 1 1,xL 28 27,xA 29 (.callb 99 [(.t 28),(xi 0),(xi 7)]),xM 30 29,xFT 31 2 1 30,xLT 32 31 30,xAT 33 (.bin .eql (.t 32) (xs ⟨#[]⟩)) 30,xA 34 (.pick (.t 30) (.t 33) xU),xM 35 34,xFT 36 3 1 35,xLT 37 36 35,xAT 38 (.bin .eql (.t 37) (xs ⟨#[]⟩)) 35,xA 39 (.pick (.t 35) (.t 38) xU),xO 2 39] [2])
 .ret)
 (.seq (xR [xA 41 (.bin .eql (.t 9) (xi 3)),xM 40 41] [1,9,40])
 (.cond (.t 40)
 (.seq (xR [xF 42 1 1,xL 43 42,xA 44 (.callb 99 [(.t 43),(xi 0),(xi 47)]),xM 45 44,xFT 46 2 1 45,xLT 47 46 45,xAT 48 (.bin .eql (.t 47) (xs ⟨#[]⟩)) 45,xA 49 (.pick (.t 45) (.t 48) xU),xM 50 49,xFT 51 3 1 50,xLT 52 51 50,xAT 53 (.bin .eql (.t 52) (xs ⟨#[]⟩)) 50,xA 54 (.pick (.t 50) (.t 53) xU),xO 2 54] [2])
 .ret)
 (.seq (xR [xA 56 (.bin .eql (.t 9) (xi 4)),xM 55 56] [1,9,55])
 (.cond (.t 55)
 (.seq (xR [xF 57 1 1,xL 58 57,xA 59 (.bin .eql (.t 58) (xi 0)),xM 60 59,xFT 61 2 1 60,xLT 62 61 60,xAT 63 (.callb 76 [(.t 62)]) 60,xA 64 (.pick (.t 60) (.t 63) xU),xM 65 64,xFT 66 3 1 65,xLT 67 66 65,xAT 68 (.bin .eql (.t 67) (xs ⟨#[]⟩)) 65,xA 69 (.pick (.t 65) (.t 68) xU),xO 2 69] [2])
 .ret)
 (.seq (xR [xA 71 (.bin .eql (.t 9) (xi 5)),xM 70 71] [1,70])
 (.cond (.t 70)
 (.seq (xR [xF 72 1 1,xL 73 72,xA 74 (.bin .eql (.t 73) (xi 0)),xM 75 74,xFT 76 2 1 75,xLT 77 76 75,xAT 78 (.callb 76 [(.t 77)]) 75,xA 79 (.pick (.t 75) (.t 78) xU),xM 80 79,xFT 81 3 1 80,xLT 82 81 80,xAT 83 (.callb 76 [(.t 82)]) 80,xA 84 (.pick (.t 80) (.t 83) xU),xO 2 84] [2])
 .ret)
 .skip))))))))))))
 (.seq (xR [xF 85 1 1,xL 86 85,xA 87 (.bin .eql (.t 86) (xi 0)),xM 88 87,xFT 89 2 1 88,xLT 90 89 88,xAT 91 (.bin .eql (.t 90) (xs ⟨#[]⟩)) 88,xA 92 (.pick (.t 88) (.t 91) xU),xM 93 92,xFT 94 3 1 93,xLT 95 94 93,xAT 96 (.bin .eql (.t 95) (xs ⟨#[]⟩)) 93,xA 97 (.pick (.t 93) (.t 96) xU),xO 2 97] [2])
 .ret)))),[(.tmp 2)],.pure,false,false⟩
def f78_b0:ACode:=(.wrap true [1,3] [2] [(0,[1])]
 (.seq (.seq (xR [xM 56 3,xF 57 3 1,xL 58 57,xH 59 58,xA 60 (.bin .lss (.t 56) (.t 59))] [1,3,60])
 (.cond (.t 60)
 .skip
 (.exit 0)))
 (.seq (.block 1 (.seq (xR [xF 63 3 1,xL 64 63,xM 65 3,xI 66 2 64 65,xQ 67 2 66,xA 68 (.callb 77 [(.t 67)]),xA 69 (.bin .eql (.t 68) (xs ⟨#[]⟩))] [1,3,69])
 (.cond (.t 69)
 (.seq (xR [xA 2 (.mov .own xU)] [2])
 .ret)
 .skip)))
 (xR [xM 61 3,xA 62 (.bin .add (.t 61) (xi 1)),xM 3 62] [1,3]))))
def f78_l0:ACode:=.loop f78_b0
theorem u78_l0:LpEq f78_l0 f78_b0:=K_loop
def f78_b1:ACode:=(.wrap true [1,4] [2] [(2,[1])]
 (.seq (.seq (xR [xM 70 4,xF 71 7 1,xL 72 71,xH 73 72,xA 74 (.bin .lss (.t 70) (.t 73))] [1,4,74])
 (.cond (.t 74)
 .skip
 (.exit 2)))
 (.seq (.block 3 (.seq (xR [xF 77 7 1,xL 78 77,xM 79 4,xI 80 4 78 79,xQ 81 4 80,xA 82 (.callb 100 [(.t 81)]),xN 83 82] [1,4,83])
 (.cond (.t 83)
 (.seq (xR [xA 2 (.mov .own xU)] [2])
 .ret)
 .skip)))
 (xR [xM 75 4,xA 76 (.bin .add (.t 75) (xi 1)),xM 4 76] [1,4]))))
def f78_l1:ACode:=.loop f78_b1
theorem u78_l1:LpEq f78_l1 f78_b1:=K_loop
def f78_b2:ACode:=(.wrap true [1,5] [2] [(4,[])]
 (.seq (.seq (xR [xM 84 5,xF 85 8 1,xL 86 85,xH 87 86,xA 88 (.bin .lss (.t 84) (.t 87))] [1,5,88])
 (.cond (.t 88)
 .skip
 (.exit 4)))
 (.seq (.block 5 (.seq (xR [xF 91 8 1,xL 92 91,xM 93 5,xI 94 4 92 93,xQ 95 4 94,xA 6 (.alloc [xa,xc,xc,xc]),xS 4 6 95] [1,5,6])
 (.seq (xR [xF 96 0 6,xL 97 96,xA 98 (.callb 76 [(.t 97)]),xN 99 98,xM 100 99,xFF 101 1 6 100,xLF 102 101 100,xAF 103 (.callb 99 [(.t 102),(xi 0),(xi 48)]) 100,xNF 104 103 100,xA 105 (.pick (.t 100) xT (.t 104)),xM 106 105,xFF 107 2 6 106,xLF 108 107 106,xAF 109 (.callb 99 [(.t 108),(xi 0),(xi 48)]) 106,xNF 110 109 106,xA 111 (.pick (.t 106) xT (.t 110)),xM 112 111,xFF 113 3 6 112,xLF 114 113 112,xAF 115 (.callb 99 [(.t 114),(xi 0),(xi 48)]) 112,xNF 116 115 112,xA 117 (.pick (.t 112) xT (.t 116))] [1,5,117])
 (.cond (.t 117)
 (.seq (xR [xA 2 (.mov .own xU)] [2])
 .ret)
 .skip))))
 (xR [xM 89 5,xA 90 (.bin .add (.t 89) (xi 1)),xM 5 90] [1,5]))))
def f78_l2:ACode:=.loop f78_b2
theorem u78_l2:LpEq f78_l2 f78_b2:=K_loop
def f78:AFun:=⟨1,
 (.seq (xR [xB 1 0,xA 2 (.mov .own xU)] [1])
 (.seq (.seq (xR [xF 7 0 1,xL 8 7,xA 9 (.callb 76 [(.t 8)]),xN 10 9,xM 11 10,xFF 12 3 1 11,xLF 13 12 11,xAF 14 (.len 0 (.t 13)) 11,xAF 15 (.bin .gtr (.t 14) (xi 4)) 11,xA 16 (.pick (.t 11) xT (.t 15)),xM 17 16,xFF 18 4 1 17,xAF 19 (.ld .cp (some 2) (.t 18)) 17,xAF 20 (.callb 77 [(.t 19)]) 17,xAF 21 (.bin .eql (.t 20) (xs ⟨#[]⟩)) 17,xA 22 (.pick (.t 17) xT (.t 21)),xM 23 22,xFF 24 7 1 23,xLF 25 24 23,xAF 26 (.len 0 (.t 25)) 23,xAF 27 (.bin .gtr (.t 26) (xi 48)) 23,xA 28 (.pick (.t 23) xT (.t 27)),xM 29 28,xFF 30 8 1 29,xLF 31 30 29,xAF 32 (.len 0 (.t 31)) 29,xAF 33 (.bin .gtr (.t 32) (xi 4)) 29,xA 34 (.pick (.t 29) xT (.t 33)),xM 35 34,xFF 36 6 1 35,xLF 37 36 35,xAF 38 (.callb 99 [(.t 37),(xi 0),(xi 8)]) 35,xNF 39 38 35,xA 40 (.pick (.t 35) xT (.t 39))] [1,40])
 (.cond (.t 40)
 (.seq (xR [xA 2 (.mov .own xU)] [2])
 .ret)
 .skip))
 (.seq (.seq (xR [xF 41 2 1,xL 42 41,xM 43 42,xFT 44 6 1 43,xLT 45 44 43,xFT 46 7 1 43,xLT 47 46 43,xAT 48 (.len 0 (.t 47)) 43,xAT 49 (.bin .add (.t 45) (.t 48)) 43,xFT 50 8 1 43,xLT 51 50 43,xAT 52 (.len 0 (.t 51)) 43,xAT 53 (.bin .add (.t 49) (.t 52)) 43,xAT 54 (.bin .gtr (.t 53) (xi 0)) 43,xA 55 (.pick (.t 43) (.t 54) xU)] [1,55])
 (.cond (.t 55)
 (.seq (xR [xA 2 (.mov .own xU)] [2])
 .ret)
 .skip))
 (.seq (.seq (xR [xA 3 (.mov .cp (xi 0))] [1,3])
 (.block 0 f78_l0))
 (.seq (.seq (xR [xA 4 (.mov .cp (xi 0))] [1,4])
 (.block 2 f78_l1))
 (.seq (.seq (xR [xA 5 (.mov .cp (xi 0))] [1,5])
 (.block 4 f78_l2))
 (.seq (xR [xA 2 (.mov .own xT)] [2])
 .ret))))))),[(.tmp 2)],.pure,false,false⟩
def f57_b0:ACode:=(.wrap true [1,3,4,5] [2] [(2,[1,3,4])]
 (.seq (.seq (xR [xM 61 5,xF 62 3 4,xL 63 62,xH 64 63,xA 65 (.bin .lss (.t 61) (.t 64))] [1,3,4,5,65])
 (.cond (.t 65)
 .skip
 (.exit 2)))
 (.seq (.block 3 (.seq (xR [xF 68 3 4,xL 69 68,xM 70 5,xI 71 1 69 70,xL 72 71,xA 73 (.callb 76 [(.t 72)]),xN 74 73] [1,3,4,5,74])
 (.cond (.t 74)
 (.seq (xR [xA 2 (.mov .own xU)] [2])
 .ret)
 .skip)))
 (xR [xM 66 5,xA 67 (.bin .add (.t 66) (xi 1)),xM 5 67] [1,3,4,5]))))
def f57_l0:ACode:=.loop f57_b0
theorem u57_l0:LpEq f57_l0 f57_b0:=K_loop
def f57_b1:ACode:=(.wrap true [1,3,4,6] [2] [(4,[1,3,4])]
 (.seq (.seq (xR [xM 75 6,xF 76 4 4,xL 77 76,xH 78 77,xA 79 (.bin .lss (.t 75) (.t 78))] [1,3,4,6,79])
 (.cond (.t 79)
 .skip
 (.exit 4)))
 (.seq (.block 5 (.seq (xR [xF 82 4 4,xL 83 82,xM 84 6,xI 85 4 83 84,xF 86 0 85,xL 87 86,xA 88 (.callb 76 [(.t 87)]),xN 89 88,xM 90 89,xFF 91 4 4 90,xLF 92 91 90,xMF 93 6 90,xIF 94 4 92 93 90,xFF 95 1 94 90,xAF 96 (.ld .cp (some 2) (.t 95)) 90,xAF 97 (.callb 77 [(.t 96)]) 90,xAF 98 (.bin .eql (.t 97) (xs ⟨#[]⟩)) 90,xA 99 (.pick (.t 90) xT (.t 98))] [1,3,4,6,99])
 (.cond (.t 99)
 (.seq (xR [xA 2 (.mov .own xU)] [2])
 .ret)
 .skip)))
 (xR [xM 80 6,xA 81 (.bin .add (.t 80) (xi 1)),xM 6 81] [1,3,4,6]))))
def f57_l1:ACode:=.loop f57_b1
theorem u57_l1:LpEq f57_l1 f57_b1:=K_loop
def f57_b2:ACode:=(.wrap true [1,3,4,7] [2] [(6,[1,3])]
 (.seq (.seq (xR [xM 100 7,xF 101 5 4,xL 102 101,xH 103 102,xA 104 (.bin .lss (.t 100) (.t 103))] [1,3,4,7,104])
 (.cond (.t 104)
 .skip
 (.exit 6)))
 (.seq (.block 7 (.seq (xR [xF 107 5 4,xL 108 107,xM 109 7,xI 110 9 108 109,xQ 111 9 110,xA 112 (.callb 78 [(.t 111)]),xN 113 112] [1,3,4,7,113])
 (.cond (.t 113)
 (.seq (xR [xA 2 (.mov .own xU)] [2])
 .ret)
 .skip)))
 (xR [xM 105 7,xA 106 (.bin .add (.t 105) (xi 1)),xM 7 106] [1,3,4,7]))))
def f57_l2:ACode:=.loop f57_b2
theorem u57_l2:LpEq f57_l2 f57_b2:=K_loop
def f57_b3:ACode:=(.wrap true [1,3] [2] [(0,[])]
 (.seq (.seq (xR [xM 12 3,xF 13 0 1,xL 14 13,xH 15 14,xA 16 (.bin .lss (.t 12) (.t 15))] [1,3,16])
 (.cond (.t 16)
 .skip
 (.exit 0)))
 (.seq (.block 1 (.seq (xR [xF 19 0 1,xL 20 19,xM 21 3,xI 22 6 20 21,xQ 23 6 22,xA 4 (.alloc [xa,xb,xa,(.osl 1 []),(.osl 4 []),(.osl 9 [])]),xS 6 4 23] [1,3,4])
 (.seq (.seq (xR [xF 24 0 4,xL 25 24,xA 26 (.callb 76 [(.t 25)]),xN 27 26,xM 28 27,xFF 29 2 4 28,xLF 30 29 28,xAF 31 (.bin .neq (.t 30) (xs ⟨#[]⟩)) 28,xMF 32 31 28,xFT 33 1 4 32,xLT 34 33 32,xMT 35 34 32,xFF 36 2 4 35,xLF 37 36 35,xAF 38 (.callb 76 [(.t 37)]) 35,xNF 39 38 35,xAT 40 (.pick (.t 35) xT (.t 39)) 32,xAF 41 (.pick (.t 32) (.t 40) xU) 28,xA 42 (.pick (.t 28) xT (.t 41)),xM 43 42,xFF 44 3 4 43,xLF 45 44 43,xAF 46 (.len 0 (.t 45)) 43,xAF 47 (.bin .gtr (.t 46) (xi 4)) 43,xA 48 (.pick (.t 43) xT (.t 47)),xM 49 48,xFF 50 4 4 49,xLF 51 50 49,xAF 52 (.len 0 (.t 51)) 49,xAF 53 (.bin .gtr (.t 52) (xi 6)) 49,xA 54 (.pick (.t 49) xT (.t 53)),xM 55 54,xFF 56 5 4 55,xLF 57 56 55,xAF 58 (.len 0 (.t 57)) 55,xAF 59 (.bin .gtr (.t 58) (xi 6)) 55,xA 60 (.pick (.t 55) xT (.t 59))] [1,3,4,60])
 (.cond (.t 60)
 (.seq (xR [xA 2 (.mov .own xU)] [2])
 .ret)
 .skip))
 (.seq (.seq (xR [xA 5 (.mov .cp (xi 0))] [1,3,4,5])
 (.block 2 f57_l0))
 (.seq (.seq (xR [xA 6 (.mov .cp (xi 0))] [1,3,4,6])
 (.block 4 f57_l1))
 (.seq (xR [xA 7 (.mov .cp (xi 0))] [1,3,4,7])
 (.block 6 f57_l2)))))))
 (xR [xM 17 3,xA 18 (.bin .add (.t 17) (xi 1)),xM 3 18] [1,3]))))
def f57_l3:ACode:=.loop f57_b3
theorem u57_l3:LpEq f57_l3 f57_b3:=K_loop
def f57:AFun:=⟨1,
 (.seq (xR [xB 1 0,xA 2 (.mov .own xU)] [1])
 (.seq (.seq (xR [xF 8 0 1,xL 9 8,xH 10 9,xA 11 (.bin .gtr (.t 10) (xi 10))] [1,11])
 (.cond (.t 11)
 (.seq (xR [xA 2 (.mov .own xU)] [2])
 .ret)
 .skip))
 (.seq (.seq (xR [xA 3 (.mov .cp (xi 0))] [1,3])
 (.block 0 f57_l3))
 (.seq (xR [xA 2 (.mov .own xT)] [2])
 .ret)))),[(.tmp 2)],.pure,false,false⟩
def f38_b0:ACode:=(.wrap true [3,4] [2] [(0,[3])]
 (.seq (.seq (xR [xM 17 4,xM 18 3,xH 19 18,xA 20 (.bin .lss (.t 17) (.t 19))] [3,4,20])
 (.cond (.t 20)
 .skip
 (.exit 0)))
 (.seq (.block 1 (.seq (xR [xM 23 3,xM 24 3,xM 25 4,xI 26 6 24 25,xF 27 0 26,xL 28 27,xA 29 (.callb 20 [(.t 23),(.t 28)]),xM 30 4,xA 31 (.bin .neq (.t 29) (.t 30))] [3,4,31])
 (.cond (.t 31)
 (.seq (xR [xA 2 (.mov .own (xi 6))] [2])
 .ret)
 .skip)))
 (xR [xM 21 4,xA 22 (.bin .add (.t 21) (xi 1)),xM 4 22] [3,4]))))
def f38_l0:ACode:=.loop f38_b0
theorem u38_l0:LpEq f38_l0 f38_b0:=K_loop
def f38_b1:ACode:=(.wrap true [3,5,7] [2] [(4,[3,5])]
 (.seq (.seq (xR [xM 60 7,xM 61 3,xM 62 5,xI 63 6 61 62,xF 64 3 63,xL 65 64,xH 66 65,xA 67 (.bin .lss (.t 60) (.t 66))] [3,5,7,67])
 (.cond (.t 67)
 .skip
 (.exit 4)))
 (.seq (.block 5 (.seq (xR [xM 70 3,xM 71 3,xM 72 5,xI 73 6 71 72,xF 74 3 73,xL 75 74,xM 76 7,xI 77 1 75 76,xL 78 77,xA 79 (.callb 20 [(.t 70),(.t 78)]),xM 8 79] [3,5,7,8])
 (.seq (xR [xM 80 8,xA 81 (.bin .lss (.t 80) (xi 0)),xM 82 81,xMF 83 3 82,xMF 84 8 82,xIF 85 6 83 84 82,xFF 86 1 85 82,xLF 87 86 82,xNF 88 87 82,xA 89 (.pick (.t 82) xT (.t 88))] [3,5,7,89])
 (.cond (.t 89)
 (.seq (xR [xA 2 (.mov .own (xi 5))] [2])
 .ret)
 .skip))))
 (xR [xM 68 7,xA 69 (.bin .add (.t 68) (xi 1)),xM 7 69] [3,5,7]))))
def f38_l1:ACode:=.loop f38_b1
theorem u38_l1:LpEq f38_l1 f38_b1:=K_loop
def f38_b2:ACode:=(.wrap true [3,5] [2] [(2,[3])]
 (.seq (.seq (xR [xM 32 5,xM 33 3,xH 34 33,xA 35 (.bin .lss (.t 32) (.t 34))] [3,5,35])
 (.cond (.t 35)
 .skip
 (.exit 2)))
 (.seq (.block 3 (.seq (.seq (xR [xM 38 3,xM 39 5,xI 40 6 38 39,xQ 41 6 40,xA 42 (.callb 58 [(.t 41)]),xM 6 42] [3,5,6])
 (.seq (xR [xM 43 6,xA 44 (.bin .neq (.t 43) (xs ⟨#[]⟩)),xM 45 44,xMT 46 3 45,xMT 47 6 45,xAT 48 (.callb 20 [(.t 46),(.t 47)]) 45,xAT 49 (.bin .lss (.t 48) (xi 0)) 45,xMT 50 49 45,xMF 51 3 50,xMF 52 3 50,xMF 53 6 50,xAF 54 (.callb 20 [(.t 52),(.t 53)]) 50,xIF 55 6 51 54 50,xFF 56 1 55 50,xLF 57 56 50,xAT 58 (.pick (.t 50) xT (.t 57)) 45,xA 59 (.pick (.t 45) (.t 58) xU)] [3,5,59])
 (.cond (.t 59)
 (.seq (xR [xA 2 (.mov .own (xi 5))] [2])
 .ret)
 .skip)))
 (.seq (xR [xA 7 (.mov .cp (xi 0))] [3,5,7])
 (.block 4 f38_l1))))
 (xR [xM 36 5,xA 37 (.bin .add (.t 36) (xi 1)),xM 5 37] [3,5]))))
def f38_l2:ACode:=.loop f38_b2
theorem u38_l2:LpEq f38_l2 f38_b2:=K_loop
def f38_b3:ACode:=(.wrap true [3,9,10,11] [2] [(8,[3,9])]
 (.seq (.seq (xR [xM 101 11,xM 102 10,xH 103 102,xA 104 (.bin .lss (.t 101) (.t 103))] [3,9,10,11,104])
 (.cond (.t 104)
 .skip
 (.exit 8)))
 (.seq (.block 9 (.seq (xG [xM 107 3,xM 108 10,xM 109 11,xI 110 1 108 109,xL 111 110,xA 112 (.callb 45 [(.t 107),(.t 111)]),xM 113 3,xM 114 9,xI 115 6 113 114,xF 116 0 115,xL 117 116,xA 118 (.callb 44 [(.t 112),(.t 117)])] [3,9,10,11,118])
 (.cond (.t 118)
 (.seq (xR [xA 2 (.mov .own (xi 7))] [2])
 .ret)
 .skip)))
 (xR [xM 105 11,xA 106 (.bin .add (.t 105) (xi 1)),xM 11 106] [3,9,10,11]))))
def f38_l3:ACode:=.loop f38_b3
theorem u38_l3:LpEq f38_l3 f38_b3:=K_loop
def f38_b4:ACode:=(.wrap true [3,9] [2] [(6,[])]
 (.seq (.seq (xR [xM 90 9,xM 91 3,xH 92 91,xA 93 (.bin .lss (.t 90) (.t 92))] [3,9,93])
 (.cond (.t 93)
 .skip
 (.exit 6)))
 (.seq (.block 7 (.seq (xR [xM 96 3,xM 97 9,xI 98 6 96 97,xQ 99 6 98,xA 100 (.callb 59 [(.t 99)]),xM 10 100] [3,9,10])
 (.seq (xR [xA 11 (.mov .cp (xi 0))] [3,9,10,11])
 (.block 8 f38_l3))))
 (xR [xM 94 9,xA 95 (.bin .add (.t 94) (xi 1)),xM 9 95] [3,9]))))
def f38_l4:ACode:=.loop f38_b4
theorem u38_l4:LpEq f38_l4 f38_b4:=K_loop
def f38:AFun:=⟨1,
 (.seq (xR [xB 1 0,xA 2 (.mov .own (xi 0))] [1])
 (.seq (.seq (xR [xQ 12 1 1,xA 13 (.callb 57 [(.t 12)]),xN 14 13] [1,14])
 (.cond (.t 14)
 (.seq (xR [xA 2 (.mov .own (xi 4))] [2])
 .ret)
 .skip))
 (.seq (xR [xQ 15 1 1,xA 16 (.callb 39 [(.t 15)]),xM 3 16] [3])
 (.seq (.seq (xR [xA 4 (.mov .cp (xi 0))] [3,4])
 (.block 0 f38_l0))
 (.seq (.seq (xR [xA 5 (.mov .cp (xi 0))] [3,5])
 (.block 2 f38_l2))
 (.seq (.seq (xR [xA 9 (.mov .cp (xi 0))] [3,9])
 (.block 6 f38_l4))
 (.seq (xR [xA 2 (.mov .own (xi 0))] [2])
 .ret))))))),[(.tmp 2)],.pure,false,false⟩
def f61_b0:ACode:=(.wrap true [1,2,5] [4] [(0,[])]
 (.seq (.seq (xR [xM 6 5,xF 7 5 2,xL 8 7,xH 9 8,xA 10 (.bin .lss (.t 6) (.t 9))] [1,2,5,10])
 (.cond (.t 10)
 .skip
 (.exit 0)))
 (.seq (.block 1 (.seq (xR [xF 13 5 2,xL 14 13,xM 15 5,xI 16 9 14 15,xF 17 0 16,xL 18 17,xM 19 1,xA 20 (.bin .eql (.t 18) (.t 19))] [1,2,5,20])
 (.cond (.t 20)
 (.seq (xR [xO 21 5,xO 4 21] [4])
 .ret)
 .skip)))
 (xR [xM 11 5,xA 12 (.bin .add (.t 11) (xi 1)),xO 5 12] [1,2,5]))))
def f61_l0:ACode:=.loop f61_b0
theorem u61_l0:LpEq f61_l0 f61_b0:=K_loop
def f61:AFun:=⟨2,
 (.seq (xR [xB 2 0,xA 4 (.mov .own (xi 0))] [1,2])
 (.seq (.seq (xR [xA 5 (.mov .own (xi 0))] [1,2,5])
 (.block 0 f61_l0))
 (.seq (xR [xA 4 (.mov .own (xi (-1)))] [4])
 .ret))),[(.tmp 4)],.pure,false,false⟩
def f62:AFun:=⟨2,
 (.seq (xR [xB 3 1,xA 4 (.mov .own xU)] [0,3])
 (.seq (xR [xF 5 0 3,xL 6 5,xA 7 (.bin .neq (.t 6) (xi 3)),xM 8 7,xFT 9 0 3 8,xLT 10 9 8,xAT 11 (.bin .neq (.t 10) (xi 5)) 8,xA 12 (.pick (.t 8) (.t 11) xU),xM 13 12,xMF 14 0 13,xFF 15 1 3 13,xLF 16 15 13,xAF 17 (.callb 20 [(.t 14),(.t 16)]) 13,xAF 18 (.bin .geq (.t 17) (xi 0)) 13,xA 19 (.pick (.t 13) xT (.t 18)),xO 4 19] [4])
 .ret)),[(.tmp 4)],.pure,false,false⟩
def f41_b0:ACode:=(.wrap true [0,3,5,6,7] [4] [(2,[0,3,5])]
 (.seq (.seq (xR [xM 48 7,xF 49 3 6,xL 50 49,xH 51 50,xA 52 (.bin .lss (.t 48) (.t 51))] [0,3,5,6,7,52])
 (.cond (.t 52)
 .skip
 (.exit 2)))
 (.seq (.block 3 (.seq (xR [xF 55 3 6,xL 56 55,xM 57 7,xI 58 2 56 57,xF 59 0 58,xL 60 59,xA 61 (.bin .eql (.t 60) (xi 1))] [0,3,5,6,7,61])
 (.cond (.t 61)
 (.seq (xR [xA 4 (.mov .own (xi 4))] [4])
 .ret)
 .skip)))
 (xR [xM 53 7,xA 54 (.bin .add (.t 53) (xi 1)),xM 7 54] [0,3,5,6,7]))))
def f41_l0:ACode:=.loop f41_b0
theorem u41_l0:LpEq f41_l0 f41_b0:=K_loop
def f41_b1:ACode:=(.wrap true [0,3,5] [4] [(0,[0,3])]
 (.seq (.seq (xR [xM 16 5,xF 17 5 3,xL 18 17,xH 19 18,xA 20 (.bin .lss (.t 16) (.t 19))] [0,3,5,20])
 (.cond (.t 20)
 .skip
 (.exit 0)))
 (.seq (.block 1 (.seq (xR [xF 23 5 3,xL 24 23,xM 25 5,xI 26 9 24 25,xQ 27 9 26,xA 6 (.alloc [xa,xb,xb,(.osl 2 []),xc,xa,xc,(.osl 4 []),(.osl 4 [])]),xS 9 6 27] [0,3,5,6])
 (.seq (.seq (xR [xF 28 1 3,xL 29 28,xM 30 29,xFT 31 2 6 30,xLT 32 31 30,xNT 33 32 30,xMT 34 33 30,xFF 35 1 6 34,xLF 36 35 34,xAT 37 (.pick (.t 34) xT (.t 36)) 30,xA 38 (.pick (.t 30) (.t 37) xU),xM 39 38,xFF 40 1 3 39,xLF 41 40 39,xNF 42 41 39,xMF 43 42 39,xFT 44 2 6 43,xLT 45 44 43,xAF 46 (.pick (.t 43) (.t 45) xU) 39,xA 47 (.pick (.t 39) xT (.t 46))] [0,3,5,6,47])
 (.cond (.t 47)
 (.seq (xR [xA 4 (.mov .own (xi 4))] [4])
 .ret)
 .skip))
 (.seq (xR [xA 7 (.mov .cp (xi 0))] [0,3,5,6,7])
 (.block 2 f41_l0)))))
 (xR [xM 21 5,xA 22 (.bin .add (.t 21) (xi 1)),xM 5 22] [0,3,5]))))
def f41_l1:ACode:=.loop f41_b1
theorem u41_l1:LpEq f41_l1 f41_b1:=K_loop
def f41_b2:ACode:=(.wrap true [0,3,8] [4] [(4,[0,3])]
 (.seq (.seq (xR [xM 62 8,xF 63 4 3,xL 64 63,xH 65 64,xA 66 (.bin .lss (.t 62) (.t 65))] [0,3,8,66])
 (.cond (.t 66)
 .skip
 (.exit 4)))
 (.seq (.block 5 (.seq (xR [xF 69 1 3,xL 70 69,xM 71 70,xFF 72 4 3 71,xLF 73 72 71,xMF 74 8 71,xIF 75 4 73 74 71,xFF 76 1 75 71,xFF 77 0 76 71,xLF 78 77 71,xAF 79 (.bin .eql (.t 78) (xi 1)) 71,xA 80 (.pick (.t 71) xT (.t 79))] [0,3,8,80])
 (.cond (.t 80)
 (.seq (xR [xA 4 (.mov .own (xi 4))] [4])
 .ret)
 .skip)))
 (xR [xM 67 8,xA 68 (.bin .add (.t 67) (xi 1)),xM 8 68] [0,3,8]))))
def f41_l2:ACode:=.loop f41_b2
theorem u41_l2:LpEq f41_l2 f41_b2:=K_loop
def f41_b3:ACode:=(.wrap true [0,3,9,10] [4] [(8,[0,3,9])]
 (.seq (.seq (xR [xM 88 10,xM 89 9,xA 90 (.bin .lss (.t 88) (.t 89))] [0,3,9,10,90])
 (.cond (.t 90)
 .skip
 (.exit 8)))
 (.seq (.block 9 (.seq (xG [xF 93 4 3,xL 94 93,xM 95 9,xI 96 4 94 95,xF 97 0 96,xL 98 97,xF 99 4 3,xL 100 99,xM 101 10,xI 102 4 100 101,xF 103 0 102,xL 104 103,xA 105 (.bin .eql (.t 98) (.t 104))] [0,3,9,10,105])
 (.cond (.t 105)
 (.seq (xR [xA 4 (.mov .own (xi 6))] [4])
 .ret)
 .skip)))
 (xR [xM 91 10,xA 92 (.bin .add (.t 91) (xi 1)),xM 10 92] [0,3,9,10]))))
def f41_l3:ACode:=.loop f41_b3
theorem u41_l3:LpEq f41_l3 f41_b3:=K_loop
def f41_b4:ACode:=(.wrap true [0,3,9] [4] [(6,[0,3])]
 (.seq (.seq (xR [xM 81 9,xF 82 4 3,xL 83 82,xH 84 83,xA 85 (.bin .lss (.t 81) (.t 84))] [0,3,9,85])
 (.cond (.t 85)
 .skip
 (.exit 6)))
 (.seq (.block 7 (.seq (xR [xA 10 (.mov .cp (xi 0))] [0,3,9,10])
 (.block 8 f41_l3)))
 (xR [xM 86 9,xA 87 (.bin .add (.t 86) (xi 1)),xM 9 87] [0,3,9]))))
def f41_l4:ACode:=.loop f41_b4
theorem u41_l4:LpEq f41_l4 f41_b4:=K_loop
def f41_b5:ACode:=(.wrap true [0,3,11] [4] [(10,[0,3])]
 (.seq (.seq (xR [xM 106 11,xF 107 5 3,xL 108 107,xH 109 108,xA 110 (.bin .lss (.t 106) (.t 109))] [0,3,11,110])
 (.cond (.t 110)
 .skip
 (.exit 10)))
 (.seq (.block 11 (.seq (xG [xQ 113 6 3,xF 114 5 3,xL 115 114,xM 116 11,xI 117 9 115 116,xF 118 0 117,xL 119 118,xA 120 (.callb 61 [(.t 113),(.t 119)]),xM 121 11,xA 122 (.bin .neq (.t 120) (.t 121))] [0,3,11,122])
 (.cond (.t 122)
 (.seq (xR [xA 4 (.mov .own (xi 6))] [4])
 .ret)
 .skip)))
 (xR [xM 111 11,xA 112 (.bin .add (.t 111) (xi 1)),xM 11 112] [0,3,11]))))
def f41_l5:ACode:=.loop f41_b5
theorem u41_l5:LpEq f41_l5 f41_b5:=K_loop
def f41_b6:ACode:=(.wrap true [0,3,12] [4] [(12,[0,3])]
 (.seq (.seq (xR [xM 123 12,xF 124 4 3,xL 125 124,xH 126 125,xA 127 (.bin .lss (.t 123) (.t 126))] [0,3,12,127])
 (.cond (.t 127)
 .skip
 (.exit 12)))
 (.seq (.block 13 (.seq (xR [xM 130 0,xF 131 4 3,xL 132 131,xM 133 12,xI 134 4 132 133,xF 135 1 134,xQ 136 2 135,xA 137 (.callb 62 [(.t 130),(.t 136)]),xN 138 137] [0,3,12,138])
 (.cond (.t 138)
 (.seq (xR [xA 4 (.mov .own (xi 5))] [4])
 .ret)
 .skip)))
 (xR [xM 128 12,xA 129 (.bin .add (.t 128) (xi 1)),xM 12 129] [0,3,12]))))
def f41_l6:ACode:=.loop f41_b6
theorem u41_l6:LpEq f41_l6 f41_b6:=K_loop
def f41_b7:ACode:=(.wrap true [0,3,13,14,15] [4] [(16,[0,3,13])]
 (.seq (.seq (xR [xM 156 15,xF 157 3 14,xL 158 157,xH 159 158,xA 160 (.bin .lss (.t 156) (.t 159))] [0,3,13,14,15,160])
 (.cond (.t 160)
 .skip
 (.exit 16)))
 (.seq (.block 17 (.seq (xR [xM 163 0,xF 164 3 14,xL 165 164,xM 166 15,xI 167 2 165 166,xQ 168 2 167,xA 169 (.callb 62 [(.t 163),(.t 168)]),xN 170 169] [0,3,13,14,15,170])
 (.cond (.t 170)
 (.seq (xR [xA 4 (.mov .own (xi 5))] [4])
 .ret)
 .skip)))
 (xR [xM 161 15,xA 162 (.bin .add (.t 161) (xi 1)),xM 15 162] [0,3,13,14,15]))))
def f41_l7:ACode:=.loop f41_b7
theorem u41_l7:LpEq f41_l7 f41_b7:=K_loop
def f41_b8:ACode:=(.wrap true [0,3,13] [4] [(14,[])]
 (.seq (.seq (xR [xM 139 13,xF 140 5 3,xL 141 140,xH 142 141,xA 143 (.bin .lss (.t 139) (.t 142))] [0,3,13,143])
 (.cond (.t 143)
 .skip
 (.exit 14)))
 (.seq (.block 15 (.seq (xR [xF 146 5 3,xL 147 146,xM 148 13,xI 149 9 147 148,xQ 150 9 149,xA 14 (.alloc [xa,xb,xb,(.osl 2 []),xc,xa,xc,(.osl 4 []),(.osl 4 [])]),xS 9 14 150] [0,3,13,14])
 (.seq (.seq (xR [xM 151 0,xF 152 4 14,xQ 153 2 152,xA 154 (.callb 62 [(.t 151),(.t 153)]),xN 155 154] [0,3,13,14,155])
 (.cond (.t 155)
 (.seq (xR [xA 4 (.mov .own (xi 5))] [4])
 .ret)
 .skip))
 (.seq (xR [xA 15 (.mov .cp (xi 0))] [0,3,13,14,15])
 (.block 16 f41_l7)))))
 (xR [xM 144 13,xA 145 (.bin .add (.t 144) (xi 1)),xM 13 145] [0,3,13]))))
def f41_l8:ACode:=.loop f41_b8
theorem u41_l8:LpEq f41_l8 f41_b8:=K_loop
def f41:AFun:=⟨2,
 (.seq (xR [xB 3 1,xA 4 (.mov .own (xi 0))] [0,3])
 (.seq (.seq (xR [xA 5 (.mov .cp (xi 0))] [0,3,5])
 (.block 0 f41_l1))
 (.seq (.seq (xR [xA 8 (.mov .cp (xi 0))] [0,3,8])
 (.block 4 f41_l2))
 (.seq (.seq (xR [xA 9 (.mov .cp (xi 0))] [0,3,9])
 (.block 6 f41_l4))
 (.seq (.seq (xR [xA 11 (.mov .cp (xi 0))] [0,3,11])
 (.block 10 f41_l5))
 (.seq (.seq (xR [xA 12 (.mov .cp (xi 0))] [0,3,12])
 (.block 12 f41_l6))
 (.seq (.seq (xR [xA 13 (.mov .cp (xi 0))] [0,3,13])
 (.block 14 f41_l8))
 (.seq (xR [xA 4 (.mov .own (xi 0))] [4])
 .ret)))))))),[(.tmp 4)],.pure,false,false⟩
def f75_b0:ACode:=(.wrap true [0,1,5] [4] [(0,[5])]
 (.seq (.seq (xR [xM 7 1,xA 8 (.bin .neq (.t 7) (xs ⟨#[]⟩))] [0,1,5,8])
 (.cond (.t 8)
 .skip
 (.exit 0)))
 (.block 1 (.seq (xR [xM 9 0,xM 10 0,xM 11 1,xA 12 (.callb 20 [(.t 10),(.t 11)]),xI 13 6 9 12,xQ 14 6 13,xA 6 (.alloc [xa,xb,xa,(.osl 1 []),(.osl 4 []),(.osl 9 [])]),xS 6 6 14] [0,5,6])
 (.seq (xR [xO 15 5,xQ 16 6 6,xA 17 (.bsl .own 6 1 [xa,xb,xa,(.osl 1 []),(.osl 4 []),(.osl 9 [])] [(0,(.t 16))]),xA 18 (.app 6 112 (.t 15) (.t 17)),xO 5 18] [0,5,6])
 (xR [xQ 19 6 6,xA 20 (.callb 58 [(.t 19)]),xM 1 20] [0,1,5]))))))
def f75_l0:ACode:=.loop f75_b0
theorem u75_l0:LpEq f75_l0 f75_b0:=K_loop
def f75:AFun:=⟨2,
 (.seq (xR [xA 4 (.mov .own (.k (.c (.osl 6 []))))] [0,1])
 (.seq (xR [xA 5 (.mov .own (.k (.c (.osl 6 []))))] [0,1,5])
 (.seq (.block 0 f75_l0)
 (.seq (xR [xO 21 5,xO 4 21] [4])
 .ret)))),[(.tmp 4)],.pure,false,false⟩
def f56_b0:ACode:=(.wrap true [5,6,7,8] [4] [(2,[5,6,7])]
 (.seq (.seq (xR [xM 20 8,xM 21 6,xM 22 7,xI 23 6 21 22,xF 24 4 23,xL 25 24,xH 26 25,xA 27 (.bin .lss (.t 20) (.t 26))] [5,6,7,8,27])
 (.cond (.t 27)
 .skip
 (.exit 2)))
 (.seq (.block 3 (.seq (xR [xM 30 6,xM 31 7,xI 32 6 30 31,xF 33 4 32,xL 34 33,xM 35 8,xI 36 4 34 35,xQ 37 4 36,xA 9 (.alloc [xa,xc,xa,xb]),xS 4 9 37] [5,6,7,8,9])
 (.seq (xR [xF 38 3 9,xL 39 38,xN 40 39] [5,6,7,8,9,40])
 (.cond (.t 40)
 (xG [xO 41 5,xM 42 6,xM 43 7,xI 44 6 42 43,xF 45 0 44,xL 46 45,xF 47 0 9,xL 48 47,xF 49 1 9,xQ 50 2 49,xA 51 (.build [xa,xa,xc,xa] [(0,1,(.t 46)),(1,1,(.t 48)),(2,2,(.t 50))]),xA 52 (.bsl .own 4 1 [xa,xa,xc,xa] [(0,(.t 51))]),xA 53 (.app 4 56 (.t 41) (.t 52)),xO 5 53] [5,6,7,8])
 .skip))))
 (xR [xM 28 8,xA 29 (.bin .add (.t 28) (xi 1)),xM 8 29] [5,6,7,8]))))
def f56_l0:ACode:=.loop f56_b0
theorem u56_l0:LpEq f56_l0 f56_b0:=K_loop
def f56_b1:ACode:=(.wrap true [5,6,7] [4] [(0,[5])]
 (.seq (.seq (xR [xM 16 7,xA 17 (.bin .geq (.t 16) (xi 0))] [5,6,7,17])
 (.cond (.t 17)
 .skip
 (.exit 0)))
 (.seq (.block 1 (.seq (xR [xA 8 (.mov .cp (xi 0))] [5,6,7,8])
 (.block 2 f56_l0)))
 (xR [xM 18 7,xA 19 (.bin .sub (.t 18) (xi 1)),xM 7 19] [5,6,7]))))
def f56_l1:ACode:=.loop f56_b1
theorem u56_l1:LpEq f56_l1 f56_b1:=K_loop
def f56:AFun:=⟨2,
 (.seq (xR [xA 4 (.mov .own (.k (.c (.osl 4 []))))] [0,1])
 (.seq (xR [xA 5 (.mov .own (.k (.c (.osl 4 []))))] [0,1,5])
 (.seq (xR [xM 10 0,xM 11 1,xA 12 (.callb 75 [(.t 10),(.t 11)]),xM 6 12] [5,6])
 (.seq (.seq (xR [xM 13 6,xH 14 13,xA 15 (.bin .sub (.t 14) (xi 1)),xM 7 15] [5,6,7])
 (.block 0 f56_l1))
 (.seq (xR [xO 54 5,xO 4 54] [4])
 .ret))))),[(.tmp 4)],.pure,false,false⟩
def f63_b0:ACode:=(.wrap true [2,7,8,9] [6,7] [(0,[7])]
 (.seq (.seq (xR [xM 14 9,xM 15 8,xH 16 15,xA 17 (.bin .lss (.t 14) (.t 16))] [2,7,8,9,17])
 (.cond (.t 17)
 .skip
 (.exit 0)))
 (.seq (.block 1 (.seq (xR [xM 20 8,xM 21 9,xI 22 6 20 21,xQ 23 6 22,xM 24 2,xA 25 (.callb 61 [(.t 23),(.t 24)]),xM 10 25] [2,7,8,9,10])
 (.seq (xR [xM 26 10,xA 27 (.bin .geq (.t 26) (xi 0))] [2,7,8,9,10,27])
 (.cond (.t 27)
 (.seq (xG [xM 28 8,xM 29 9,xI 30 6 28 29,xF 31 0 30,xL 32 31,xM 33 8,xM 34 9,xI 35 6 33 34,xF 36 5 35,xL 37 36,xM 38 10,xI 39 9 37 38,xQ 40 9 39,xA 41 (.callb 80 [(.t 40)]),xM 6 32,xS 9 7 41] [6,7])
 .ret)
 .skip))))
 (xR [xM 18 9,xA 19 (.bin .add (.t 18) (xi 1)),xM 9 19] [2,7,8,9]))))
def f63_l0:ACode:=.loop f63_b0
theorem u63_l0:LpEq f63_l0 f63_b0:=K_loop
def f63:AFun:=⟨3,
 (.seq (xR [xA 6 (.mov .own (xs ⟨#[]⟩)),xA 7 (.alloc [xa,xb,xb,(.osl 2 []),xc,xa,xc,(.osl 4 []),(.osl 4 [])])] [0,1,2,7])
 (.seq (xR [xM 11 0,xM 12 1,xA 13 (.callb 75 [(.t 11),(.t 12)]),xM 8 13] [2,7,8])
 (.seq (.seq (xR [xA 9 (.mov .cp (xi 0))] [2,7,8,9])
 (.block 0 f63_l0))
 (.seq (xR [xA 42 (.build [xa,xb,xb,(.osl 2 []),xc,xa,xc,(.osl 4 []),(.osl 4 [])] []),xA 6 (.mov .own (xs ⟨#[]⟩)),xS 9 7 42] [6,7])
 .ret)))),[(.tmp 6),(.cell 7 (some 9))],.pure,false,false⟩
def f15_b0:ACode:=(.wrap true [0,1,5] [4] [(0,[])]
 (.seq (.seq (xR [xM 11 5,xM 12 0,xH 13 12,xA 14 (.bin .lss (.t 11) (.t 13))] [0,1,5,14])
 (.cond (.t 14)
 .skip
 (.exit 0)))
 (.seq (.block 1 (.seq (xG [xM 17 0,xM 18 5,xI 19 2 17 18,xQ 20 2 19,xM 21 1,xM 22 5,xI 23 2 21 22,xQ 24 2 23,xA 25 (.eq true 2 [1,2] (.t 20) (.t 24))] [0,1,5,25])
 (.cond (.t 25)
 (.seq (xR [xA 4 (.mov .own xU)] [4])
 .ret)
 .skip)))
 (xR [xM 15 5,xA 16 (.bin .add (.t 15) (xi 1)),xM 5 16] [0,1,5]))))
def f15_l0:ACode:=.loop f15_b0
theorem u15_l0:LpEq f15_l0 f15_b0:=K_loop
def f15:AFun:=⟨2,
 (.seq (xR [xA 4 (.mov .own xU)] [0,1])
 (.seq (.seq (xR [xM 6 0,xH 7 6,xM 8 1,xH 9 8,xA 10 (.bin .neq (.t 7) (.t 9))] [0,1,10])
 (.cond (.t 10)
 (.seq (xR [xA 4 (.mov .own xU)] [4])
 .ret)
 .skip))
 (.seq (.seq (xR [xA 5 (.mov .cp (xi 0))] [0,1,5])
 (.block 0 f15_l0))
 (.seq (xR [xA 4 (.mov .own xT)] [4])
 .ret)))),[(.tmp 4)],.pure,false,false⟩
def f64:AFun:=⟨2,
 (.seq (xR [xB 2 0,xB 3 1,xA 4 (.mov .own xU)] [2,3])
 (.seq (xR [xF 5 3 2,xL 6 5,xF 7 3 3,xL 8 7,xA 9 (.callb 15 [(.t 6),(.t 8)]),xM 10 9,xFT 11 4 2 10,xAT 12 (.ld .cp (some 2) (.t 11)) 10,xFT 13 4 3 10,xAT 14 (.ld .cp (some 2) (.t 13)) 10,xAT 15 (.eq false 2 [1,2] (.t 12) (.t 14)) 10,xA 16 (.pick (.t 10) (.t 15) xU),xO 4 16] [4])
 .ret)),[(.tmp 4)],.pure,false,false⟩
def f42_b0:ACode:=(.wrap true [0,3,5,6,7,8] [4] [(2,[0,3,5,6,7])]
 (.seq (.seq (xR [xM 24 8,xM 25 6,xH 26 25,xA 27 (.bin .lss (.t 24) (.t 26))] [0,3,5,6,7,8,27])
 (.cond (.t 27)
 .skip
 (.exit 2)))
 (.seq (.block 3 (.seq (xG [xF 30 4 3,xL 31 30,xM 32 7,xI 33 4 31 32,xF 34 3 33,xL 35 34,xN 36 35,xM 37 36,xMT 38 6 37,xMT 39 8 37,xIT 40 4 38 39 37,xFT 41 1 40 37,xLT 42 41 37,xFT 43 4 3 37,xLT 44 43 37,xMT 45 7 37,xIT 46 4 44 45 37,xFT 47 0 46 37,xLT 48 47 37,xAT 49 (.bin .eql (.t 42) (.t 48)) 37,xA 50 (.pick (.t 37) (.t 49) xU)] [0,3,5,6,7,8,50])
 (.cond (.t 50)
 (.seq (xR [xA 4 (.mov .own (xi 6))] [4])
 .ret)
 .skip)))
 (xR [xM 28 8,xA 29 (.bin .add (.t 28) (xi 1)),xM 8 29] [0,3,5,6,7,8]))))
def f42_l0:ACode:=.loop f42_b0
theorem u42_l0:LpEq f42_l0 f42_b0:=K_loop
def f42_b1:ACode:=(.wrap true [0,3,5,6,7] [4] [(0,[0,3,5])]
 (.seq (.seq (xR [xM 17 7,xF 18 4 3,xL 19 18,xH 20 19,xA 21 (.bin .lss (.t 17) (.t 20))] [0,3,5,6,7,21])
 (.cond (.t 21)
 .skip
 (.exit 0)))
 (.seq (.block 1 (.seq (xR [xA 8 (.mov .cp (xi 0))] [0,3,5,6,7,8])
 (.block 2 f42_l0)))
 (xR [xM 22 7,xA 23 (.bin .add (.t 22) (xi 1)),xM 7 23] [0,3,5,6,7]))))
def f42_l1:ACode:=.loop f42_b1
theorem u42_l1:LpEq f42_l1 f42_b1:=K_loop
def f42_b2:ACode:=(.wrap true [0,3,5,9] [4] [(4,[])]
 (.seq (.seq (xR [xM 51 9,xF 52 5 3,xL 53 52,xH 54 53,xA 55 (.bin .lss (.t 51) (.t 54))] [0,3,5,9,55])
 (.cond (.t 55)
 .skip
 (.exit 4)))
 (.seq (.block 5 (.seq (xR [xM 59 0,xM 60 5,xF 61 5 3,xL 62 61,xM 63 9,xI 64 9 62 63,xF 65 0 64,xL 66 65,xA 67 (.callb 63 [(.t 59),(.t 60),(.t 66)]),xO 58 67,xE 68 0 58,xE 69 1 58,xA 11 (.alloc [xa,xb,xb,(.osl 2 []),xc,xa,xc,(.osl 4 []),(.osl 4 [])]),xM 10 68,xS 9 11 69] [0,3,5,9,10,11])
 (.seq (xG [xM 70 10,xA 71 (.bin .neq (.t 70) (xs ⟨#[]⟩)),xM 72 71,xFT 73 1 11 72,xLT 74 73 72,xFT 75 5 3 72,xLT 76 75 72,xMT 77 9 72,xIT 78 9 76 77 72,xFT 79 1 78 72,xLT 80 79 72,xAT 81 (.eq true 0 [] (.t 74) (.t 80)) 72,xMT 82 81 72,xAF 83 (.ld .cp (some 9) (.t 11)) 82,xFF 84 5 3 82,xLF 85 84 82,xMF 86 9 82,xIF 87 9 85 86 82,xAF 88 (.ld .cp (some 9) (.t 87)) 82,xAF 89 (.callb 64 [(.t 83),(.t 88)]) 82,xNF 90 89 82,xAT 91 (.pick (.t 82) xT (.t 90)) 72,xA 92 (.pick (.t 72) (.t 91) xU)] [0,3,5,9,92])
 (.cond (.t 92)
 (.seq (xR [xA 4 (.mov .own (xi 8))] [4])
 .ret)
 .skip))))
 (xR [xM 56 9,xA 57 (.bin .add (.t 56) (xi 1)),xM 9 57] [0,3,5,9]))))
def f42_l2:ACode:=.loop f42_b2
theorem u42_l2:LpEq f42_l2 f42_b2:=K_loop
def f42:AFun:=⟨2,
 (.seq (xR [xB 3 1,xA 4 (.mov .own (xi 0))] [0,3])
 (.seq (xR [xQ 12 6 3,xA 13 (.callb 58 [(.t 12)]),xM 5 13] [0,3,5])
 (.seq (xR [xM 14 0,xM 15 5,xA 16 (.callb 56 [(.t 14),(.t 15)]),xM 6 16] [0,3,5,6])
 (.seq (.seq (xR [xA 7 (.mov .cp (xi 0))] [0,3,5,6,7])
 (.block 0 f42_l1))
 (.seq (.seq (xR [xA 9 (.mov .cp (xi 0))] [0,3,5,9])
 (.block 4 f42_l2))
 (.seq (xR [xA 4 (.mov .own (xi 0))] [4])
 .ret)))))),[(.tmp 4)],.pure,false,false⟩
def f43_b0:ACode:=(.wrap true [0,3,5,6,7] [4] [(2,[0,3,5,6])]
 (.seq (.seq (xR [xM 36 7,xM 37 0,xM 38 6,xI 39 6 37 38,xF 40 5 39,xL 41 40,xH 42 41,xA 43 (.bin .lss (.t 36) (.t 42))] [0,3,5,6,7,43])
 (.cond (.t 43)
 .skip
 (.exit 2)))
 (.seq (.block 3 (.seq (xG [xM 47 0,xF 48 0 3,xL 49 48,xM 50 0,xM 51 6,xI 52 6 50 51,xF 53 5 52,xL 54 53,xM 55 7,xI 56 9 54 55,xF 57 0 56,xL 58 57,xA 59 (.callb 63 [(.t 47),(.t 49),(.t 58)]),xO 46 59,xA 60 (.exd 0 (.t 46)),xA 61 (.exd 1 (.t 46)),xA 9 (.alloc [xa,xb,xb,(.osl 2 []),xc,xa,xc,(.osl 4 []),(.osl 4 [])]),xM 8 60,xS 9 9 61] [0,3,5,6,7,8,9])
 (.seq (.seq (xR [xM 62 8,xA 63 (.bin .eql (.t 62) (xs ⟨#[]⟩))] [0,3,5,6,7,9,63])
 (.cond (.t 63)
 (.seq (xR [xA 4 (.mov .own (xi 5))] [4])
 .ret)
 .skip))
 (.seq (xG [xF 64 1 9,xL 65 64,xM 66 65,xAF 67 (.ld .cp (some 9) (.t 9)) 66,xMF 68 0 66,xMF 69 6 66,xIF 70 6 68 69 66,xFF 71 5 70 66,xLF 72 71 66,xMF 73 7 66,xIF 74 9 72 73 66,xAF 75 (.ld .cp (some 9) (.t 74)) 66,xAF 76 (.callb 64 [(.t 67),(.t 75)]) 66,xNF 77 76 66,xA 78 (.pick (.t 66) xT (.t 77))] [0,3,5,6,7,78])
 (.cond (.t 78)
 (.seq (xR [xA 4 (.mov .own (xi 8))] [4])
 .ret)
 .skip)))))
 (xR [xM 44 7,xA 45 (.bin .add (.t 44) (xi 1)),xM 7 45] [0,3,5,6,7]))))
def f43_l0:ACode:=.loop f43_b0
theorem u43_l0:LpEq f43_l0 f43_b0:=K_loop
def f43_b1:ACode:=(.wrap true [0,3,5,6] [4] [(0,[])]
 (.seq (.seq (xR [xM 14 6,xM 15 0,xH 16 15,xA 17 (.bin .lss (.t 14) (.t 16))] [0,3,5,6,17])
 (.cond (.t 17)
 .skip
 (.exit 0)))
 (.seq (.block 1 (.seq (.seq (xR [xM 20 0,xM 21 6,xI 22 6 20 21,xF 23 1 22,xL 24 23,xN 25 24,xM 26 25,xMF 27 5 26,xMF 28 0 26,xMF 29 6 26,xIF 30 6 28 29 26,xFF 31 0 30 26,xLF 32 31 26,xAF 33 (.callb 44 [(.t 27),(.t 32)]) 26,xNF 34 33 26,xA 35 (.pick (.t 26) xT (.t 34))] [0,3,5,6,35])
 (.cond (.t 35)
 (.exit 1)
 .skip))
 (.seq (xR [xA 7 (.mov .cp (xi 0))] [0,3,5,6,7])
 (.block 2 f43_l0))))
 (xR [xM 18 6,xA 19 (.bin .add (.t 18) (xi 1)),xM 6 19] [0,3,5,6]))))
def f43_l1:ACode:=.loop f43_b1
theorem u43_l1:LpEq f43_l1 f43_b1:=K_loop
def f43:AFun:=⟨2,
 (.seq (xR [xB 3 1,xA 4 (.mov .own (xi 0))] [0,3])
 (.seq (xR [xM 10 0,xF 11 0 3,xL 12 11,xA 13 (.callb 45 [(.t 10),(.t 12)]),xM 5 13] [0,3,5])
 (.seq (.seq (xR [xA 6 (.mov .cp (xi 0))] [0,3,5,6])
 (.block 0 f43_l1))
 (.seq (xR [xA 4 (.mov .own (xi 0))] [4])
 .ret)))),[(.tmp 4)],.pure,false,false⟩
def f17_b0:ACode:=(.wrap true [4,5] [2] [(0,[4])]
 (.seq (.seq (xR [xM 20 5,xM 21 4,xH 22 21,xA 23 (.bin .lss (.t 20) (.t 22))] [4,5,23])
 (.cond (.t 23)
 .skip
 (.exit 0)))
 (.seq (.block 1 (.seq (xR [xM 26 4,xM 27 4,xM 28 5,xI 29 6 27 28,xQ 30 6 29,xA 31 (.callb 41 [(.t 26),(.t 30)]),xO 6 31] [4,5,6])
 (.seq (xR [xM 32 6,xA 33 (.bin .neq (.t 32) (xi 0))] [4,5,6,33])
 (.cond (.t 33)
 (.seq (xR [xO 34 6,xO 2 34] [2])
 .ret)
 .skip))))
 (xR [xM 24 5,xA 25 (.bin .add (.t 24) (xi 1)),xM 5 25] [4,5]))))
def f17_l0:ACode:=.loop f17_b0
theorem u17_l0:LpEq f17_l0 f17_b0:=K_loop
def f17_b1:ACode:=(.wrap true [4,7] [2] [(2,[4])]
 (.seq (.seq (xR [xM 37 7,xM 38 4,xH 39 38,xA 40 (.bin .lss (.t 37) (.t 39))] [4,7,40])
 (.cond (.t 40)
 .skip
 (.exit 2)))
 (.seq (.block 3 (.seq (xR [xM 43 4,xM 44 7,xI 45 6 43 44,xF 46 1 45,xL 47 46,xN 48 47] [4,7,48])
 (.cond (.t 48)
 (.seq (xR [xM 49 4,xM 50 4,xM 51 7,xI 52 6 50 51,xQ 53 6 52,xA 54 (.callb 42 [(.t 49),(.t 53)]),xO 8 54] [4,7,8])
 (.seq (xR [xM 55 8,xA 56 (.bin .neq (.t 55) (xi 0))] [4,7,8,56])
 (.cond (.t 56)
 (.seq (xR [xO 57 8,xO 2 57] [2])
 .ret)
 .skip)))
 .skip)))
 (xR [xM 41 7,xA 42 (.bin .add (.t 41) (xi 1)),xM 7 42] [4,7]))))
def f17_l1:ACode:=.loop f17_b1
theorem u17_l1:LpEq f17_l1 f17_b1:=K_loop
def f17_b2:ACode:=(.wrap true [4,9] [2] [(4,[])]
 (.seq (.seq (xR [xM 60 9,xM 61 4,xH 62 61,xA 63 (.bin .lss (.t 60) (.t 62))] [4,9,63])
 (.cond (.t 63)
 .skip
 (.exit 4)))
 (.seq (.block 5 (.seq (xR [xM 66 4,xM 67 9,xI 68 6 66 67,xF 69 1 68,xL 70 69,xN 71 70] [4,9,71])
 (.cond (.t 71)
 (.seq (xR [xM 72 4,xM 73 4,xM 74 9,xI 75 6 73 74,xQ 76 6 75,xA 77 (.callb 43 [(.t 72),(.t 76)]),xO 10 77] [4,9,10])
 (.seq (xR [xM 78 10,xA 79 (.bin .neq (.t 78) (xi 0))] [4,9,10,79])
 (.cond (.t 79)
 (.seq (xR [xO 80 10,xO 2 80] [2])
 .ret)
 .skip)))
 .skip)))
 (xR [xM 64 9,xA 65 (.bin .add (.t 64) (xi 1)),xM 9 65] [4,9]))))
def f17_l2:ACode:=.loop f17_b2
theorem u17_l2:LpEq f17_l2 f17_b2:=K_loop
def f17:AFun:=⟨1,
 (.seq (xR [xB 1 0,xA 2 (.mov .own (xi 0))] [1])
 (.seq (.seq (xR [xQ 11 1 1,xA 12 (.callb 38 [(.t 11)]),xO 3 12] [1,3])
 (.seq (xR [xM 13 3,xA 14 (.bin .neq (.t 13) (xi 0))] [1,3,14])
 (.cond (.t 14)
 (.seq (xR [xO 15 3,xO 2 15] [2])
 .ret)
 .skip)))
 (.seq (xR [xQ 16 1 1,xA 17 (.callb 39 [(.t 16)]),xM 4 17] [4])
 (.seq (.seq (xR [xA 18 (.callb 40 []),xH 19 18,xM 5 19] [4,5])
 (.block 0 f17_l0))
 (.seq (.seq (xR [xA 35 (.callb 40 []),xH 36 35,xM 7 36] [4,7])
 (.block 2 f17_l1))
 (.seq (.seq (xR [xA 58 (.callb 40 []),xH 59 58,xM 9 59] [4,9])
 (.block 4 f17_l2))
 (.seq (xR [xA 2 (.mov .own (xi 0))] [2])
 .ret))))))),[(.tmp 2)],.pure,false,false⟩
def f19:AFun:=⟨2,
 (.seq (xR [xB 2 0,xB 3 1,xA 4 (.mov .own xU)] [2,3])
 (.seq (.seq (xR [xF 5 0 3,xL 6 5] [2,3,6])
 (.block 0 (.seq (.seq (xR [xA 8 (.bin .eql (.t 6) (xi 2)),xM 7 8] [2,3,6,7])
 (.cond (.t 7)
 .skip
 (.seq (xR [xA 9 (.bin .eql (.t 6) (xi 4)),xM 7 9] [2,3,6,7])
 (.cond (.t 7)
 .skip
 (.seq (xR [xA 10 (.bin .eql (.t 6) (xi 6)),xM 7 10] [2,3,6,7])
 (.cond (.t 7)
 .skip
 (xR [xA 11 (.bin .eql (.t 6) (xi 7)),xM 7 11] [2,3,6,7])))))))
 (.cond (.t 7)
 (.seq (xR [xF 12 1 3,xL 13 12,xA 14 (.bin .eql (.t 13) (xs ⟨#[]⟩)),xO 4 14] [4])
 .ret)
 (.seq (.seq (xR [xA 16 (.bin .eql (.t 6) (xi 3)),xM 15 16] [2,3,6,15])
 (.cond (.t 15)
 .skip
 (xR [xA 17 (.bin .eql (.t 6) (xi 5)),xM 15 17] [2,3,15])))
 (.cond (.t 15)
 (.seq (xG [xQ 18 1 2,xA 19 (.callb 39 [(.t 18)]),xF 20 1 3,xL 21 20,xA 22 (.callb 20 [(.t 19),(.t 21)]),xA 23 (.bin .geq (.t 22) (xi 0)),xM 4 23] [4])
 .ret)
 .skip))))))
 (.seq (xR [xA 4 (.mov .own xU)] [4])
 .ret))),[(.tmp 4)],.pure,false,false⟩
def f21:AFun:=⟨2,
 (.seq (xR [xB 2 0,xA 4 (.mov .own xU)] [1,2])
 (.seq (xR [xQ 7 1 2,xA 8 (.callb 39 [(.t 7)]),xM 5 8] [1,5])
 (.seq (xR [xM 9 5,xM 10 1,xA 11 (.callb 20 [(.t 9),(.t 10)]),xM 6 11] [5,6])
 (.seq (xR [xM 12 6,xA 13 (.bin .geq (.t 12) (xi 0)),xM 14 13,xMT 15 5 14,xMT 16 6 14,xIT 17 6 15 16 14,xFT 18 1 17 14,xLT 19 18 14,xNT 20 19 14,xA 21 (.pick (.t 14) (.t 20) xU),xO 4 21] [4])
 .ret)))),[(.tmp 4)],.pure,false,false⟩
def f22:AFun:=⟨3,
 (.seq (xR [xB 3 0,xA 6 (.mov .own xU)] [1,2,3])
 (.seq (xR [xQ 7 1 3,xA 8 (.call 46 [(.t 7)]),xM 9 1,xM 10 2,xA 11 (.call 47 [(.t 8),(.t 9),(.t 10)]),xO 6 11] [6])
 .ret)),[(.tmp 6)],.pure,false,false⟩
def f5_b0:ACode:=(.wrap true [2,4,5,7,8,11,17,18,20,21,22,23] [16] [(0,[2,4,5,8,17,21,22])]
 (.seq (.seq (xR [xM 115 23,xM 116 18,xH 117 116,xA 118 (.bin .lss (.t 115) (.t 117))] [2,4,5,7,8,11,17,18,20,21,22,23,118])
 (.cond (.t 118)
 .skip
 (.exit 0)))
 (.seq (.block 1 (.seq (xR [xM 121 18,xM 122 23,xI 123 4 121 122,xQ 124 4 123,xA 24 (.alloc [xc,xc,xc,xa]),xS 4 24 124] [2,4,5,7,8,11,17,18,20,21,22,23,24])
 (.block 2 (.seq (xR [xM 143 4,xM 142 143] [2,4,5,7,8,11,17,18,20,21,22,23,24,142])
 (.cond (.t 142)
 (.seq (xR [xF 144 0 24,xL 145 144,xA 146 (.bin .eql (.t 145) (xi 1))] [2,4,5,7,8,11,17,18,20,21,22,23,146])
 (.cond (.t 146)
 (xR [xM 147 22,xA 148 (.bin .add (.t 147) (xi 1)),xM 22 148] [2,4,5,7,8,11,17,18,20,21,22,23])
 .skip))
 (.seq (xR [xM 150 2,xH 151 150,xA 152 (.bin .gtr (.t 151) (xi 0)),xM 153 152,xMT 154 5 153,xAT 155 (.bin .geq (.t 154) (xi 0)) 153,xA 156 (.pick (.t 153) (.t 155) xU),xM 157 156,xMT 158 5 157,xMT 159 2 157,xAT 160 (.len 0 (.t 159)) 157,xAT 161 (.bin .lss (.t 158) (.t 160)) 157,xA 162 (.pick (.t 157) (.t 161) xU),xM 149 162] [2,4,5,7,8,11,17,18,20,21,22,23,24,149])
 (.cond (.t 149)
 (.seq (xR [xF 163 0 24,xL 164 163,xA 165 (.bin .eql (.t 164) (xi 2)),xM 166 165,xFT 167 1 24 166,xLT 168 167 166,xMT 169 5 166,xAT 170 (.bin .eql (.t 168) (.t 169)) 166,xA 171 (.pick (.t 166) (.t 170) xU)] [2,4,5,7,8,11,17,18,20,21,22,23,171])
 (.cond (.t 171)
 (xR [xM 172 22,xA 173 (.bin .add (.t 172) (xi 1)),xM 22 173] [2,4,5,7,8,11,17,18,20,21,22,23])
 .skip))
 (.seq (xR [xF 175 0 11,xL 176 175,xA 177 (.bin .eql (.t 176) (xi 3)),xM 174 177] [2,4,5,7,8,11,17,18,20,21,22,23,24,174])
 (.cond (.t 174)
 (.seq (xR [xF 178 0 24,xL 179 178,xA 180 (.bin .eql (.t 179) (xi 3)),xM 181 180,xFT 182 2 24 181,xAT 183 (.ld .cp (some 2) (.t 182)) 181,xAT 184 (.ld .cp (some 2) (.t 20)) 181,xAT 185 (.eq false 2 [1,2] (.t 183) (.t 184)) 181,xA 186 (.pick (.t 181) (.t 185) xU)] [2,4,5,7,8,11,17,18,20,21,22,23,186])
 (.cond (.t 186)
 (xR [xM 187 22,xA 188 (.bin .add (.t 187) (xi 1)),xM 22 188] [2,4,5,7,8,11,17,18,20,21,22,23])
 .skip))
 (.seq (xR [xF 125 0 24,xL 126 125,xA 127 (.bin .eql (.t 126) (xi 4)),xM 128 127,xFT 129 1 24 128,xLT 130 129 128,xMT 131 7 128,xAT 132 (.bin .eql (.t 130) (.t 131)) 128,xA 133 (.pick (.t 128) (.t 132) xU),xM 134 133,xFT 135 2 24 134,xAT 136 (.ld .cp (some 2) (.t 135)) 134,xAT 137 (.ld .cp (some 2) (.t 17)) 134,xAT 138 (.eq false 2 [1,2] (.t 136) (.t 137)) 134,xA 139 (.pick (.t 134) (.t 138) xU)] [2,4,5,7,8,11,17,18,20,21,22,23,139])
 (.cond (.t 139)
 (xR [xM 140 22,xA 141 (.bin .add (.t 140) (xi 1)),xM 22 141] [2,4,5,7,8,11,17,18,20,21,22,23])
 .skip)))))))))))
 (xR [xM 119 23,xA 120 (.bin .add (.t 119) (xi 1)),xM 23 120] [2,4,5,7,8,11,17,18,20,21,22,23]))))
def f5_l0:ACode:=.loop f5_b0
theorem u5_l0:LpEq f5_l0 f5_b0:=K_loop
def f5:AFun:=⟨8,
 (.seq (xR [xB 8 0,xB 11 3,xA 16 (.mov .own xU)] [1,2,4,5,6,7,8,11])
 (.seq (.seq (xR [xQ 28 1 8,xA 29 (.callb 9 [(.t 28)]),xM 30 29,xMF 31 1 30,xAF 32 (.len 1 (.t 31)) 30,xAF 33 (.bin .gtr (.t 32) (xi 60)) 30,xA 34 (.pick (.t 30) xT (.t 33)),xM 35 34,xAF 36 (.ld .cp (some 1) (.t 8)) 35,xAF 37 (.callb 17 [(.t 36)]) 35,xAF 38 (.bin .neq (.t 37) (xi 0)) 35,xA 39 (.pick (.t 35) xT (.t 38)),xM 40 39,xMF 41 2 40,xAF 42 (.len 0 (.t 41)) 40,xAF 43 (.bin .geq (.t 42) (xi 3)) 40,xA 44 (.pick (.t 40) xT (.t 43))] [1,2,4,5,6,7,8,11,44])
 (.cond (.t 44)
 (.seq (xR [xA 16 (.mov .own xT)] [16])
 .ret)
 .skip))
 (.seq (xR [xM 45 1,xA 46 (.build [xc,xa] [(0,1,(xi 3)),(1,1,(.t 45))]),xA 17 (.alloc [xc,xa]),xS 2 17 46] [1,2,4,5,6,7,8,11,17])
 (.seq (.seq (xR [xQ 47 1 8,xQ 48 2 17,xA 49 (.callb 19 [(.t 47),(.t 48)]),xN 50 49] [1,2,4,5,6,7,8,11,17,50])
 (.cond (.t 50)
 (.seq (xR [xA 16 (.mov .own xT)] [16])
 .ret)
 .skip))
 (.seq (xR [xM 51 6,xA 52 (.conv .u64 (.t 51)),xA 53 (.bin .rem (.t 52) (.k (.c (.b (.d (.int .u64 4)))))),xA 54 (.conv .i64 (.t 53)),xM 55 7,xA 56 (.conv .u64 (.t 55)),xA 57 (.bin .rem (.t 56) (.k (.c (.b (.d (.int .u64 4)))))),xA 58 (.conv .i64 (.t 57)),xM 6 54,xM 7 58] [1,2,4,5,6,7,8,11,17])
 (.seq (.seq (xR [xF 59 0 11,xL 60 59,xA 61 (.bin .neq (.t 60) (xi 3))] [1,2,4,5,6,7,8,11,17,61])
 (.cond (.t 61)
 (xR [xQ 62 2 11,xS 2 17 62] [1,2,4,5,6,7,8,11,17])
 .skip))
 (.seq (xR [xQ 64 1 8,xQ 65 2 17,xM 66 2,xM 67 6,xA 68 (.callb 10 [(.t 64),(.t 65),(.t 66),(xi 3),(.t 67)]),xO 63 68,xE 69 0 63,xE 70 1 63,xM 18 69,xM 19 70] [1,2,4,5,6,7,8,11,17,18,19])
 (.seq (.seq (xR [xM 71 19,xA 72 (.bin .neq (.t 71) (xi 0))] [1,2,4,5,6,7,8,11,17,18,19,72])
 (.cond (.t 72)
 (.seq (xR [xM 73 19,xA 74 (.bin .eql (.t 73) (xi 8)),xM 75 74,xAT 76 (.callb 16 []) 75,xA 77 (.pick (.t 75) (.t 76) xU),xO 16 77] [16])
 .ret)
 .skip))
 (.seq (xR [xF 78 1 11,xL 79 78,xA 80 (.build [xc,xa] [(0,1,(xi 3)),(1,1,(.t 79))]),xA 20 (.alloc [xc,xa]),xS 2 20 80] [1,2,4,5,6,7,8,11,17,18,20])
 (.seq (xR [xF 81 0 11,xL 82 81,xA 83 (.bin .eql (.t 82) (xi 3)),xM 84 83,xFT 85 0 8 84,xLT 86 85 84,xFT 87 1 11 84,xLT 88 87 84,xAT 89 (.callb 20 [(.t 86),(.t 88)]) 84,xAT 90 (.bin .geq (.t 89) (xi 0)) 84,xA 91 (.pick (.t 84) (.t 90) xU),xM 92 91,xAT 93 (.ld .cp (some 1) (.t 8)) 92,xFT 94 1 11 92,xLT 95 94 92,xAT 96 (.callb 21 [(.t 93),(.t 95)]) 92,xA 97 (.pick (.t 92) (.t 96) xU),xM 98 97,xAT 99 (.ld .cp (some 1) (.t 8)) 98,xFT 100 1 11 98,xLT 101 100 98,xMT 102 1 98,xAT 103 (.callb 22 [(.t 99),(.t 101),(.t 102)]) 98,xA 104 (.pick (.t 98) (.t 103) xU),xM 105 104,xFF 106 0 11 105,xLF 107 106 105,xAF 108 (.bin .neq (.t 107) (xi 3)) 105,xMF 109 108 105,xMT 110 7 109,xMT 111 6 109,xAT 112 (.bin .leq (.t 110) (.t 111)) 109,xAF 113 (.pick (.t 109) (.t 112) xU) 105,xA 114 (.pick (.t 105) xT (.t 113)),xM 21 114] [2,4,5,7,8,11,17,18,20,21])
 (.seq (xR [xA 22 (.mov .cp (xi 0))] [2,4,5,7,8,11,17,18,20,21,22])
 (.seq (.seq (xR [xA 23 (.mov .cp (xi 0))] [2,4,5,7,8,11,17,18,20,21,22,23])
 (.block 0 f5_l0))
 (.seq (xR [xA 25 (.mov .cp (xi 1))] [2,4,5,8,17,21,22,25])
 (.seq (.seq (xR [xM 189 4,xN 190 189,xM 191 190,xMT 192 2 191,xAT 193 (.len 0 (.t 192)) 191,xAT 194 (.bin .gtr (.t 193) (xi 0)) 191,xA 195 (.pick (.t 191) (.t 194) xU),xM 196 195,xMT 197 5 196,xAT 198 (.bin .geq (.t 197) (xi 0)) 196,xA 199 (.pick (.t 196) (.t 198) xU),xM 200 199,xMT 201 5 200,xMT 202 2 200,xAT 203 (.len 0 (.t 202)) 200,xAT 204 (.bin .lss (.t 201) (.t 203)) 200,xA 205 (.pick (.t 200) (.t 204) xU)] [2,4,5,8,17,21,22,25,205])
 (.cond (.t 205)
 (.seq (xR [xM 206 2,xM 207 5,xI 208 2 206 207,xQ 209 2 208,xA 26 (.alloc [xc,xa]),xS 2 26 209] [8,17,22,25,26])
 (.seq (xR [xF 210 0 17,xL 211 210,xA 212 (.bin .eql (.t 211) (xi 3)),xM 213 212,xFT 214 0 26 213,xLT 215 214 213,xAT 216 (.bin .eql (.t 215) (xi 3)) 213,xA 217 (.pick (.t 213) (.t 216) xU),xM 218 217,xAT 219 (.ld .cp (some 1) (.t 8)) 218,xFT 220 1 26 218,xLT 221 220 218,xFT 222 1 17 218,xLT 223 222 218,xAT 224 (.callb 22 [(.t 219),(.t 221),(.t 223)]) 218,xA 225 (.pick (.t 218) (.t 224) xU),xM 226 225,xFF 227 0 17 226,xLF 228 227 226,xAF 229 (.bin .neq (.t 228) (xi 3)) 226,xMF 230 229 226,xAT 231 (.ld .cp (some 2) (.t 26)) 230,xAT 232 (.ld .cp (some 2) (.t 17)) 230,xAT 233 (.eq false 2 [1,2] (.t 231) (.t 232)) 230,xAF 234 (.pick (.t 230) (.t 233) xU) 226,xA 235 (.pick (.t 226) xT (.t 234)),xM 27 235] [22,25,27])
 (.seq (xR [xM 236 27,xN 237 236] [22,25,237])
 (.cond (.t 237)
 (xR [xA 25 (.mov .cp (xi 0))] [22,25])
 .skip))))
 (.seq (xR [xM 238 4,xN 239 238,xM 240 239,xMT 241 21 240,xNT 242 241 240,xA 243 (.pick (.t 240) (.t 242) xU)] [22,25,243])
 (.cond (.t 243)
 (xR [xA 25 (.mov .cp (xi 0))] [22,25])
 .skip))))
 (.seq (xR [xM 244 22,xM 245 25,xA 246 (.bin .eql (.t 244) (.t 245)),xM 247 246,xAT 248 (.callb 16 []) 247,xA 249 (.pick (.t 247) (.t 248) xU),xO 16 249] [16])
 .ret))))))))))))))),[(.tmp 16)],.pure,false,false⟩
theorem c9:chkFun Tryz.prog 9 f9=true:=by kernel_rfl
theorem c25:chkFun Tryz.prog 25 f25=true:=by kernel_rfl
theorem c72:chkFun Tryz.prog 72 f72=true:=by kernel_rfl
theorem c84:chkFun Tryz.prog 84 f84=true:=by kernel_rfl
theorem c67:chkFun Tryz.prog 67 f67=true:=by kernel_rfl
theorem c102:chkFun Tryz.prog 102 f102=true:=by kernel_rfl
theorem c81:chkFun Tryz.prog 81 f81=true:=by kernel_rfl
theorem c155:chkFun Tryz.prog 155 f155=true:=by kernel_rfl
theorem c156:chkFun Tryz.prog 156 f156=true:=by kernel_rfl
theorem c129:chkFun Tryz.prog 129 f129=true:=by kernel_rfl
theorem c54:chkFun Tryz.prog 54 f54=true:=by kernel_rfl
theorem c33:chkFun Tryz.prog 33 f33=true:=by kernel_rfl
theorem c109:chkFun Tryz.prog 109 f109=true:=by kernel_rfl
theorem c167:chkFun Tryz.prog 167 f167=true:=by kernel_rfl
theorem c168:chkFun Tryz.prog 168 f168=true:=by kernel_rfl
theorem c143:chkFun Tryz.prog 143 f143=true:=by kernel_rfl
theorem c110:chkFun Tryz.prog 110 f110=true:=by kernel_rfl
theorem c83:chkFun Tryz.prog 83 f83=true:=by kernel_rfl
theorem c130:chkFun Tryz.prog 130 f130=true:=by kernel_rfl
theorem c103:chkFun Tryz.prog 103 f103=true:=by kernel_rfl
theorem c87:chkFun Tryz.prog 87 f87=true:=by kernel_rfl
theorem c69:chkFun Tryz.prog 69 f69=true:=by kernel_rfl
theorem c131:chkFun Tryz.prog 131 f131=true:=by kernel_rfl
theorem c104:chkFun Tryz.prog 104 f104=true:=by kernel_rfl
theorem c157:chkFun Tryz.prog 157 f157=true:=by kernel_rfl
theorem c132:chkFun Tryz.prog 132 f132=true:=by kernel_rfl
theorem c133:chkFun Tryz.prog 133 f133=true:=by kernel_rfl
theorem c105:chkFun Tryz.prog 105 f105=true:=by kernel_rfl
theorem c134:chkFun Tryz.prog 134 f134=true:=by kernel_rfl
theorem c106:chkFun Tryz.prog 106 f106=true:=by kernel_rfl
theorem c158:chkFun Tryz.prog 158 f158=true:=by kernel_rfl
theorem c135:chkFun Tryz.prog 135 f135=true:=by kernel_rfl
theorem c136:chkFun Tryz.prog 136 f136=true:=by kernel_rfl
theorem c107:chkFun Tryz.prog 107 f107=true:=by kernel_rfl
theorem c150:chkFun Tryz.prog 150 f150=true:=by kernel_rfl
theorem c119:chkFun Tryz.prog 119 f119=true:=by kernel_rfl
theorem c159:chkFun Tryz.prog 159 f159=true:=by kernel_rfl
theorem c137:chkFun Tryz.prog 137 f137=true:=by kernel_rfl
theorem c138:chkFun Tryz.prog 138 f138=true:=by kernel_rfl
theorem c179:chkFun Tryz.prog 179 f179=true:=by kernel_rfl
theorem c160:chkFun Tryz.prog 160 f160=true:=by kernel_rfl
theorem c161:chkFun Tryz.prog 161 f161=true:=by kernel_rfl
theorem c139:chkFun Tryz.prog 139 f139=true:=by kernel_rfl
theorem c180:chkFun Tryz.prog 180 f180=true:=by kernel_rfl
theorem c162:chkFun Tryz.prog 162 f162=true:=by kernel_rfl
theorem c163:chkFun Tryz.prog 163 f163=true:=by kernel_rfl
theorem c164:chkFun Tryz.prog 164 f164=true:=by kernel_rfl
theorem c140:chkFun Tryz.prog 140 f140=true:=by kernel_rfl
theorem c181:chkFun Tryz.prog 181 f181=true:=by kernel_rfl
theorem c165:chkFun Tryz.prog 165 f165=true:=by kernel_rfl
theorem c166:chkFun Tryz.prog 166 f166=true:=by kernel_rfl
theorem c141:chkFun Tryz.prog 141 f141=true:=by kernel_rfl
theorem c142:chkFun Tryz.prog 142 f142=true:=by kernel_rfl
theorem c108:chkFun Tryz.prog 108 f108=true:=by kernel_rfl
theorem c82:chkFun Tryz.prog 82 f82=true:=by kernel_rfl
theorem c65:chkFun Tryz.prog 65 f65=true:=by kernel_rfl
theorem c66:chkFun Tryz.prog 66 f66=true:=by kernel_rfl
theorem c85:chkFun Tryz.prog 85 f85=true:=by kernel_rfl
theorem c86:chkFun Tryz.prog 86 f86=true:=by kernel_rfl
theorem c68:chkFun Tryz.prog 68 f68=true:=by kernel_rfl
theorem c111:chkFun Tryz.prog 111 f111=true:=by kernel_rfl
theorem c88:chkFun Tryz.prog 88 f88=true:=by kernel_rfl
theorem c71:chkFun Tryz.prog 71 f71=true:=by kernel_rfl
theorem c70:chkFun Tryz.prog 70 f70=true:=by kernel_rfl
theorem c46:chkFun Tryz.prog 46 f46=true:=by kernel_rfl
theorem c53:chkFun Tryz.prog 53 f53=true:=by kernel_rfl
theorem c116:chkFun Tryz.prog 116 f116=true:=by kernel_rfl
theorem c148:chkFun Tryz.prog 148 f148=true:=by kernel_rfl
theorem c117:chkFun Tryz.prog 117 f117=true:=by kernel_rfl
theorem c149:chkFun Tryz.prog 149 f149=true:=by kernel_rfl
theorem c118:chkFun Tryz.prog 118 f118=true:=by kernel_rfl
theorem c91:chkFun Tryz.prog 91 f91=true:=by kernel_rfl
theorem c120:chkFun Tryz.prog 120 f120=true:=by kernel_rfl
theorem c205:chkFun Tryz.prog 205 f205=true:=by kernel_rfl
theorem c195:chkFun Tryz.prog 195 f195=true:=by kernel_rfl
theorem c189:chkFun Tryz.prog 189 f189=true:=by kernel_rfl
theorem c198:chkFun Tryz.prog 198 f198=true:=by kernel_rfl
theorem c199:chkFun Tryz.prog 199 f199=true:=by kernel_rfl
theorem c178:chkFun Tryz.prog 178 f178=true:=by kernel_rfl
theorem c201:chkFun Tryz.prog 201 f201=true:=by kernel_rfl
theorem c202:chkFun Tryz.prog 202 f202=true:=by kernel_rfl
theorem c206:chkFun Tryz.prog 206 f206=true:=by kernel_rfl
theorem c204:chkFun Tryz.prog 204 f204=true:=by kernel_rfl
theorem c203:chkFun Tryz.prog 203 f203=true:=by kernel_rfl
theorem c177:chkFun Tryz.prog 177 f177=true:=by kernel_rfl
theorem c151:chkFun Tryz.prog 151 f151=true:=by kernel_rfl
theorem c152:chkFun Tryz.prog 152 f152=true:=by kernel_rfl
theorem c121:chkFun Tryz.prog 121 f121=true:=by kernel_rfl
theorem c122:chkFun Tryz.prog 122 f122=true:=by kernel_rfl
theorem c92:chkFun Tryz.prog 92 f92=true:=by kernel_rfl
theorem c153:chkFun Tryz.prog 153 f153=true:=by kernel_rfl
theorem c123:chkFun Tryz.prog 123 f123=true:=by kernel_rfl
theorem c124:chkFun Tryz.prog 124 f124=true:=by kernel_rfl
theorem c154:chkFun Tryz.prog 154 f154=true:=by kernel_rfl
theorem c125:chkFun Tryz.prog 125 f125=true:=by kernel_rfl
theorem c93:chkFun Tryz.prog 93 f93=true:=by kernel_rfl
theorem c47:chkFun Tryz.prog 47 f47=true:=by kernel_rfl
theorem c94:chkFun Tryz.prog 94 f94=true:=by kernel_rfl
theorem c73:chkFun Tryz.prog 73 f73=true:=by kernel_rfl
theorem c51:chkFun Tryz.prog 51 f51=true:=by kernel_rfl
theorem c26:chkFun Tryz.prog 26 f26=true:=by kernel_rfl
theorem c32:chkFun Tryz.prog 32 f32=true:=by kernel_rfl
theorem c27:chkFun Tryz.prog 27 f27=true:=by kernel_rfl
theorem c34:chkFun Tryz.prog 34 f34=true:=by kernel_rfl
theorem c48:chkFun Tryz.prog 48 f48=true:=by kernel_rfl
theorem c52:chkFun Tryz.prog 52 f52=true:=by kernel_rfl
theorem c28:chkFun Tryz.prog 28 f28=true:=by kernel_rfl
theorem c10:chkFun Tryz.prog 10 f10=true:=by kernel_rfl
theorem c49:chkFun Tryz.prog 49 f49=true:=by kernel_rfl
theorem c95:chkFun Tryz.prog 95 f95=true:=by kernel_rfl
theorem c96:chkFun Tryz.prog 96 f96=true:=by kernel_rfl
theorem c74:chkFun Tryz.prog 74 f74=true:=by kernel_rfl
theorem c55:chkFun Tryz.prog 55 f55=true:=by kernel_rfl
theorem c35:chkFun Tryz.prog 35 f35=true:=by kernel_rfl
theorem c12:chkFun Tryz.prog 12 f12=true:=by kernel_rfl
theorem c37:chkFun Tryz.prog 37 f37=true:=by kernel_rfl
theorem c16:chkFun Tryz.prog 16 f16=true:=by kernel_rfl
theorem c20:chkFun Tryz.prog 20 f20=true:=by kernel_rfl
theorem c40:chkFun Tryz.prog 40 f40=true:=by kernel_rfl
theorem c101:chkFun Tryz.prog 101 f101=true:=by kernel_rfl
theorem c80:chkFun Tryz.prog 80 f80=true:=by kernel_rfl
theorem c79:chkFun Tryz.prog 79 f79=true:=by kernel_rfl
theorem c60:chkFun Tryz.prog 60 f60=true:=by kernel_rfl
theorem c39:chkFun Tryz.prog 39 f39=true:=by kernel_rfl
theorem c44:chkFun Tryz.prog 44 f44=true:=by kernel_rfl
theorem c58:chkFun Tryz.prog 58 f58=true:=by kernel_rfl
theorem c59:chkFun Tryz.prog 59 f59=true:=by kernel_rfl
theorem c45:chkFun Tryz.prog 45 f45=true:=by kernel_rfl
theorem c126:chkFun Tryz.prog 126 f126=true:=by kernel_rfl
theorem c127:chkFun Tryz.prog 127 f127=true:=by kernel_rfl
theorem c97:chkFun Tryz.prog 97 f97=true:=by kernel_rfl
theorem c98:chkFun Tryz.prog 98 f98=true:=by kernel_rfl
theorem c76:chkFun Tryz.prog 76 f76=true:=by kernel_rfl
theorem c77:chkFun Tryz.prog 77 f77=true:=by kernel_rfl
theorem c99:chkFun Tryz.prog 99 f99=true:=by kernel_rfl
theorem c128:chkFun Tryz.prog 128 f128=true:=by kernel_rfl
theorem c100:chkFun Tryz.prog 100 f100=true:=by kernel_rfl
theorem c78:chkFun Tryz.prog 78 f78=true:=by kernel_rfl
theorem c57:chkFun Tryz.prog 57 f57=true:=by kernel_rfl
theorem c38:chkFun Tryz.prog 38 f38=true:=by kernel_rfl
theorem c61:chkFun Tryz.prog 61 f61=true:=by kernel_rfl
theorem c62:chkFun Tryz.prog 62 f62=true:=by kernel_rfl
theorem c41:chkFun Tryz.prog 41 f41=true:=by kernel_rfl
theorem c75:chkFun Tryz.prog 75 f75=true:=by kernel_rfl
theorem c56:chkFun Tryz.prog 56 f56=true:=by kernel_rfl
theorem c63:chkFun Tryz.prog 63 f63=true:=by kernel_rfl
theorem c15:chkFun Tryz.prog 15 f15=true:=by kernel_rfl
theorem c64:chkFun Tryz.prog 64 f64=true:=by kernel_rfl
theorem c42:chkFun Tryz.prog 42 f42=true:=by kernel_rfl
theorem c43:chkFun Tryz.prog 43 f43=true:=by kernel_rfl
theorem c17:chkFun Tryz.prog 17 f17=true:=by kernel_rfl
theorem c19:chkFun Tryz.prog 19 f19=true:=by kernel_rfl
theorem c21:chkFun Tryz.prog 21 f21=true:=by kernel_rfl
theorem c22:chkFun Tryz.prog 22 f22=true:=by kernel_rfl
theorem c5:chkFun Tryz.prog 5 f5=true:=by kernel_rfl
def tab:List (Nat × AFun):=[(9,f9),(25,f25),(72,f72),(84,f84),(67,f67),(102,f102),(81,f81),(155,f155),(156,f156),(129,f129),(54,f54),(33,f33),(109,f109),(167,f167),(168,f168),(143,f143),(110,f110),(83,f83),(130,f130),(103,f103),(87,f87),(69,f69),(131,f131),(104,f104),(157,f157),(132,f132),(133,f133),(105,f105),(134,f134),(106,f106),(158,f158),(135,f135),(136,f136),(107,f107),(150,f150),(119,f119),(159,f159),(137,f137),(138,f138),(179,f179),(160,f160),(161,f161),(139,f139),(180,f180),(162,f162),(163,f163),(164,f164),(140,f140),(181,f181),(165,f165),(166,f166),(141,f141),(142,f142),(108,f108),(82,f82),(65,f65),(66,f66),(85,f85),(86,f86),(68,f68),(111,f111),(88,f88),(71,f71),(70,f70),(46,f46),(53,f53),(116,f116),(148,f148),(117,f117),(149,f149),(118,f118),(91,f91),(120,f120),(205,f205),(195,f195),(189,f189),(198,f198),(199,f199),(178,f178),(201,f201),(202,f202),(206,f206),(204,f204),(203,f203),(177,f177),(151,f151),(152,f152),(121,f121),(122,f122),(92,f92),(153,f153),(123,f123),(124,f124),(154,f154),(125,f125),(93,f93),(47,f47),(94,f94),(73,f73),(51,f51),(26,f26),(32,f32),(27,f27),(34,f34),(48,f48),(52,f52),(28,f28),(10,f10),(49,f49),(95,f95),(96,f96),(74,f74),(55,f55),(35,f35),(12,f12),(37,f37),(16,f16),(20,f20),(40,f40),(101,f101),(80,f80),(79,f79),(60,f60),(39,f39),(44,f44),(58,f58),(59,f59),(45,f45),(126,f126),(127,f127),(97,f97),(98,f98),(76,f76),(77,f77),(99,f99),(128,f128),(100,f100),(78,f78),(57,f57),(38,f38),(61,f61),(62,f62),(41,f41),(75,f75),(56,f56),(63,f63),(15,f15),(64,f64),(42,f42),(43,f43),(17,f17),(19,f19),(21,f21),(22,f22),(5,f5)]
def look (f:Nat):List (Nat × AFun)→Option AFun
 | []=>none
 | (g,a) :: l=>bif Nat.beq f g then some a else look f l
theorem look_mem {f:Nat} {a:AFun}:∀ {l:List (Nat × AFun)},look f l=some a→(f,a) ∈ l
 | [],h=>by simp [look] at h
 | (g,b) :: l,h=>by
  simp only [look] at h
  cases hb:Nat.beq f g with
  | true=>rw [hb] at h;have:=Nat.eq_of_beq_eq_true hb;subst this;simp only [cond_true,Option.some.injEq] at h;subst h;exact List.mem_cons_self
  | false=>rw [hb] at h;exact List.mem_cons_of_mem _ (look_mem h)
def fns (f:Nat):Option AFun:=look f tab
theorem t9:fns 9=some f9:=rfl
theorem t25:fns 25=some f25:=rfl
theorem t84:fns 84=some f84:=rfl
theorem t67:fns 67=some f67:=rfl
theorem t102:fns 102=some f102:=rfl
theorem t81:fns 81=some f81:=rfl
theorem t155:fns 155=some f155:=rfl
theorem t156:fns 156=some f156:=rfl
theorem t129:fns 129=some f129:=rfl
theorem t54:fns 54=some f54:=rfl
theorem t33:fns 33=some f33:=rfl
theorem t83:fns 83=some f83:=rfl
theorem t130:fns 130=some f130:=rfl
theorem t103:fns 103=some f103:=rfl
theorem t87:fns 87=some f87:=rfl
theorem t69:fns 69=some f69:=rfl
theorem t131:fns 131=some f131:=rfl
theorem t104:fns 104=some f104:=rfl
theorem t157:fns 157=some f157:=rfl
theorem t132:fns 132=some f132:=rfl
theorem t133:fns 133=some f133:=rfl
theorem t105:fns 105=some f105:=rfl
theorem t134:fns 134=some f134:=rfl
theorem t106:fns 106=some f106:=rfl
theorem t158:fns 158=some f158:=rfl
theorem t135:fns 135=some f135:=rfl
theorem t136:fns 136=some f136:=rfl
theorem t107:fns 107=some f107:=rfl
theorem t150:fns 150=some f150:=rfl
theorem t119:fns 119=some f119:=rfl
theorem t159:fns 159=some f159:=rfl
theorem t137:fns 137=some f137:=rfl
theorem t138:fns 138=some f138:=rfl
theorem t179:fns 179=some f179:=rfl
theorem t160:fns 160=some f160:=rfl
theorem t161:fns 161=some f161:=rfl
theorem t139:fns 139=some f139:=rfl
theorem t180:fns 180=some f180:=rfl
theorem t162:fns 162=some f162:=rfl
theorem t163:fns 163=some f163:=rfl
theorem t164:fns 164=some f164:=rfl
theorem t140:fns 140=some f140:=rfl
theorem t181:fns 181=some f181:=rfl
theorem t165:fns 165=some f165:=rfl
theorem t166:fns 166=some f166:=rfl
theorem t141:fns 141=some f141:=rfl
theorem t142:fns 142=some f142:=rfl
theorem t108:fns 108=some f108:=rfl
theorem t82:fns 82=some f82:=rfl
theorem t65:fns 65=some f65:=rfl
theorem t66:fns 66=some f66:=rfl
theorem t85:fns 85=some f85:=rfl
theorem t86:fns 86=some f86:=rfl
theorem t68:fns 68=some f68:=rfl
theorem t111:fns 111=some f111:=rfl
theorem t88:fns 88=some f88:=rfl
theorem t71:fns 71=some f71:=rfl
theorem t70:fns 70=some f70:=rfl
theorem t46:fns 46=some f46:=rfl
theorem t53:fns 53=some f53:=rfl
theorem t116:fns 116=some f116:=rfl
theorem t117:fns 117=some f117:=rfl
theorem t118:fns 118=some f118:=rfl
theorem t91:fns 91=some f91:=rfl
theorem t120:fns 120=some f120:=rfl
theorem t205:fns 205=some f205:=rfl
theorem t195:fns 195=some f195:=rfl
theorem t189:fns 189=some f189:=rfl
theorem t178:fns 178=some f178:=rfl
theorem t177:fns 177=some f177:=rfl
theorem t151:fns 151=some f151:=rfl
theorem t152:fns 152=some f152:=rfl
theorem t121:fns 121=some f121:=rfl
theorem t122:fns 122=some f122:=rfl
theorem t92:fns 92=some f92:=rfl
theorem t153:fns 153=some f153:=rfl
theorem t123:fns 123=some f123:=rfl
theorem t124:fns 124=some f124:=rfl
theorem t154:fns 154=some f154:=rfl
theorem t125:fns 125=some f125:=rfl
theorem t93:fns 93=some f93:=rfl
theorem t47:fns 47=some f47:=rfl
theorem t94:fns 94=some f94:=rfl
theorem t73:fns 73=some f73:=rfl
theorem t51:fns 51=some f51:=rfl
theorem t26:fns 26=some f26:=rfl
theorem t32:fns 32=some f32:=rfl
theorem t27:fns 27=some f27:=rfl
theorem t34:fns 34=some f34:=rfl
theorem t48:fns 48=some f48:=rfl
theorem t52:fns 52=some f52:=rfl
theorem t28:fns 28=some f28:=rfl
theorem t10:fns 10=some f10:=rfl
theorem t49:fns 49=some f49:=rfl
theorem t55:fns 55=some f55:=rfl
theorem t35:fns 35=some f35:=rfl
theorem t12:fns 12=some f12:=rfl
theorem t37:fns 37=some f37:=rfl
theorem t16:fns 16=some f16:=rfl
theorem t20:fns 20=some f20:=rfl
theorem t40:fns 40=some f40:=rfl
theorem t101:fns 101=some f101:=rfl
theorem t80:fns 80=some f80:=rfl
theorem t79:fns 79=some f79:=rfl
theorem t60:fns 60=some f60:=rfl
theorem t39:fns 39=some f39:=rfl
theorem t44:fns 44=some f44:=rfl
theorem t58:fns 58=some f58:=rfl
theorem t59:fns 59=some f59:=rfl
theorem t45:fns 45=some f45:=rfl
theorem t126:fns 126=some f126:=rfl
theorem t127:fns 127=some f127:=rfl
theorem t97:fns 97=some f97:=rfl
theorem t98:fns 98=some f98:=rfl
theorem t76:fns 76=some f76:=rfl
theorem t77:fns 77=some f77:=rfl
theorem t99:fns 99=some f99:=rfl
theorem t128:fns 128=some f128:=rfl
theorem t100:fns 100=some f100:=rfl
theorem t78:fns 78=some f78:=rfl
theorem t57:fns 57=some f57:=rfl
theorem t38:fns 38=some f38:=rfl
theorem t61:fns 61=some f61:=rfl
theorem t62:fns 62=some f62:=rfl
theorem t41:fns 41=some f41:=rfl
theorem t75:fns 75=some f75:=rfl
theorem t56:fns 56=some f56:=rfl
theorem t63:fns 63=some f63:=rfl
theorem t15:fns 15=some f15:=rfl
theorem t64:fns 64=some f64:=rfl
theorem t42:fns 42=some f42:=rfl
theorem t43:fns 43=some f43:=rfl
theorem t17:fns 17=some f17:=rfl
theorem t19:fns 19=some f19:=rfl
theorem t21:fns 21=some f21:=rfl
theorem t22:fns 22=some f22:=rfl
theorem t5:fns 5=some f5:=rfl
theorem tab_ok:∀ p ∈ tab,chkFun Tryz.prog p.1 p.2=true:=by
 simp only [tab,List.forall_mem_cons]
 exact ⟨c9,c25,c72,c84,c67,c102,c81,c155,c156,c129,c54,c33,c109,c167,c168,c143,c110,c83,c130,c103,c87,c69,c131,c104,c157,c132,c133,c105,c134,c106,c158,c135,c136,c107,c150,c119,c159,c137,c138,c179,c160,c161,c139,c180,c162,c163,c164,c140,c181,c165,c166,c141,c142,c108,c82,c65,c66,c85,c86,c68,c111,c88,c71,c70,c46,c53,c116,c148,c117,c149,c118,c91,c120,c205,c195,c189,c198,c199,c178,c201,c202,c206,c204,c203,c177,c151,c152,c121,c122,c92,c153,c123,c124,c154,c125,c93,c47,c94,c73,c51,c26,c32,c27,c34,c48,c52,c28,c10,c49,c95,c96,c74,c55,c35,c12,c37,c16,c20,c40,c101,c80,c79,c60,c39,c44,c58,c59,c45,c126,c127,c97,c98,c76,c77,c99,c128,c100,c78,c57,c38,c61,c62,c41,c75,c56,c63,c15,c64,c42,c43,c17,c19,c21,c22,c5,by simp⟩
theorem fns_ok (f:Nat) (af:AFun) (h:fns f=some af):chkFun Tryz.prog f af=true:=tab_ok _ (look_mem h)
theorem once_ok (f:Nat) (af:AFun) (h:fns f=some af) (ho:af.once=true):OnceLaw Tryz.prog (fnOf f):=by
 have:=List.all_eq_true.mp (by rfl:tab.all (fun p=>!p.2.once || Nat.beq p.1 72)=true) _ (look_mem h)
 simp only [ho,Bool.not_true,Bool.false_or] at this
 rw [Nat.eq_of_beq_eq_true this];exact onceLaw
theorem run_ok (n:Nat):Sound Tryz.prog (evf fns n):=evf_sound rfl fns_ok once_ok n
end Go.Proofs.YteeofkbhopioiaaGreatDoor.Am
