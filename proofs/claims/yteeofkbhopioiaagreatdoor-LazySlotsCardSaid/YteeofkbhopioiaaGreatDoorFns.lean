/- Lemmas that the rows' proofs rest on; each states its own conditions. -/
import Derived.Test.YteeofkbhopioiaaGreatDoorFnsA
import Derived.Test.YteeofkbhopioiaaGreatDoorOnce
import Derived.Test.YteeofkbhopioiaaGreatDoorMachF
import Derived.Test.YteeofkbhopioiaaGreatDoorProg
import Derived.KernelRfl
namespace Go.Proofs.YteeofkbhopioiaaGreatDoor.Am
open Go
set_option maxRecDepth 100000
def f23:AFun:=⟨2,
 (.seq (xR [xB 2 0,xA 4 (.mov .own (.k (.c (.osl 1 []))))] [1,2])
 (.seq (xR [xQ 5 1 2,xA 6 (.call 46 [(.t 5)]),xM 7 1,xA 8 (.call 48 [(.t 6),(.t 7)]),xO 4 8] [4])
 .ret)),[(.tmp 4)],.pure,false,false⟩
def f6_b0:ACode:=(.wrap true [3,4,5,9,11,13] [8] [(0,[3,4,5,9,11])]
 (.seq (.seq (xR [xM 92 13,xM 93 11,xH 94 93,xA 95 (.bin .lss (.t 92) (.t 94))] [3,4,5,9,11,13,95])
 (.cond (.t 95)
 .skip
 (.exit 0)))
 (.seq (.block 1 (.seq (xR [xM 98 11,xM 99 13,xI 100 4 98 99,xF 101 0 100,xL 102 101,xA 103 (.bin .eql (.t 102) (xi 3)),xM 104 103,xMF 105 11 104,xMF 106 13 104,xIF 107 4 105 106 104,xFF 108 0 107 104,xLF 109 108 104,xAF 110 (.bin .eql (.t 109) (xi 4)) 104,xA 111 (.pick (.t 104) xT (.t 110)),xM 112 13,xM 113 9,xH 114 113,xA 115 (.bin .geq (.t 112) (.t 114)),xA 116 (.eq true 0 [] (.t 111) (.t 115))] [3,4,5,9,11,13,116])
 (.cond (.t 116)
 (.seq (xR [xA 8 (.mov .own xU)] [8])
 .ret)
 .skip)))
 (xR [xM 96 13,xA 97 (.bin .add (.t 96) (xi 1)),xM 13 97] [3,4,5,9,11,13]))))
def f6_l0:ACode:=.loop f6_b0
theorem u6_l0:LpEq f6_l0 f6_b0:=K_loop
def f6:AFun:=⟨4,
 (.seq (xR [xB 4 0,xB 5 1,xA 8 (.mov .own xU)] [2,3,4,5])
 (.seq (.seq (xR [xQ 15 1 4,xA 16 (.callb 9 [(.t 15)]),xM 17 16,xFF 18 1 5 17,xLF 19 18 17,xAF 20 (.len 1 (.t 19)) 17,xAF 21 (.bin .gtr (.t 20) (xi 60)) 17,xA 22 (.pick (.t 17) xT (.t 21)),xM 23 22,xMF 24 2 23,xAF 25 (.len 0 (.t 24)) 23,xAF 26 (.bin .geq (.t 25) (xi 3)) 23,xA 27 (.pick (.t 23) xT (.t 26)),xM 28 27,xAF 29 (.ld .cp (some 1) (.t 4)) 28,xAF 30 (.callb 17 [(.t 29)]) 28,xAF 31 (.bin .neq (.t 30) (xi 0)) 28,xA 32 (.pick (.t 28) xT (.t 31))] [2,3,4,5,32])
 (.cond (.t 32)
 (.seq (xR [xA 8 (.mov .own xT)] [8])
 .ret)
 .skip))
 (.seq (xR [xM 33 3,xA 34 (.conv .u64 (.t 33)),xA 35 (.bin .rem (.t 34) (.k (.c (.b (.d (.int .u64 4)))))),xA 36 (.conv .i64 (.t 35)),xM 3 36] [2,3,4,5])
 (.seq (xR [xQ 38 1 4,xQ 39 2 5,xM 40 2,xM 41 2,xH 42 41,xM 43 3,xA 44 (.callb 10 [(.t 38),(.t 39),(.t 40),(.t 42),(.t 43)]),xO 37 44,xE 45 0 37,xE 46 1 37,xM 9 45,xM 10 46] [2,3,4,5,9,10])
 (.seq (xR [xQ 48 1 4,xQ 49 2 5,xM 50 2,xM 51 2,xH 52 51,xA 53 (.bin .add (.t 52) (xi 1)),xM 54 3,xA 55 (.callb 10 [(.t 48),(.t 49),(.t 50),(.t 53),(.t 54)]),xO 47 55,xE 56 0 47,xE 57 1 47,xM 11 56,xM 12 57] [3,4,5,9,10,11,12])
 (.seq (.seq (xR [xM 58 10,xA 59 (.bin .neq (.t 58) (xi 0)),xM 60 59,xMF 61 12 60,xAF 62 (.bin .neq (.t 61) (xi 0)) 60,xA 63 (.pick (.t 60) xT (.t 62))] [3,4,5,9,10,11,12,63])
 (.cond (.t 63)
 (.seq (xR [xM 64 10,xM 65 12,xA 66 (.bin .eql (.t 64) (.t 65)),xM 67 66,xMT 68 9 67,xAT 69 (.len 0 (.t 68)) 67,xMT 70 11 67,xAT 71 (.len 0 (.t 70)) 67,xAT 72 (.bin .add (.t 69) (.t 71)) 67,xAT 73 (.bin .eql (.t 72) (xi 0)) 67,xA 74 (.pick (.t 67) (.t 73) xU),xM 75 74,xAT 76 (.callb 16 []) 75,xA 77 (.pick (.t 75) (.t 76) xU),xO 8 77] [8])
 .ret)
 .skip))
 (.seq (.seq (xR [xM 78 11,xH 79 78,xM 80 9,xH 81 80,xA 82 (.bin .lss (.t 79) (.t 81)),xM 83 82,xMF 84 11 83,xMF 85 9 83,xAF 86 (.len 0 (.t 85)) 83,xAF 87 (.slc .cp 4 (.t 84) none (some (.t 86))) 83,xMF 88 9 83,xAF 89 (.callb 14 [(.t 87),(.t 88)]) 83,xNF 90 89 83,xA 91 (.pick (.t 83) xT (.t 90))] [3,4,5,9,11,91])
 (.cond (.t 91)
 (.seq (xR [xA 8 (.mov .own xU)] [8])
 .ret)
 .skip))
 (.seq (.seq (xR [xA 13 (.mov .cp (xi 0))] [3,4,5,9,11,13])
 (.block 0 f6_l0))
 (.seq (xR [xM 117 3,xA 118 (.bin .add (.t 117) (xi 1)),xM 14 118] [4,5,9,11,14])
 (.seq (.seq (xR [xF 119 0 5,xL 120 119,xA 121 (.bin .eql (.t 120) (xi 3))] [4,5,9,11,14,121])
 (.cond (.t 121)
 (xR [xQ 122 1 4,xF 123 1 5,xL 124 123,xA 125 (.callb 23 [(.t 122),(.t 124)]),xH 126 125,xM 14 126] [9,11,14])
 .skip))
 (.seq (xR [xM 127 11,xH 128 127,xM 129 9,xH 130 129,xM 131 14,xA 132 (.bin .add (.t 130) (.t 131)),xA 133 (.bin .eql (.t 128) (.t 132)),xM 134 133,xAT 135 (.callb 16 []) 134,xA 136 (.pick (.t 134) (.t 135) xU),xO 8 136] [8])
 .ret))))))))))),[(.tmp 8)],.pure,false,false⟩
def f7_b0:ACode:=(.wrap true [11,13,14,15] [10] [(0,[])]
 (.seq (.seq (xR [xM 70 15,xM 71 11,xH 72 71,xA 73 (.bin .lss (.t 70) (.t 72))] [11,13,14,15,73])
 (.cond (.t 73)
 .skip
 (.exit 0)))
 (.seq (.block 1 (.seq (xG [xM 76 11,xM 77 15,xA 78 (.bin .sub (.t 77) (xi 1)),xI 79 4 76 78,xA 80 (.ld .arr (some 4) (.t 79)),xM 81 11,xM 82 15,xI 83 4 81 82,xA 84 (.ld .arr (some 4) (.t 83)),xA 16 (.alloc [xc,xc,xc,xa]),xA 17 (.alloc [xc,xc,xc,xa]),xS 4 16 80,xS 4 17 84] [11,13,14,15,16,17])
 (.seq (.seq (xR [xF 85 0 17,xL 86 85,xF 87 0 16,xL 88 87,xA 89 (.bin .lss (.t 86) (.t 88)),xM 90 89,xFF 91 0 16 90,xLF 92 91 90,xFF 93 0 17 90,xLF 94 93 90,xAF 95 (.bin .eql (.t 92) (.t 94)) 90,xMF 96 95 90,xFT 97 0 17 96,xLT 98 97 96,xAT 99 (.bin .neq (.t 98) (xi 3)) 96,xAF 100 (.pick (.t 96) (.t 99) xU) 90,xMF 101 100 90,xFT 102 1 17 101,xLT 103 102 101,xFT 104 1 16 101,xLT 105 104 101,xAT 106 (.bin .leq (.t 103) (.t 105)) 101,xAF 107 (.pick (.t 101) (.t 106) xU) 90,xA 108 (.pick (.t 90) xT (.t 107))] [11,13,14,15,17,108])
 (.cond (.t 108)
 (.seq (xR [xA 10 (.mov .own xU)] [10])
 .ret)
 .skip))
 (.seq (.seq (xR [xF 109 0 17,xL 110 109,xA 111 (.bin .neq (.t 110) (xi 3))] [11,13,14,15,17,111])
 (.cond (.t 111)
 (.exit 1)
 .skip))
 (.seq (.seq (xG [xM 112 14,xM 113 13,xH 114 113,xA 115 (.bin .geq (.t 112) (.t 114)),xM 116 115,xFF 117 2 17 116,xAF 118 (.ld .cp (some 2) (.t 117)) 116,xMF 119 13 116,xMF 120 14 116,xIF 121 1 119 120 116,xLF 122 121 116,xAF 123 (.build [xc,xa] [(0,1,(xi 3)),(1,1,(.t 122))]) 116,xAF 124 (.eq true 2 [1,2] (.t 118) (.t 123)) 116,xA 125 (.pick (.t 116) xT (.t 124))] [11,13,14,15,125])
 (.cond (.t 125)
 (.seq (xR [xA 10 (.mov .own xU)] [10])
 .ret)
 .skip))
 (xR [xM 126 14,xA 127 (.bin .add (.t 126) (xi 1)),xM 14 127] [11,13,14,15]))))))
 (xR [xM 74 15,xA 75 (.bin .add (.t 74) (xi 1)),xM 15 75] [11,13,14,15]))))
def f7_l0:ACode:=.loop f7_b0
theorem u7_l0:LpEq f7_l0 f7_b0:=K_loop
def f7:AFun:=⟨5,
 (.seq (xR [xB 5 0,xB 6 1,xA 10 (.mov .own xU)] [2,3,4,5,6])
 (.seq (.seq (xR [xQ 18 1 5,xA 19 (.callb 9 [(.t 18)]),xM 20 19,xFF 21 1 6 20,xLF 22 21 20,xAF 23 (.len 1 (.t 22)) 20,xAF 24 (.bin .gtr (.t 23) (xi 60)) 20,xA 25 (.pick (.t 20) xT (.t 24)),xM 26 25,xMF 27 2 26,xAF 28 (.len 0 (.t 27)) 26,xAF 29 (.bin .gtr (.t 28) (xi 3)) 26,xA 30 (.pick (.t 26) xT (.t 29))] [2,3,4,5,6,30])
 (.cond (.t 30)
 (.seq (xR [xA 10 (.mov .own xT)] [10])
 .ret)
 .skip))
 (.seq (xR [xM 31 3,xA 32 (.conv .u64 (.t 31)),xA 33 (.bin .rem (.t 32) (.k (.c (.b (.d (.int .u64 4)))))),xA 34 (.conv .i64 (.t 33)),xM 35 4,xA 36 (.conv .u64 (.t 35)),xA 37 (.bin .rem (.t 36) (.k (.c (.b (.d (.int .u64 4)))))),xA 38 (.conv .i64 (.t 37)),xM 3 34,xM 4 38] [2,3,4,5,6])
 (.seq (xR [xQ 40 1 5,xQ 41 2 6,xM 42 2,xM 43 3,xM 44 4,xA 45 (.callb 10 [(.t 40),(.t 41),(.t 42),(.t 43),(.t 44)]),xO 39 45,xE 46 0 39,xE 47 1 39,xM 11 46,xM 12 47] [5,6,11,12])
 (.seq (.seq (xR [xM 48 12,xA 49 (.bin .neq (.t 48) (xi 0))] [5,6,11,49])
 (.cond (.t 49)
 (.seq (xR [xM 50 11,xH 51 50,xA 52 (.bin .eql (.t 51) (xi 0)),xM 53 52,xAT 54 (.callb 16 []) 53,xA 55 (.pick (.t 53) (.t 54) xU),xO 10 55] [10])
 .ret)
 .skip))
 (.seq (.seq (xR [xM 56 11,xH 57 56,xA 58 (.bin .eql (.t 57) (xi 0)),xM 59 58,xMF 60 11 59,xAF 61 (.ia 4 (.t 60) (xi 0)) 59,xAF 62 (.ld .cp (some 4) (.t 61)) 59,xAF 63 (.build [xc,xc,xc,xa] [(0,1,(xi 1))]) 59,xAF 64 (.eq true 2 [1,1,1,2] (.t 62) (.t 63)) 59,xA 65 (.pick (.t 59) xT (.t 64))] [5,6,11,65])
 (.cond (.t 65)
 (.seq (xR [xA 10 (.mov .own xU)] [10])
 .ret)
 .skip))
 (.seq (xR [xQ 66 1 5,xF 67 1 6,xL 68 67,xA 69 (.callb 23 [(.t 66),(.t 68)]),xM 13 69] [11,13])
 (.seq (xR [xA 14 (.mov .cp (xi 0))] [11,13,14])
 (.seq (.seq (xR [xA 15 (.mov .cp (xi 1))] [11,13,14,15])
 (.block 0 f7_l0))
 (.seq (xR [xA 128 (.callb 16 []),xO 10 128] [10])
 .ret)))))))))),[(.tmp 10)],.pure,false,false⟩
def f50:AFun:=⟨1,
 (.seq (xR [xA 2 (.mov .own (.k (.c (.osl 4 []))))] [0])
 (.seq (.seq (xR [xM 3 0,xA 4 (.eq false 4 [] (.t 3) (.k (.c (.b .nils))))] [0,4])
 (.cond (.t 4)
 (.seq (xR [xA 2 (.mov .own (.k (.c (.osl 4 []))))] [2])
 .ret)
 .skip))
 (.seq (xR [xA 5 (.bsl .own 4 0 [xa,xa,xc,xa] []),xM 6 0,xA 7 (.app 4 56 (.t 5) (.t 6)),xO 2 7] [2])
 .ret))),[(.tmp 2)],.pure,true,false⟩
def f24:AFun:=⟨2,
 (.seq (xR [xB 2 0,xA 4 (.mov .own (.k (.c (.osl 4 [])))),xA 5 (.mov .own (xi 0))] [1,2])
 (.seq (xR [xQ 9 1 2,xA 10 (.call 25 [(.t 9)]),xM 6 10] [1,6])
 (.seq (xR [xM 12 6,xM 13 1,xA 14 (.call 49 [(.t 12),(.t 13)]),xO 11 14,xE 15 0 11,xE 16 1 11,xM 7 15,xM 8 16] [6,7,8])
 (.seq (.block 0 (.seq (xR [xM 18 6,xA 19 (.call 26 [(.t 18)]),xA 20 (.bin .neq (.t 19) (xi 0)),xM 17 20] [6,7,8,17])
 (.cond (.t 17)
 (.seq (xR [xM 21 6,xA 22 (.call 26 [(.t 21)]),xA 4 (.mov .own (.k (.c (.osl 4 [])))),xO 5 22] [4,5])
 .ret)
 (.seq (xR [xM 24 8,xN 25 24,xM 23 25] [7,23])
 (.cond (.t 23)
 (.seq (xR [xA 4 (.mov .own (.k (.c (.osl 4 [])))),xA 5 (.mov .own (xi 5))] [4,5])
 .ret)
 .skip)))))
 (.seq (xR [xM 26 7,xA 27 (.callb 50 [(.t 26)]),xO 4 27,xA 5 (.mov .own (xi 0))] [4,5])
 .ret))))),[(.tmp 4),(.tmp 5)],.pure,false,false⟩
def f8_b0:ACode:=(.wrap true [2,3,7,8,9,10,12,14] [6] [(0,[3,7,8,9])]
 (.seq (.seq (xR [xM 92 14,xM 93 2,xA 94 (.bin .lss (.t 92) (.t 93))] [2,3,7,8,9,10,12,14,94])
 (.cond (.t 94)
 .skip
 (.exit 0)))
 (.seq (.block 1 (.seq (xG [xM 97 10,xM 98 14,xI 99 2 97 98,xQ 100 2 99,xF 101 0 7,xL 102 101,xA 103 (.build [xc,xa] [(0,1,(xi 3)),(1,1,(.t 102))]),xA 104 (.eq true 2 [1,2] (.t 100) (.t 103)),xM 105 104,xMF 106 12 105,xMF 107 14 105,xIF 108 2 106 107 105,xAF 109 (.ld .cp (some 2) (.t 108)) 105,xAF 110 (.build [xc,xa] [(0,1,(xi 2))]) 105,xAF 111 (.eq true 2 [1,2] (.t 109) (.t 110)) 105,xA 112 (.pick (.t 105) xT (.t 111))] [2,3,7,8,9,10,12,14,112])
 (.cond (.t 112)
 (.seq (xR [xA 6 (.mov .own xU)] [6])
 .ret)
 .skip)))
 (xR [xM 95 14,xA 96 (.bin .add (.t 95) (xi 1)),xM 14 96] [2,3,7,8,9,10,12,14]))))
def f8_l0:ACode:=.loop f8_b0
theorem u8_l0:LpEq f8_l0 f8_b0:=K_loop
def f8_b1:ACode:=(.wrap true [8,15,17] [6] [(2,[])]
 (.seq (.seq (xR [xM 145 17,xM 146 15,xH 147 146,xA 148 (.bin .lss (.t 145) (.t 147))] [8,15,17,148])
 (.cond (.t 148)
 .skip
 (.exit 2)))
 (.seq (.block 3 (.seq (xG [xM 151 15,xM 152 17,xI 153 4 151 152,xF 154 2 153,xQ 155 2 154,xM 156 8,xM 157 17,xI 158 2 156 157,xQ 159 2 158,xA 160 (.eq true 2 [1,2] (.t 155) (.t 159))] [8,15,17,160])
 (.cond (.t 160)
 (.seq (xR [xA 6 (.mov .own xU)] [6])
 .ret)
 .skip)))
 (xR [xM 149 17,xA 150 (.bin .add (.t 149) (xi 1)),xM 17 150] [8,15,17]))))
def f8_l1:ACode:=.loop f8_b1
theorem u8_l1:LpEq f8_l1 f8_b1:=K_loop
def f8:AFun:=⟨3,
 (.seq (xR [xB 3 0,xA 6 (.mov .own xU)] [1,2,3])
 (.seq (.seq (xR [xQ 18 1 3,xA 19 (.callb 9 [(.t 18)]),xM 20 19,xAF 21 (.ld .cp (some 1) (.t 3)) 20,xAF 22 (.callb 17 [(.t 21)]) 20,xAF 23 (.bin .neq (.t 22) (xi 0)) 20,xA 24 (.pick (.t 20) xT (.t 23)),xM 25 24,xFF 26 0 3 25,xLF 27 26 25,xAF 28 (.len 0 (.t 27)) 25,xAF 29 (.bin .eql (.t 28) (xi 0)) 25,xA 30 (.pick (.t 25) xT (.t 29))] [1,2,3,30])
 (.cond (.t 30)
 (.seq (xR [xA 6 (.mov .own xT)] [6])
 .ret)
 .skip))
 (.seq (xR [xM 31 2,xA 32 (.conv .u64 (.t 31)),xA 33 (.bin .rem (.t 32) (.k (.c (.b (.d (.int .u64 4)))))),xA 34 (.conv .i64 (.t 33)),xM 2 34] [1,2,3])
 (.seq (xG [xF 35 0 3,xL 36 35,xM 37 1,xA 38 (.conv .u64 (.t 37)),xF 39 0 3,xL 40 39,xH 41 40,xA 42 (.conv .u64 (.t 41)),xA 43 (.bin .rem (.t 38) (.t 42)),xA 44 (.conv .i64 (.t 43)),xI 45 6 36 44,xQ 46 6 45,xA 7 (.alloc [xa,xb,xa,(.osl 1 []),(.osl 4 []),(.osl 9 [])]),xS 6 7 46] [2,3,7])
 (.seq (xR [xQ 48 1 3,xF 49 0 7,xL 50 49,xA 51 (.build [xc,xa] [(0,1,(xi 3)),(1,1,(.t 50))]),xA 52 (.build [xc,xc,xc,xa] [(0,1,(xi 3)),(2,2,(.t 51))]),xA 53 (.callb 12 [(.t 48),(.t 52)]),xO 47 53,xE 54 0 47,xE 55 1 47,xM 8 54,xM 9 55] [2,3,7,8,9])
 (.seq (xR [xQ 57 1 3,xM 58 2,xF 59 0 7,xL 60 59,xA 61 (.build [xc,xa] [(0,1,(xi 5)),(1,1,(.t 60))]),xA 62 (.build [xc,xc,xc,xa] [(0,1,(xi 4)),(1,1,(.t 58)),(2,2,(.t 61))]),xA 63 (.callb 12 [(.t 57),(.t 62)]),xO 56 63,xE 64 0 56,xE 65 1 56,xM 10 64,xM 11 65] [2,3,7,8,9,10,11])
 (.seq (xR [xQ 67 1 3,xM 68 2,xA 69 (.build [xc,xa] [(0,1,(xi 4))]),xA 70 (.build [xc,xc,xc,xa] [(0,1,(xi 4)),(1,1,(.t 68)),(2,2,(.t 69))]),xA 71 (.callb 12 [(.t 67),(.t 70)]),xO 66 71,xE 72 0 66,xE 73 1 66,xM 12 72,xM 13 73] [2,3,7,8,9,10,11,12,13])
 (.seq (.seq (xR [xM 74 11,xA 75 (.bin .neq (.t 74) (xi 0)),xM 76 75,xMF 77 13 76,xAF 78 (.bin .neq (.t 77) (xi 0)) 76,xA 79 (.pick (.t 76) xT (.t 78)),xM 80 79,xMF 81 10 80,xAF 82 (.len 0 (.t 81)) 80,xMF 83 2 80,xAF 84 (.bin .neq (.t 82) (.t 83)) 80,xA 85 (.pick (.t 80) xT (.t 84)),xM 86 85,xMF 87 12 86,xAF 88 (.len 0 (.t 87)) 86,xMF 89 2 86,xAF 90 (.bin .neq (.t 88) (.t 89)) 86,xA 91 (.pick (.t 86) xT (.t 90))] [2,3,7,8,9,10,12,91])
 (.cond (.t 91)
 (.seq (xR [xA 6 (.mov .own xU)] [6])
 .ret)
 .skip))
 (.seq (.seq (xR [xA 14 (.mov .cp (xi 0))] [2,3,7,8,9,10,12,14])
 (.block 0 f8_l0))
 (.seq (.seq (xR [xF 113 1 7,xL 114 113] [3,7,8,9,114])
 (.cond (.t 114)
 (.seq (xR [xM 115 9,xA 116 (.bin .eql (.t 115) (xi 1)),xM 117 116,xMT 118 8 117,xAT 119 (.len 0 (.t 118)) 117,xAT 120 (.bin .eql (.t 119) (xi 0)) 117,xA 121 (.pick (.t 117) (.t 120) xU),xM 122 121,xAT 123 (.callb 16 []) 122,xA 124 (.pick (.t 122) (.t 123) xU),xO 6 124] [6])
 .ret)
 .skip))
 (.seq (xR [xQ 126 1 3,xF 127 0 7,xL 128 127,xA 129 (.callb 24 [(.t 126),(.t 128)]),xO 125 129,xE 130 0 125,xE 131 1 125,xM 15 130,xM 16 131] [8,9,15,16])
 (.seq (.seq (xR [xM 132 9,xA 133 (.bin .neq (.t 132) (xi 0)),xM 134 133,xMF 135 16 134,xAF 136 (.bin .neq (.t 135) (xi 0)) 134,xA 137 (.pick (.t 134) xT (.t 136)),xM 138 137,xMF 139 15 138,xAF 140 (.len 0 (.t 139)) 138,xMF 141 8 138,xAF 142 (.len 0 (.t 141)) 138,xAF 143 (.bin .neq (.t 140) (.t 142)) 138,xA 144 (.pick (.t 138) xT (.t 143))] [8,15,144])
 (.cond (.t 144)
 (.seq (xR [xA 6 (.mov .own xU)] [6])
 .ret)
 .skip))
 (.seq (.seq (xR [xA 17 (.mov .cp (xi 0))] [8,15,17])
 (.block 2 f8_l1))
 (.seq (xR [xA 161 (.callb 16 []),xO 6 161] [6])
 .ret)))))))))))))),[(.tmp 6)],.pure,false,false⟩
theorem c9:chkFun Tryz.prog 9 f9=true:=by kernel_rfl
theorem c25:chkFun Tryz.prog 25 f25=true:=by kernel_rfl
theorem c72:chkFun Tryz.prog 72 f72=true:=by kernel_rfl
theorem c84:chkFun Tryz.prog 84 f84=true:=by kernel_rfl
theorem c67:chkFun Tryz.prog 67 f67=true:=by kernel_rfl
theorem c102:chkFun Tryz.prog 102 f102=true:=by kernel_rfl
theorem c81:chkFun Tryz.prog 81 f81=true:=by kernel_rfl
theorem c155:chkFun Tryz.prog 155 f155=true:=by kernel_rfl
theorem c156:chkFun Tryz.prog 156 f156=true:=by kernel_rfl
theorem c129:chkFun Tryz.prog 129 f129=true:=by kernel_rfl
theorem c54:chkFun Tryz.prog 54 f54=true:=by kernel_rfl
theorem c33:chkFun Tryz.prog 33 f33=true:=by kernel_rfl
theorem c109:chkFun Tryz.prog 109 f109=true:=by kernel_rfl
theorem c167:chkFun Tryz.prog 167 f167=true:=by kernel_rfl
theorem c168:chkFun Tryz.prog 168 f168=true:=by kernel_rfl
theorem c143:chkFun Tryz.prog 143 f143=true:=by kernel_rfl
theorem c110:chkFun Tryz.prog 110 f110=true:=by kernel_rfl
theorem c83:chkFun Tryz.prog 83 f83=true:=by kernel_rfl
theorem c130:chkFun Tryz.prog 130 f130=true:=by kernel_rfl
theorem c103:chkFun Tryz.prog 103 f103=true:=by kernel_rfl
theorem c87:chkFun Tryz.prog 87 f87=true:=by kernel_rfl
theorem c69:chkFun Tryz.prog 69 f69=true:=by kernel_rfl
theorem c131:chkFun Tryz.prog 131 f131=true:=by kernel_rfl
theorem c104:chkFun Tryz.prog 104 f104=true:=by kernel_rfl
theorem c157:chkFun Tryz.prog 157 f157=true:=by kernel_rfl
theorem c132:chkFun Tryz.prog 132 f132=true:=by kernel_rfl
theorem c133:chkFun Tryz.prog 133 f133=true:=by kernel_rfl
theorem c105:chkFun Tryz.prog 105 f105=true:=by kernel_rfl
theorem c134:chkFun Tryz.prog 134 f134=true:=by kernel_rfl
theorem c106:chkFun Tryz.prog 106 f106=true:=by kernel_rfl
theorem c158:chkFun Tryz.prog 158 f158=true:=by kernel_rfl
theorem c135:chkFun Tryz.prog 135 f135=true:=by kernel_rfl
theorem c136:chkFun Tryz.prog 136 f136=true:=by kernel_rfl
theorem c107:chkFun Tryz.prog 107 f107=true:=by kernel_rfl
theorem c150:chkFun Tryz.prog 150 f150=true:=by kernel_rfl
theorem c119:chkFun Tryz.prog 119 f119=true:=by kernel_rfl
theorem c159:chkFun Tryz.prog 159 f159=true:=by kernel_rfl
theorem c137:chkFun Tryz.prog 137 f137=true:=by kernel_rfl
theorem c138:chkFun Tryz.prog 138 f138=true:=by kernel_rfl
theorem c179:chkFun Tryz.prog 179 f179=true:=by kernel_rfl
theorem c160:chkFun Tryz.prog 160 f160=true:=by kernel_rfl
theorem c161:chkFun Tryz.prog 161 f161=true:=by kernel_rfl
theorem c139:chkFun Tryz.prog 139 f139=true:=by kernel_rfl
theorem c180:chkFun Tryz.prog 180 f180=true:=by kernel_rfl
theorem c162:chkFun Tryz.prog 162 f162=true:=by kernel_rfl
theorem c163:chkFun Tryz.prog 163 f163=true:=by kernel_rfl
theorem c164:chkFun Tryz.prog 164 f164=true:=by kernel_rfl
theorem c140:chkFun Tryz.prog 140 f140=true:=by kernel_rfl
theorem c181:chkFun Tryz.prog 181 f181=true:=by kernel_rfl
theorem c165:chkFun Tryz.prog 165 f165=true:=by kernel_rfl
theorem c166:chkFun Tryz.prog 166 f166=true:=by kernel_rfl
theorem c141:chkFun Tryz.prog 141 f141=true:=by kernel_rfl
theorem c142:chkFun Tryz.prog 142 f142=true:=by kernel_rfl
theorem c108:chkFun Tryz.prog 108 f108=true:=by kernel_rfl
theorem c82:chkFun Tryz.prog 82 f82=true:=by kernel_rfl
theorem c65:chkFun Tryz.prog 65 f65=true:=by kernel_rfl
theorem c66:chkFun Tryz.prog 66 f66=true:=by kernel_rfl
theorem c85:chkFun Tryz.prog 85 f85=true:=by kernel_rfl
theorem c86:chkFun Tryz.prog 86 f86=true:=by kernel_rfl
theorem c68:chkFun Tryz.prog 68 f68=true:=by kernel_rfl
theorem c111:chkFun Tryz.prog 111 f111=true:=by kernel_rfl
theorem c88:chkFun Tryz.prog 88 f88=true:=by kernel_rfl
theorem c71:chkFun Tryz.prog 71 f71=true:=by kernel_rfl
theorem c70:chkFun Tryz.prog 70 f70=true:=by kernel_rfl
theorem c46:chkFun Tryz.prog 46 f46=true:=by kernel_rfl
theorem c53:chkFun Tryz.prog 53 f53=true:=by kernel_rfl
theorem c116:chkFun Tryz.prog 116 f116=true:=by kernel_rfl
theorem c148:chkFun Tryz.prog 148 f148=true:=by kernel_rfl
theorem c117:chkFun Tryz.prog 117 f117=true:=by kernel_rfl
theorem c149:chkFun Tryz.prog 149 f149=true:=by kernel_rfl
theorem c118:chkFun Tryz.prog 118 f118=true:=by kernel_rfl
theorem c91:chkFun Tryz.prog 91 f91=true:=by kernel_rfl
theorem c120:chkFun Tryz.prog 120 f120=true:=by kernel_rfl
theorem c205:chkFun Tryz.prog 205 f205=true:=by kernel_rfl
theorem c195:chkFun Tryz.prog 195 f195=true:=by kernel_rfl
theorem c189:chkFun Tryz.prog 189 f189=true:=by kernel_rfl
theorem c198:chkFun Tryz.prog 198 f198=true:=by kernel_rfl
theorem c199:chkFun Tryz.prog 199 f199=true:=by kernel_rfl
theorem c178:chkFun Tryz.prog 178 f178=true:=by kernel_rfl
theorem c201:chkFun Tryz.prog 201 f201=true:=by kernel_rfl
theorem c202:chkFun Tryz.prog 202 f202=true:=by kernel_rfl
theorem c206:chkFun Tryz.prog 206 f206=true:=by kernel_rfl
theorem c204:chkFun Tryz.prog 204 f204=true:=by kernel_rfl
theorem c203:chkFun Tryz.prog 203 f203=true:=by kernel_rfl
theorem c177:chkFun Tryz.prog 177 f177=true:=by kernel_rfl
theorem c151:chkFun Tryz.prog 151 f151=true:=by kernel_rfl
theorem c152:chkFun Tryz.prog 152 f152=true:=by kernel_rfl
theorem c121:chkFun Tryz.prog 121 f121=true:=by kernel_rfl
theorem c122:chkFun Tryz.prog 122 f122=true:=by kernel_rfl
theorem c92:chkFun Tryz.prog 92 f92=true:=by kernel_rfl
theorem c153:chkFun Tryz.prog 153 f153=true:=by kernel_rfl
theorem c123:chkFun Tryz.prog 123 f123=true:=by kernel_rfl
theorem c124:chkFun Tryz.prog 124 f124=true:=by kernel_rfl
theorem c154:chkFun Tryz.prog 154 f154=true:=by kernel_rfl
theorem c125:chkFun Tryz.prog 125 f125=true:=by kernel_rfl
theorem c93:chkFun Tryz.prog 93 f93=true:=by kernel_rfl
theorem c47:chkFun Tryz.prog 47 f47=true:=by kernel_rfl
theorem c94:chkFun Tryz.prog 94 f94=true:=by kernel_rfl
theorem c73:chkFun Tryz.prog 73 f73=true:=by kernel_rfl
theorem c51:chkFun Tryz.prog 51 f51=true:=by kernel_rfl
theorem c26:chkFun Tryz.prog 26 f26=true:=by kernel_rfl
theorem c32:chkFun Tryz.prog 32 f32=true:=by kernel_rfl
theorem c27:chkFun Tryz.prog 27 f27=true:=by kernel_rfl
theorem c34:chkFun Tryz.prog 34 f34=true:=by kernel_rfl
theorem c48:chkFun Tryz.prog 48 f48=true:=by kernel_rfl
theorem c52:chkFun Tryz.prog 52 f52=true:=by kernel_rfl
theorem c28:chkFun Tryz.prog 28 f28=true:=by kernel_rfl
theorem c10:chkFun Tryz.prog 10 f10=true:=by kernel_rfl
theorem c20:chkFun Tryz.prog 20 f20=true:=by kernel_rfl
theorem c40:chkFun Tryz.prog 40 f40=true:=by kernel_rfl
theorem c101:chkFun Tryz.prog 101 f101=true:=by kernel_rfl
theorem c80:chkFun Tryz.prog 80 f80=true:=by kernel_rfl
theorem c79:chkFun Tryz.prog 79 f79=true:=by kernel_rfl
theorem c60:chkFun Tryz.prog 60 f60=true:=by kernel_rfl
theorem c39:chkFun Tryz.prog 39 f39=true:=by kernel_rfl
theorem c44:chkFun Tryz.prog 44 f44=true:=by kernel_rfl
theorem c58:chkFun Tryz.prog 58 f58=true:=by kernel_rfl
theorem c59:chkFun Tryz.prog 59 f59=true:=by kernel_rfl
theorem c45:chkFun Tryz.prog 45 f45=true:=by kernel_rfl
theorem c126:chkFun Tryz.prog 126 f126=true:=by kernel_rfl
theorem c127:chkFun Tryz.prog 127 f127=true:=by kernel_rfl
theorem c97:chkFun Tryz.prog 97 f97=true:=by kernel_rfl
theorem c98:chkFun Tryz.prog 98 f98=true:=by kernel_rfl
theorem c76:chkFun Tryz.prog 76 f76=true:=by kernel_rfl
theorem c77:chkFun Tryz.prog 77 f77=true:=by kernel_rfl
theorem c99:chkFun Tryz.prog 99 f99=true:=by kernel_rfl
theorem c128:chkFun Tryz.prog 128 f128=true:=by kernel_rfl
theorem c100:chkFun Tryz.prog 100 f100=true:=by kernel_rfl
theorem c78:chkFun Tryz.prog 78 f78=true:=by kernel_rfl
theorem c57:chkFun Tryz.prog 57 f57=true:=by kernel_rfl
theorem c38:chkFun Tryz.prog 38 f38=true:=by kernel_rfl
theorem c61:chkFun Tryz.prog 61 f61=true:=by kernel_rfl
theorem c62:chkFun Tryz.prog 62 f62=true:=by kernel_rfl
theorem c41:chkFun Tryz.prog 41 f41=true:=by kernel_rfl
theorem c75:chkFun Tryz.prog 75 f75=true:=by kernel_rfl
theorem c56:chkFun Tryz.prog 56 f56=true:=by kernel_rfl
theorem c63:chkFun Tryz.prog 63 f63=true:=by kernel_rfl
theorem c15:chkFun Tryz.prog 15 f15=true:=by kernel_rfl
theorem c64:chkFun Tryz.prog 64 f64=true:=by kernel_rfl
theorem c42:chkFun Tryz.prog 42 f42=true:=by kernel_rfl
theorem c43:chkFun Tryz.prog 43 f43=true:=by kernel_rfl
theorem c17:chkFun Tryz.prog 17 f17=true:=by kernel_rfl
theorem c19:chkFun Tryz.prog 19 f19=true:=by kernel_rfl
theorem c29:chkFun Tryz.prog 29 f29=true:=by kernel_rfl
theorem c18:chkFun Tryz.prog 18 f18=true:=by kernel_rfl
theorem c30:chkFun Tryz.prog 30 f30=true:=by kernel_rfl
theorem c31:chkFun Tryz.prog 31 f31=true:=by kernel_rfl
theorem c11:chkFun Tryz.prog 11 f11=true:=by kernel_rfl
theorem c49:chkFun Tryz.prog 49 f49=true:=by kernel_rfl
theorem c95:chkFun Tryz.prog 95 f95=true:=by kernel_rfl
theorem c96:chkFun Tryz.prog 96 f96=true:=by kernel_rfl
theorem c74:chkFun Tryz.prog 74 f74=true:=by kernel_rfl
theorem c55:chkFun Tryz.prog 55 f55=true:=by kernel_rfl
theorem c35:chkFun Tryz.prog 35 f35=true:=by kernel_rfl
theorem c12:chkFun Tryz.prog 12 f12=true:=by kernel_rfl
theorem c21:chkFun Tryz.prog 21 f21=true:=by kernel_rfl
theorem c36:chkFun Tryz.prog 36 f36=true:=by kernel_rfl
theorem c13:chkFun Tryz.prog 13 f13=true:=by kernel_rfl
theorem c14:chkFun Tryz.prog 14 f14=true:=by kernel_rfl
theorem c37:chkFun Tryz.prog 37 f37=true:=by kernel_rfl
theorem c16:chkFun Tryz.prog 16 f16=true:=by kernel_rfl
theorem c3:chkFun Tryz.prog 3 f3=true:=by kernel_rfl
theorem c4:chkFun Tryz.prog 4 f4=true:=by kernel_rfl
theorem c23:chkFun Tryz.prog 23 f23=true:=by kernel_rfl
theorem c6:chkFun Tryz.prog 6 f6=true:=by kernel_rfl
theorem c7:chkFun Tryz.prog 7 f7=true:=by kernel_rfl
theorem c50:chkFun Tryz.prog 50 f50=true:=by kernel_rfl
theorem c24:chkFun Tryz.prog 24 f24=true:=by kernel_rfl
theorem c8:chkFun Tryz.prog 8 f8=true:=by kernel_rfl
def tab:List (Nat × AFun):=[(9,f9),(25,f25),(72,f72),(84,f84),(67,f67),(102,f102),(81,f81),(155,f155),(156,f156),(129,f129),(54,f54),(33,f33),(109,f109),(167,f167),(168,f168),(143,f143),(110,f110),(83,f83),(130,f130),(103,f103),(87,f87),(69,f69),(131,f131),(104,f104),(157,f157),(132,f132),(133,f133),(105,f105),(134,f134),(106,f106),(158,f158),(135,f135),(136,f136),(107,f107),(150,f150),(119,f119),(159,f159),(137,f137),(138,f138),(179,f179),(160,f160),(161,f161),(139,f139),(180,f180),(162,f162),(163,f163),(164,f164),(140,f140),(181,f181),(165,f165),(166,f166),(141,f141),(142,f142),(108,f108),(82,f82),(65,f65),(66,f66),(85,f85),(86,f86),(68,f68),(111,f111),(88,f88),(71,f71),(70,f70),(46,f46),(53,f53),(116,f116),(148,f148),(117,f117),(149,f149),(118,f118),(91,f91),(120,f120),(205,f205),(195,f195),(189,f189),(198,f198),(199,f199),(178,f178),(201,f201),(202,f202),(206,f206),(204,f204),(203,f203),(177,f177),(151,f151),(152,f152),(121,f121),(122,f122),(92,f92),(153,f153),(123,f123),(124,f124),(154,f154),(125,f125),(93,f93),(47,f47),(94,f94),(73,f73),(51,f51),(26,f26),(32,f32),(27,f27),(34,f34),(48,f48),(52,f52),(28,f28),(10,f10),(20,f20),(40,f40),(101,f101),(80,f80),(79,f79),(60,f60),(39,f39),(44,f44),(58,f58),(59,f59),(45,f45),(126,f126),(127,f127),(97,f97),(98,f98),(76,f76),(77,f77),(99,f99),(128,f128),(100,f100),(78,f78),(57,f57),(38,f38),(61,f61),(62,f62),(41,f41),(75,f75),(56,f56),(63,f63),(15,f15),(64,f64),(42,f42),(43,f43),(17,f17),(19,f19),(29,f29),(18,f18),(30,f30),(31,f31),(11,f11),(49,f49),(95,f95),(96,f96),(74,f74),(55,f55),(35,f35),(12,f12),(21,f21),(36,f36),(13,f13),(14,f14),(37,f37),(16,f16),(3,f3),(4,f4),(23,f23),(6,f6),(7,f7),(50,f50),(24,f24),(8,f8)]
def look (f:Nat):List (Nat × AFun)→Option AFun
 | []=>none
 | (g,a) :: l=>bif Nat.beq f g then some a else look f l
theorem look_mem {f:Nat} {a:AFun}:∀ {l:List (Nat × AFun)},look f l=some a→(f,a) ∈ l
 | [],h=>by simp [look] at h
 | (g,b) :: l,h=>by
  simp only [look] at h
  cases hb:Nat.beq f g with
  | true=>rw [hb] at h;have:=Nat.eq_of_beq_eq_true hb;subst this;simp only [cond_true,Option.some.injEq] at h;subst h;exact List.mem_cons_self
  | false=>rw [hb] at h;exact List.mem_cons_of_mem _ (look_mem h)
def fns (f:Nat):Option AFun:=look f tab
theorem t9:fns 9=some f9:=rfl
theorem t25:fns 25=some f25:=rfl
theorem t84:fns 84=some f84:=rfl
theorem t67:fns 67=some f67:=rfl
theorem t102:fns 102=some f102:=rfl
theorem t81:fns 81=some f81:=rfl
theorem t155:fns 155=some f155:=rfl
theorem t156:fns 156=some f156:=rfl
theorem t129:fns 129=some f129:=rfl
theorem t54:fns 54=some f54:=rfl
theorem t33:fns 33=some f33:=rfl
theorem t83:fns 83=some f83:=rfl
theorem t130:fns 130=some f130:=rfl
theorem t103:fns 103=some f103:=rfl
theorem t87:fns 87=some f87:=rfl
theorem t69:fns 69=some f69:=rfl
theorem t131:fns 131=some f131:=rfl
theorem t104:fns 104=some f104:=rfl
theorem t157:fns 157=some f157:=rfl
theorem t132:fns 132=some f132:=rfl
theorem t133:fns 133=some f133:=rfl
theorem t105:fns 105=some f105:=rfl
theorem t134:fns 134=some f134:=rfl
theorem t106:fns 106=some f106:=rfl
theorem t158:fns 158=some f158:=rfl
theorem t135:fns 135=some f135:=rfl
theorem t136:fns 136=some f136:=rfl
theorem t107:fns 107=some f107:=rfl
theorem t150:fns 150=some f150:=rfl
theorem t119:fns 119=some f119:=rfl
theorem t159:fns 159=some f159:=rfl
theorem t137:fns 137=some f137:=rfl
theorem t138:fns 138=some f138:=rfl
theorem t179:fns 179=some f179:=rfl
theorem t160:fns 160=some f160:=rfl
theorem t161:fns 161=some f161:=rfl
theorem t139:fns 139=some f139:=rfl
theorem t180:fns 180=some f180:=rfl
theorem t162:fns 162=some f162:=rfl
theorem t163:fns 163=some f163:=rfl
theorem t164:fns 164=some f164:=rfl
theorem t140:fns 140=some f140:=rfl
theorem t181:fns 181=some f181:=rfl
theorem t165:fns 165=some f165:=rfl
theorem t166:fns 166=some f166:=rfl
theorem t141:fns 141=some f141:=rfl
theorem t142:fns 142=some f142:=rfl
theorem t108:fns 108=some f108:=rfl
theorem t82:fns 82=some f82:=rfl
theorem t65:fns 65=some f65:=rfl
theorem t66:fns 66=some f66:=rfl
theorem t85:fns 85=some f85:=rfl
theorem t86:fns 86=some f86:=rfl
theorem t68:fns 68=some f68:=rfl
theorem t111:fns 111=some f111:=rfl
theorem t88:fns 88=some f88:=rfl
theorem t71:fns 71=some f71:=rfl
theorem t70:fns 70=some f70:=rfl
theorem t46:fns 46=some f46:=rfl
theorem t53:fns 53=some f53:=rfl
theorem t116:fns 116=some f116:=rfl
theorem t117:fns 117=some f117:=rfl
theorem t118:fns 118=some f118:=rfl
theorem t91:fns 91=some f91:=rfl
theorem t120:fns 120=some f120:=rfl
theorem t205:fns 205=some f205:=rfl
theorem t195:fns 195=some f195:=rfl
theorem t189:fns 189=some f189:=rfl
theorem t178:fns 178=some f178:=rfl
theorem t177:fns 177=some f177:=rfl
theorem t151:fns 151=some f151:=rfl
theorem t152:fns 152=some f152:=rfl
theorem t121:fns 121=some f121:=rfl
theorem t122:fns 122=some f122:=rfl
theorem t92:fns 92=some f92:=rfl
theorem t153:fns 153=some f153:=rfl
theorem t123:fns 123=some f123:=rfl
theorem t124:fns 124=some f124:=rfl
theorem t154:fns 154=some f154:=rfl
theorem t125:fns 125=some f125:=rfl
theorem t93:fns 93=some f93:=rfl
theorem t47:fns 47=some f47:=rfl
theorem t94:fns 94=some f94:=rfl
theorem t73:fns 73=some f73:=rfl
theorem t51:fns 51=some f51:=rfl
theorem t26:fns 26=some f26:=rfl
theorem t32:fns 32=some f32:=rfl
theorem t27:fns 27=some f27:=rfl
theorem t34:fns 34=some f34:=rfl
theorem t48:fns 48=some f48:=rfl
theorem t52:fns 52=some f52:=rfl
theorem t28:fns 28=some f28:=rfl
theorem t10:fns 10=some f10:=rfl
theorem t20:fns 20=some f20:=rfl
theorem t40:fns 40=some f40:=rfl
theorem t101:fns 101=some f101:=rfl
theorem t80:fns 80=some f80:=rfl
theorem t79:fns 79=some f79:=rfl
theorem t60:fns 60=some f60:=rfl
theorem t39:fns 39=some f39:=rfl
theorem t44:fns 44=some f44:=rfl
theorem t58:fns 58=some f58:=rfl
theorem t59:fns 59=some f59:=rfl
theorem t45:fns 45=some f45:=rfl
theorem t126:fns 126=some f126:=rfl
theorem t127:fns 127=some f127:=rfl
theorem t97:fns 97=some f97:=rfl
theorem t98:fns 98=some f98:=rfl
theorem t76:fns 76=some f76:=rfl
theorem t77:fns 77=some f77:=rfl
theorem t99:fns 99=some f99:=rfl
theorem t128:fns 128=some f128:=rfl
theorem t100:fns 100=some f100:=rfl
theorem t78:fns 78=some f78:=rfl
theorem t57:fns 57=some f57:=rfl
theorem t38:fns 38=some f38:=rfl
theorem t61:fns 61=some f61:=rfl
theorem t62:fns 62=some f62:=rfl
theorem t41:fns 41=some f41:=rfl
theorem t75:fns 75=some f75:=rfl
theorem t56:fns 56=some f56:=rfl
theorem t63:fns 63=some f63:=rfl
theorem t15:fns 15=some f15:=rfl
theorem t64:fns 64=some f64:=rfl
theorem t42:fns 42=some f42:=rfl
theorem t43:fns 43=some f43:=rfl
theorem t17:fns 17=some f17:=rfl
theorem t19:fns 19=some f19:=rfl
theorem t29:fns 29=some f29:=rfl
theorem t18:fns 18=some f18:=rfl
theorem t30:fns 30=some f30:=rfl
theorem t31:fns 31=some f31:=rfl
theorem t11:fns 11=some f11:=rfl
theorem t49:fns 49=some f49:=rfl
theorem t55:fns 55=some f55:=rfl
theorem t35:fns 35=some f35:=rfl
theorem t12:fns 12=some f12:=rfl
theorem t21:fns 21=some f21:=rfl
theorem t36:fns 36=some f36:=rfl
theorem t13:fns 13=some f13:=rfl
theorem t14:fns 14=some f14:=rfl
theorem t37:fns 37=some f37:=rfl
theorem t16:fns 16=some f16:=rfl
theorem t3:fns 3=some f3:=rfl
theorem t4:fns 4=some f4:=rfl
theorem t23:fns 23=some f23:=rfl
theorem t6:fns 6=some f6:=rfl
theorem t7:fns 7=some f7:=rfl
theorem t50:fns 50=some f50:=rfl
theorem t24:fns 24=some f24:=rfl
theorem t8:fns 8=some f8:=rfl
theorem tab_ok:∀ p ∈ tab,chkFun Tryz.prog p.1 p.2=true:=by
 simp only [tab,List.forall_mem_cons]
 exact ⟨c9,c25,c72,c84,c67,c102,c81,c155,c156,c129,c54,c33,c109,c167,c168,c143,c110,c83,c130,c103,c87,c69,c131,c104,c157,c132,c133,c105,c134,c106,c158,c135,c136,c107,c150,c119,c159,c137,c138,c179,c160,c161,c139,c180,c162,c163,c164,c140,c181,c165,c166,c141,c142,c108,c82,c65,c66,c85,c86,c68,c111,c88,c71,c70,c46,c53,c116,c148,c117,c149,c118,c91,c120,c205,c195,c189,c198,c199,c178,c201,c202,c206,c204,c203,c177,c151,c152,c121,c122,c92,c153,c123,c124,c154,c125,c93,c47,c94,c73,c51,c26,c32,c27,c34,c48,c52,c28,c10,c20,c40,c101,c80,c79,c60,c39,c44,c58,c59,c45,c126,c127,c97,c98,c76,c77,c99,c128,c100,c78,c57,c38,c61,c62,c41,c75,c56,c63,c15,c64,c42,c43,c17,c19,c29,c18,c30,c31,c11,c49,c95,c96,c74,c55,c35,c12,c21,c36,c13,c14,c37,c16,c3,c4,c23,c6,c7,c50,c24,c8,by simp⟩
theorem fns_ok (f:Nat) (af:AFun) (h:fns f=some af):chkFun Tryz.prog f af=true:=tab_ok _ (look_mem h)
theorem once_ok (f:Nat) (af:AFun) (h:fns f=some af) (ho:af.once=true):OnceLaw Tryz.prog (fnOf f):=by
 have:=List.all_eq_true.mp (by rfl:tab.all (fun p=>!p.2.once || Nat.beq p.1 72)=true) _ (look_mem h)
 simp only [ho,Bool.not_true,Bool.false_or] at this
 rw [Nat.eq_of_beq_eq_true this];exact onceLaw
theorem run_ok (n:Nat):Sound Tryz.prog (evf fns n):=evf_sound rfl fns_ok once_ok n
end Go.Proofs.YteeofkbhopioiaaGreatDoor.Am
