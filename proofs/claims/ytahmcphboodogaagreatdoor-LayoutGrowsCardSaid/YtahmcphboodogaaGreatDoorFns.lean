/- Lemmas that the rows' proofs rest on; each states its own conditions. -/
import Derived.Test.YtahmcphboodogaaGreatDoorFnsA
import Derived.Test.YtahmcphboodogaaGreatDoorOnce
import Derived.Test.YtahmcphboodogaaGreatDoorMachF
import Derived.Test.YtahmcphboodogaaGreatDoorProg
import Derived.KernelRfl
namespace Go.Proofs.YtahmcphboodogaaGreatDoor.Am
open Go
set_option maxRecDepth 100000
def f3:AFun:=⟨3,
 (.seq (xR [xB 3 0,xA 6 (.mov .own xU)] [1,2,3])
 (.seq (.seq (xR [xQ 23 1 3,xA 24 (.callb 10 [(.t 23)]),xM 25 24,xMF 26 1 25,xAF 27 (.len 1 (.t 26)) 25,xAF 28 (.bin .gtr (.t 27) (xi 60)) 25,xA 29 (.pick (.t 25) xT (.t 28)),xM 30 29,xMF 31 2 30,xAF 32 (.len 1 (.t 31)) 30,xAF 33 (.bin .gtr (.t 32) (xi 60)) 30,xA 34 (.pick (.t 30) xT (.t 33))] [1,2,3,34])
 (.cond (.t 34)
 (.seq (xR [xA 6 (.mov .own xT)] [6])
 .ret)
 .skip))
 (.seq (xR [xQ 35 1 3,xA 36 (.callb 11 [(.t 35)]),xA 7 (.alloc [(.osl 6 [])]),xS 1 7 36] [1,2,3,7])
 (.seq (xR [xQ 37 1 3,xA 38 (.callb 12 [(.t 37)]),xM 8 38] [1,2,3,7,8])
 (.seq (xR [xQ 40 1 7,xM 41 1,xA 42 (.callb 13 [(.t 40),(.t 41)]),xO 39 42,xE 43 0 39,xE 44 1 39,xM 9 43,xM 10 44] [1,2,3,7,8,9,10])
 (.seq (xR [xQ 46 1 7,xA 47 (.callb 14 [(.t 46)]),xO 45 47,xE 48 0 45,xE 49 1 45,xM 11 48,xM 12 49] [1,2,3,7,8,9,10,11,12])
 (.seq (xR [xQ 51 1 7,xM 52 1,xM 53 2,xA 54 (.callb 15 [(.t 51),(.t 52),(.t 53)]),xO 50 54,xE 55 0 50,xE 56 1 50,xE 57 2 50,xA 14 (.alloc [xa,xb,xb,(.osl 2 []),xc,xa,xc,(.osl 4 []),(.osl 4 [])]),xM 13 55,xS 9 14 56,xM 15 57] [1,2,3,7,8,9,10,11,12,13,14,15])
 (.seq (xR [xQ 59 1 7,xM 60 1,xM 61 2,xA 62 (.callb 16 [(.t 59),(.t 60),(.t 61)]),xO 58 62,xE 63 0 58,xE 64 1 58,xA 16 (.alloc [xa,xb,xb,(.osl 2 []),xc,xa,xc,(.osl 4 []),(.osl 4 [])]),xS 9 16 63,xM 17 64] [1,2,3,7,8,9,10,11,12,13,14,15,16,17])
 (.seq (.seq (xR [xQ 65 1 7,xA 66 (.callb 17 [(.t 65)]),xM 67 8,xA 68 (.bin .neq (.t 66) (.t 67)),xM 69 68,xMF 70 12 69,xMF 71 8 69,xAF 72 (.bin .neq (.t 70) (.t 71)) 69,xA 73 (.pick (.t 69) xT (.t 72)),xM 74 73,xAF 75 (.ld .cp (some 1) (.t 7)) 74,xAF 76 (.ld .cp (some 1) (.t 3)) 74,xAF 77 (.callb 18 [(.t 75),(.t 76)]) 74,xNF 78 77 74,xA 79 (.pick (.t 74) xT (.t 78))] [1,2,3,8,9,10,11,13,14,15,16,17,79])
 (.cond (.t 79)
 (.seq (xR [xA 6 (.mov .own xU)] [6])
 .ret)
 .skip))
 (.seq (xR [xA 80 (.build [xa,xb,xb,(.osl 2 []),xc,xa,xc,(.osl 4 []),(.osl 4 [])] []),xA 18 (.alloc [xa,xb,xb,(.osl 2 []),xc,xa,xc,(.osl 4 []),(.osl 4 [])]),xS 9 18 80] [1,2,3,8,9,10,11,13,14,15,16,17,18])
 (.seq (.seq (xR [xM 81 8,xA 82 (.bin .neq (.t 81) (xi 0))] [1,2,3,8,9,10,11,13,14,15,16,17,18,82])
 (.cond (.t 82)
 (.seq (xR [xM 83 10,xM 84 8,xA 85 (.bin .eql (.t 83) (.t 84)),xM 86 85,xMT 87 9 86,xAT 88 (.len 0 (.t 87)) 86,xMT 89 11 86,xAT 90 (.len 0 (.t 89)) 86,xAT 91 (.bin .add (.t 88) (.t 90)) 86,xAT 92 (.bin .eql (.t 91) (xi 0)) 86,xA 93 (.pick (.t 86) (.t 92) xU),xM 94 93,xMT 95 15 94,xNT 96 95 94,xA 97 (.pick (.t 94) (.t 96) xU),xM 98 97,xMT 99 17 98,xNT 100 99 98,xA 101 (.pick (.t 98) (.t 100) xU),xM 102 101,xMT 103 13 102,xAT 104 (.bin .eql (.t 103) (xs ⟨#[]⟩)) 102,xA 105 (.pick (.t 102) (.t 104) xU),xM 106 105,xAT 107 (.ld .cp (some 9) (.t 14)) 106,xAT 108 (.ld .cp (some 9) (.t 18)) 106,xAT 109 (.callb 19 [(.t 107),(.t 108)]) 106,xA 110 (.pick (.t 106) (.t 109) xU),xM 111 110,xAT 112 (.ld .cp (some 9) (.t 16)) 111,xAT 113 (.ld .cp (some 9) (.t 18)) 111,xAT 114 (.callb 19 [(.t 112),(.t 113)]) 111,xA 115 (.pick (.t 111) (.t 114) xU),xM 116 115,xAT 117 (.callb 20 []) 116,xA 118 (.pick (.t 116) (.t 117) xU),xO 6 118] [6])
 .ret)
 .skip))
 (.seq (.seq (xR [xM 119 11,xQ 120 1 3,xA 121 (.callb 22 [(.t 120)]),xA 122 (.callb 21 [(.t 119),(.t 121)]),xN 123 122] [1,2,3,9,10,13,14,15,16,17,123])
 (.cond (.t 123)
 (.seq (xR [xA 6 (.mov .own xU)] [6])
 .ret)
 .skip))
 (.seq (.seq (xR [xQ 124 1 3,xM 125 1,xA 126 (.callb 23 [(.t 124),(.t 125)]),xN 127 126] [1,2,3,9,10,13,14,15,16,17,127])
 (.cond (.t 127)
 (.seq (xR [xM 128 10,xA 129 (.bin .neq (.t 128) (xi 5)),xM 130 129,xMF 131 9 130,xAF 132 (.len 0 (.t 131)) 130,xAF 133 (.bin .gtr (.t 132) (xi 0)) 130,xA 134 (.pick (.t 130) xT (.t 133)),xM 135 134,xMF 136 15 135,xA 137 (.pick (.t 135) xT (.t 136)),xM 138 137,xMF 139 13 138,xAF 140 (.bin .neq (.t 139) (xs ⟨#[]⟩)) 138,xA 141 (.pick (.t 138) xT (.t 140))] [1,2,3,16,17,141])
 (.cond (.t 141)
 (.seq (xR [xA 6 (.mov .own xU)] [6])
 .ret)
 .skip))
 (.seq (xR [xQ 143 1 3,xM 144 1,xM 145 2,xA 146 (.callb 24 [(.t 143),(.t 144),(.t 145)]),xO 142 146,xE 147 0 142,xE 148 1 142,xA 20 (.alloc [xa,xb,xb,(.osl 2 []),xc,xa,xc,(.osl 4 []),(.osl 4 [])]),xM 19 147,xS 9 20 148] [1,2,3,9,10,13,14,15,16,17,19,20])
 (.seq (xR [xM 149 10,xA 150 (.bin .neq (.t 149) (xi 0)),xM 151 150,xMF 152 9 151,xAF 153 (.ld .cp (some 1) (.t 3)) 151,xMF 154 1 151,xAF 155 (.callb 25 [(.t 153),(.t 154)]) 151,xAF 156 (.callb 21 [(.t 152),(.t 155)]) 151,xNF 157 156 151,xA 158 (.pick (.t 151) xT (.t 157)),xM 159 158,xMF 160 15 159,xMF 161 19 159,xAF 162 (.bin .neq (.t 161) (xs ⟨#[]⟩)) 159,xAF 163 (.eq true 0 [] (.t 160) (.t 162)) 159,xA 164 (.pick (.t 159) xT (.t 163)),xM 165 164,xMF 166 13 165,xMF 167 19 165,xAF 168 (.bin .neq (.t 166) (.t 167)) 165,xA 169 (.pick (.t 165) xT (.t 168)),xM 170 169,xAF 171 (.ld .cp (some 9) (.t 14)) 170,xAF 172 (.ld .cp (some 9) (.t 20)) 170,xAF 173 (.callb 19 [(.t 171),(.t 172)]) 170,xNF 174 173 170,xA 175 (.pick (.t 170) xT (.t 174))] [1,2,3,16,17,175])
 (.cond (.t 175)
 (.seq (xR [xA 6 (.mov .own xU)] [6])
 .ret)
 .skip)))))
 (.seq (xR [xQ 177 1 3,xM 178 1,xM 179 2,xA 180 (.callb 26 [(.t 177),(.t 178),(.t 179)]),xO 176 180,xE 181 0 176,xE 182 1 176,xA 21 (.alloc [xa,xb,xb,(.osl 2 []),xc,xa,xc,(.osl 4 []),(.osl 4 [])]),xS 9 21 181,xM 22 182] [16,17,21,22])
 (.seq (xR [xM 183 17,xM 184 22,xA 185 (.eq false 0 [] (.t 183) (.t 184)),xM 186 185,xAT 187 (.ld .cp (some 9) (.t 16)) 186,xAT 188 (.ld .cp (some 9) (.t 21)) 186,xAT 189 (.callb 19 [(.t 187),(.t 188)]) 186,xA 190 (.pick (.t 186) (.t 189) xU),xM 191 190,xAT 192 (.callb 20 []) 191,xA 193 (.pick (.t 191) (.t 192) xU),xO 6 193] [6])
 .ret))))))))))))))),[(.tmp 6)],.pure,false,false⟩
def f5_b0:ACode:=(.wrap true [1,3,4,5,6,7,8,9] [2] [(2,[1,3,4,5,6,7,8])]
 (.seq (.seq (xR [xM 37 9,xF 38 4 7,xL 39 38,xH 40 39,xA 41 (.bin .lss (.t 37) (.t 40))] [1,3,4,5,6,7,8,9,41])
 (.cond (.t 41)
 .skip
 (.exit 2)))
 (.seq (.block 3 (.seq (xR [xF 44 4 7,xL 45 44,xM 46 9,xI 47 4 45 46,xF 48 3 47,xL 49 48] [1,3,4,5,6,7,8,9,49])
 (.cond (.t 49)
 (xG [xO 50 5,xF 51 0 7,xL 52 51,xF 53 4 7,xL 54 53,xM 55 9,xI 56 4 54 55,xF 57 0 56,xL 58 57,xF 59 4 7,xL 60 59,xM 61 9,xI 62 4 60 61,xF 63 1 62,xQ 64 2 63,xA 65 (.build [xa,xa,xc,xa] [(0,1,(.t 52)),(1,1,(.t 58)),(2,2,(.t 64))]),xA 66 (.bsl .own 4 1 [xa,xa,xc,xa] [(0,(.t 65))]),xA 67 (.app 4 56 (.t 50) (.t 66)),xO 5 67] [1,3,4,5,6,7,8,9])
 (xR [xM 68 8,xA 69 (.bin .add (.t 68) (xi 1)),xM 8 69] [1,3,4,5,6,7,8,9]))))
 (xR [xM 42 9,xA 43 (.bin .add (.t 42) (xi 1)),xM 9 43] [1,3,4,5,6,7,8,9]))))
def f5_l0:ACode:=.loop f5_b0
theorem u5_l0:LpEq f5_l0 f5_b0:=Jaj
def f5_b1:ACode:=(.wrap true [1,3,4,5,6,7,8,10,12] [2] [(4,[1,3,4,5,6,8])]
 (.seq (.seq (xR [xM 87 12,xM 88 10,xH 89 88,xA 90 (.bin .lss (.t 87) (.t 89))] [1,3,4,5,6,7,8,10,12,90])
 (.cond (.t 90)
 .skip
 (.exit 4)))
 (.seq (.block 5 (.seq (xG [xM 93 10,xM 94 12,xI 95 4 93 94,xF 96 0 95,xL 97 96,xF 98 0 7,xL 99 98,xA 100 (.bin .eql (.t 97) (.t 99))] [1,3,4,5,6,7,8,10,12,100])
 (.cond (.t 100)
 (xR [xM 101 8,xA 102 (.bin .sub (.t 101) (xi 1)),xM 8 102] [1,3,4,5,6,7,8,10,12])
 .skip)))
 (xR [xM 91 12,xA 92 (.bin .add (.t 91) (xi 1)),xM 12 92] [1,3,4,5,6,7,8,10,12]))))
def f5_l1:ACode:=.loop f5_b1
theorem u5_l1:LpEq f5_l1 f5_b1:=Jaj
def f5_b2:ACode:=(.wrap true [1,3,4,5,6] [2] [(0,[3,4,5])]
 (.seq (.seq (xR [xM 25 6,xF 26 0 1,xL 27 26,xH 28 27,xA 29 (.bin .lss (.t 25) (.t 28))] [1,3,4,5,6,29])
 (.cond (.t 29)
 .skip
 (.exit 0)))
 (.seq (.block 1 (.seq (xR [xF 32 0 1,xL 33 32,xM 34 6,xI 35 6 33 34,xQ 36 6 35,xA 7 (.alloc [xa,xb,xa,(.osl 1 []),(.osl 4 []),(.osl 9 [])]),xS 6 7 36] [1,3,4,5,6,7])
 (.seq (xR [xA 8 (.mov .cp (xi 0))] [1,3,4,5,6,7,8])
 (.seq (.seq (xR [xA 9 (.mov .cp (xi 0))] [1,3,4,5,6,7,8,9])
 (.block 2 f5_l0))
 (.seq (.seq (xR [xF 70 1 7,xL 71 70] [1,3,4,5,6,7,8,71])
 (.cond (.t 71)
 (.exit 1)
 .skip))
 (.seq (xR [xQ 73 1 1,xF 74 0 7,xL 75 74,xA 76 (.callb 13 [(.t 73),(.t 75)]),xO 72 76,xE 77 0 72,xE 78 1 72,xM 10 77,xM 11 78] [1,3,4,5,6,7,8,10,11])
 (.seq (.seq (xR [xM 79 11,xA 80 (.bin .neq (.t 79) (xi 0)),xM 81 80,xMF 82 10 81,xAF 83 (.len 0 (.t 82)) 81,xMF 84 8 81,xAF 85 (.bin .lss (.t 83) (.t 84)) 81,xA 86 (.pick (.t 81) xT (.t 85))] [1,3,4,5,6,7,8,10,86])
 (.cond (.t 86)
 (.seq (xR [xA 2 (.mov .own xU)] [2])
 .ret)
 .skip))
 (.seq (.seq (xR [xA 12 (.mov .cp (xi 0))] [1,3,4,5,6,7,8,10,12])
 (.block 4 f5_l1))
 (.seq (xR [xM 103 8,xA 104 (.bin .neq (.t 103) (xi 0))] [1,3,4,5,6,104])
 (.cond (.t 104)
 (.seq (xR [xA 2 (.mov .own xU)] [2])
 .ret)
 .skip))))))))))
 (xR [xM 30 6,xA 31 (.bin .add (.t 30) (xi 1)),xM 6 31] [1,3,4,5,6]))))
def f5_l2:ACode:=.loop f5_b2
theorem u5_l2:LpEq f5_l2 f5_b2:=Jaj
def f5:AFun:=⟨1,
 (.seq (xR [xB 1 0,xA 2 (.mov .own xU)] [1])
 (.seq (.seq (xR [xQ 13 1 1,xA 14 (.callb 10 [(.t 13)]),xM 15 14,xAF 16 (.ld .cp (some 1) (.t 1)) 15,xAF 17 (.callb 12 [(.t 16)]) 15,xAF 18 (.bin .neq (.t 17) (xi 0)) 15,xA 19 (.pick (.t 15) xT (.t 18))] [1,19])
 (.cond (.t 19)
 (.seq (xR [xA 2 (.mov .own xT)] [2])
 .ret)
 .skip))
 (.seq (xR [xQ 21 1 1,xA 22 (.callb 14 [(.t 21)]),xO 20 22,xE 23 0 20,xE 24 1 20,xM 3 23,xM 4 24] [1,3,4])
 (.seq (xR [xA 5 (.mov .own (.k (.c (.osl 4 []))))] [1,3,4,5])
 (.seq (.seq (xR [xA 6 (.mov .cp (xi 0))] [1,3,4,5,6])
 (.block 0 f5_l2))
 (.seq (xR [xM 105 4,xA 106 (.bin .eql (.t 105) (xi 0)),xM 107 106,xMT 108 3 107,xMT 109 5 107,xAT 110 (.callb 21 [(.t 108),(.t 109)]) 107,xA 111 (.pick (.t 107) (.t 110) xU),xM 112 111,xAT 113 (.callb 20 []) 112,xA 114 (.pick (.t 112) (.t 113) xU),xO 2 114] [2])
 .ret)))))),[(.tmp 2)],.pure,false,false⟩
def f28:AFun:=⟨1,
 (.seq (xR [xA 2 (.mov .own (.k (.c (.osl 4 []))))] [0])
 (.seq (xR [xM 3 0,xA 4 (.build [xc,xc,xa,xa] [(0,1,(xi 1)),(1,1,(.t 3))]),xA 5 (.build [xc,xc,xa,xa] [(0,1,(xi 41))]),xA 6 (.bsl .own 4 2 [xc,xc,xa,xa] [(0,(.t 4)),(1,(.t 5))]),xO 2 6] [2])
 .ret)),[(.tmp 2)],.pure,false,false⟩
def f6:AFun:=⟨1,
 (.seq (xR [xA 2 (.mov .own xU)] [0])
 (.seq (xR [xA 15 (.build [xc,xa] [(0,1,(xi 2))]),xA 3 (.alloc [xc,xa]),xS 2 3 15] [0,3])
 (.seq (xG [xQ 16 2 3,xA 17 (.callb 28 [(xi 1)]),xA 18 (.build [xa,xb,xb,(.osl 2 []),xc,xa,xc,(.osl 4 []),(.osl 4 [])] [(0,1,(xs ⟨#[102]⟩)),(4,2,(.t 16)),(6,1,(xi 1)),(7,1,(.t 17))]),xA 4 (.alloc [xa,xb,xb,(.osl 2 []),xc,xa,xc,(.osl 4 []),(.osl 4 [])]),xS 9 4 18] [0,3,4])
 (.seq (xG [xQ 19 2 3,xA 20 (.callb 28 [(xi 2)]),xA 21 (.build [xa,xb,xb,(.osl 2 []),xc,xa,xc,(.osl 4 []),(.osl 4 [])] [(0,1,(xs ⟨#[102]⟩)),(4,2,(.t 19)),(6,1,(xi 1)),(7,1,(.t 20))]),xA 5 (.alloc [xa,xb,xb,(.osl 2 []),xc,xa,xc,(.osl 4 []),(.osl 4 [])]),xS 9 5 21] [0,3,4,5])
 (.seq (xR [xA 6 (.mov .cp (xi 0))] [0,3,4,5,6])
 (.seq (.seq (xR [xM 22 0,xA 23 (.conv .u64 (.t 22)),xA 24 (.bin .rem (.t 23) (.k (.c (.b (.d (.int .u64 3))))))] [3,4,5,6,24])
 (.block 0 (.seq (xR [xA 26 (.bin .eql (.t 24) (.k (.c (.b (.d (.int .u64 1)))))),xM 25 26] [3,4,5,6,24,25])
 (.cond (.t 25)
 (xR [xA 27 (.build [xc,xa] [(0,1,(xi 3)),(1,1,(xs ⟨#[65]⟩))]),xF 28 4 5,xS 2 28 27,xA 6 (.mov .cp (xi 8))] [4,5,6])
 (.seq (xR [xA 30 (.bin .eql (.t 24) (.k (.c (.b (.d (.int .u64 2)))))),xM 29 30] [3,4,5,6,29])
 (.cond (.t 29)
 (xR [xQ 31 2 3,xA 32 (.bsl .own 2 1 [xc,xa] [(0,(.t 31))]),xF 33 3 5,xS 1 33 32,xA 6 (.mov .cp (xi 8))] [4,5,6])
 .skip))))))
 (.seq (xR [xQ 34 9 4,xA 35 (.bsl .own 9 1 [xa,xb,xb,(.osl 2 []),xc,xa,xc,(.osl 4 []),(.osl 4 [])] [(0,(.t 34))]),xA 36 (.build [xa,xb,xa,(.osl 1 []),(.osl 4 []),(.osl 9 [])] [(0,1,(xs ⟨#[65]⟩)),(5,1,(.t 35))]),xQ 37 9 5,xA 38 (.bsl .own 9 1 [xa,xb,xb,(.osl 2 []),xc,xa,xc,(.osl 4 []),(.osl 4 [])] [(0,(.t 37))]),xA 39 (.build [xa,xb,xa,(.osl 1 []),(.osl 4 []),(.osl 9 [])] [(0,1,(xs ⟨#[66]⟩)),(2,1,(xs ⟨#[65]⟩)),(5,1,(.t 38))]),xA 40 (.build [xa,xb,xa,(.osl 1 []),(.osl 4 []),(.osl 9 [])] [(0,1,(xs ⟨#[67]⟩)),(2,1,(xs ⟨#[66]⟩))]),xA 41 (.bsl .own 6 3 [xa,xb,xa,(.osl 1 []),(.osl 4 []),(.osl 9 [])] [(0,(.t 36)),(1,(.t 39)),(2,(.t 40))]),xA 42 (.build [(.osl 6 [])] [(0,1,(.t 41))]),xA 7 (.alloc [(.osl 6 [])]),xS 1 7 42] [6,7])
 (.seq (.seq (xR [xQ 43 1 7,xA 44 (.callb 17 [(.t 43)]),xM 8 44] [6,7,8])
 (.seq (xR [xM 45 8,xM 46 6,xA 47 (.bin .neq (.t 45) (.t 46))] [6,7,47])
 (.cond (.t 47)
 (.seq (xR [xA 2 (.mov .own xU)] [2])
 .ret)
 .skip)))
 (.seq (xR [xQ 49 1 7,xA 50 (.callb 15 [(.t 49),(xs ⟨#[67]⟩),(xs ⟨#[102]⟩)]),xO 48 50,xE 51 0 48,xE 52 1 48,xE 53 2 48,xA 10 (.alloc [xa,xb,xb,(.osl 2 []),xc,xa,xc,(.osl 4 []),(.osl 4 [])]),xM 9 51,xS 9 10 52,xM 11 53] [6,7,9,10,11])
 (.seq (.seq (xR [xM 54 6,xA 55 (.bin .neq (.t 54) (xi 0))] [7,9,10,11,55])
 (.cond (.t 55)
 (.seq (xR [xM 56 11,xN 57 56,xM 58 57,xMT 59 9 58,xAT 60 (.bin .eql (.t 59) (xs ⟨#[]⟩)) 58,xA 61 (.pick (.t 58) (.t 60) xU),xM 62 61,xAT 63 (.callb 20 []) 62,xA 64 (.pick (.t 62) (.t 63) xU),xO 2 64] [2])
 .ret)
 .skip))
 (.seq (xR [xQ 66 1 7,xA 67 (.callb 15 [(.t 66),(xs ⟨#[65]⟩),(xs ⟨#[102]⟩)]),xO 65 67,xE 68 0 65,xE 69 1 65,xE 70 2 65,xA 13 (.alloc [xa,xb,xb,(.osl 2 []),xc,xa,xc,(.osl 4 []),(.osl 4 [])]),xM 12 68,xS 9 13 69,xM 14 70] [9,10,11,12,13,14])
 (.seq (xR [xM 71 11,xM 72 71,xMT 73 14 72,xA 74 (.pick (.t 72) (.t 73) xU),xM 75 74,xMT 76 9 75,xAT 77 (.bin .eql (.t 76) (xs ⟨#[66]⟩)) 75,xA 78 (.pick (.t 75) (.t 77) xU),xM 79 78,xMT 80 12 79,xAT 81 (.bin .eql (.t 80) (xs ⟨#[65]⟩)) 79,xA 82 (.pick (.t 79) (.t 81) xU),xM 83 82,xFT 84 7 10 83,xLT 85 84 83,xAT 86 (.len 0 (.t 85)) 83,xAT 87 (.bin .eql (.t 86) (xi 2)) 83,xA 88 (.pick (.t 83) (.t 87) xU),xM 89 88,xFT 90 7 13 89,xLT 91 90 89,xAT 92 (.len 0 (.t 91)) 89,xAT 93 (.bin .eql (.t 92) (xi 2)) 89,xA 94 (.pick (.t 89) (.t 93) xU),xM 95 94,xFT 96 7 10 95,xLT 97 96 95,xAT 98 (.ia 4 (.t 97) (xi 0)) 95,xFT 99 1 98 95,xLT 100 99 95,xAT 101 (.bin .eql (.t 100) (xi 2)) 95,xA 102 (.pick (.t 95) (.t 101) xU),xM 103 102,xFT 104 7 13 103,xLT 105 104 103,xAT 106 (.ia 4 (.t 105) (xi 0)) 103,xFT 107 1 106 103,xLT 108 107 103,xAT 109 (.bin .eql (.t 108) (xi 1)) 103,xA 110 (.pick (.t 103) (.t 109) xU),xM 111 110,xAT 112 (.callb 20 []) 111,xA 113 (.pick (.t 111) (.t 112) xU),xO 2 113] [2])
 .ret)))))))))))),[(.tmp 2)],.pure,false,false⟩
def f29:AFun:=⟨2,
 (.seq (xR [xB 2 0,xA 4 (.mov .own (xs ⟨#[]⟩)),xA 5 (.mov .own xU)] [1,2])
 (.seq (xR [xQ 6 1 2,xA 7 (.call 54 [(.t 6)]),xM 8 1,xA 9 (.call 55 [(.t 7),(.t 8)]),xE 10 0 9,xE 11 1 9,xO 4 10,xO 5 11] [4,5])
 .ret)),[(.tmp 4),(.tmp 5)],.pure,false,false⟩
def f7_b0:ACode:=(.wrap true [2,3,7,8,9,10,11] [6] [(0,[2,3,7,8,9,10])]
 (.seq (.seq (xR [xM 67 11,xF 68 5 7,xL 69 68,xH 70 69,xA 71 (.bin .lss (.t 67) (.t 70))] [2,3,7,8,9,10,11,71])
 (.cond (.t 71)
 .skip
 (.exit 0)))
 (.seq (.block 1 (.seq (xR [xF 74 5 7,xL 75 74,xM 76 11,xI 77 9 75 76,xF 78 0 77,xL 79 78,xM 80 2,xA 81 (.bin .eql (.t 79) (.t 80))] [2,3,7,8,9,10,11,81])
 (.cond (.t 81)
 (.seq (xG [xM 82 10,xM 83 82,xMT 84 8 83,xFT 85 0 7 83,xLT 86 85 83,xAT 87 (.bin .eql (.t 84) (.t 86)) 83,xA 88 (.pick (.t 83) (.t 87) xU),xM 89 88,xAT 90 (.ld .cp (some 9) (.t 9)) 89,xFT 91 5 7 89,xLT 92 91 89,xMT 93 11 89,xIT 94 9 92 93 89,xAT 95 (.ld .cp (some 9) (.t 94)) 89,xAT 96 (.callb 19 [(.t 90),(.t 95)]) 89,xA 97 (.pick (.t 89) (.t 96) xU),xM 98 97,xAT 99 (.callb 20 []) 98,xA 100 (.pick (.t 98) (.t 99) xU),xM 6 100] [6])
 .ret)
 .skip)))
 (xR [xM 72 11,xA 73 (.bin .add (.t 72) (xi 1)),xM 11 73] [2,3,7,8,9,10,11]))))
def f7_l0:ACode:=.loop f7_b0
theorem u7_l0:LpEq f7_l0 f7_b0:=Jaj
def f7:AFun:=⟨3,
 (.seq (xR [xB 3 0,xA 6 (.mov .own xU)] [1,2,3])
 (.seq (.seq (xR [xQ 17 1 3,xA 18 (.callb 10 [(.t 17)]),xM 19 18,xMF 20 2 19,xAF 21 (.len 1 (.t 20)) 19,xAF 22 (.bin .gtr (.t 21) (xi 60)) 19,xA 23 (.pick (.t 19) xT (.t 22)),xM 24 23,xAF 25 (.ld .cp (some 1) (.t 3)) 24,xAF 26 (.callb 12 [(.t 25)]) 24,xAF 27 (.bin .neq (.t 26) (xi 0)) 24,xA 28 (.pick (.t 24) xT (.t 27)),xM 29 28,xFF 30 0 3 29,xLF 31 30 29,xAF 32 (.len 0 (.t 31)) 29,xAF 33 (.bin .eql (.t 32) (xi 0)) 29,xA 34 (.pick (.t 29) xT (.t 33))] [1,2,3,34])
 (.cond (.t 34)
 (.seq (xR [xA 6 (.mov .own xT)] [6])
 .ret)
 .skip))
 (.seq (xG [xF 35 0 3,xL 36 35,xM 37 1,xA 38 (.conv .u64 (.t 37)),xF 39 0 3,xL 40 39,xH 41 40,xA 42 (.conv .u64 (.t 41)),xA 43 (.bin .rem (.t 38) (.t 42)),xA 44 (.conv .i64 (.t 43)),xI 45 6 36 44,xQ 46 6 45,xA 7 (.alloc [xa,xb,xa,(.osl 1 []),(.osl 4 []),(.osl 9 [])]),xS 6 7 46] [2,3,7])
 (.seq (xR [xQ 48 1 3,xF 49 0 7,xL 50 49,xM 51 2,xA 52 (.callb 15 [(.t 48),(.t 50),(.t 51)]),xO 47 52,xE 53 0 47,xE 54 1 47,xE 55 2 47,xA 9 (.alloc [xa,xb,xb,(.osl 2 []),xc,xa,xc,(.osl 4 []),(.osl 4 [])]),xM 8 53,xS 9 9 54,xM 10 55] [2,3,7,8,9,10])
 (.seq (.seq (xR [xF 56 1 7,xL 57 56] [2,3,7,8,9,10,57])
 (.cond (.t 57)
 (.seq (xR [xM 58 10,xN 59 58,xM 60 59,xMT 61 8 60,xAT 62 (.bin .eql (.t 61) (xs ⟨#[]⟩)) 60,xA 63 (.pick (.t 60) (.t 62) xU),xM 64 63,xAT 65 (.callb 20 []) 64,xA 66 (.pick (.t 64) (.t 65) xU),xO 6 66] [6])
 .ret)
 .skip))
 (.seq (.seq (xR [xA 11 (.mov .cp (xi 0))] [2,3,7,8,9,10,11])
 (.block 0 f7_l0))
 (.seq (xR [xQ 102 1 3,xF 103 0 7,xL 104 103,xA 105 (.callb 29 [(.t 102),(.t 104)]),xO 101 105,xE 106 0 101,xE 107 1 101,xM 12 106,xM 13 107] [2,3,8,9,10,12,13])
 (.seq (.seq (xR [xM 108 13,xN 109 108] [2,3,8,9,10,12,109])
 (.cond (.t 109)
 (.seq (xR [xA 6 (.mov .own xU)] [6])
 .ret)
 .skip))
 (.seq (xR [xQ 111 1 3,xM 112 12,xM 113 2,xA 114 (.callb 15 [(.t 111),(.t 112),(.t 113)]),xO 110 114,xE 115 0 110,xE 116 1 110,xE 117 2 110,xA 15 (.alloc [xa,xb,xb,(.osl 2 []),xc,xa,xc,(.osl 4 []),(.osl 4 [])]),xM 14 115,xS 9 15 116,xM 16 117] [8,9,10,14,15,16])
 (.seq (xR [xM 118 10,xM 119 16,xA 120 (.eq false 0 [] (.t 118) (.t 119)),xM 121 120,xMT 122 8 121,xMT 123 14 121,xAT 124 (.bin .eql (.t 122) (.t 123)) 121,xA 125 (.pick (.t 121) (.t 124) xU),xM 126 125,xAT 127 (.ld .cp (some 9) (.t 9)) 126,xAT 128 (.ld .cp (some 9) (.t 15)) 126,xAT 129 (.callb 19 [(.t 127),(.t 128)]) 126,xA 130 (.pick (.t 126) (.t 129) xU),xM 131 130,xAT 132 (.callb 20 []) 131,xA 133 (.pick (.t 131) (.t 132) xU),xO 6 133] [6])
 .ret)))))))))),[(.tmp 6)],.pure,false,false⟩
def f56_b0:ACode:=(.wrap true [0,1,5,21,22,23] [4] [(0,[5])]
 (.seq (xR [xA 24 (.bin .lss (.t 23) (.t 22))] [0,1,5,21,22,23,24])
 (.seq (.cond (.t 24)
 .skip
 (.exit 0))
 (.seq (.block 1 (.seq (xR [xI 25 1 21 23,xL 26 25,xM 7 26] [0,1,5,7,21,22,23])
 (.seq (xR [xM 27 0,xA 28 (.nilc (.t 27)),xF 29 3 28,xL 30 29,xM 31 7,xA 32 (.lkp [2] (.agg [xa,xb,xa,xd,xd,xd]) false (.t 30) (.t 31)),xA 33 (.fld 1 none (.t 32)),xN 34 33,xM 35 34,xMT 36 0 35,xMT 37 7 35,xMT 38 1 35,xAT 39 (.call 59 [(.t 36),(.t 37),(.t 38)]) 35,xA 40 (.pick (.t 35) (.t 39) xU)] [0,1,5,7,21,22,23,40])
 (.cond (.t 40)
 (xR [xO 41 5,xM 42 7,xA 43 (.bsl .own 1 1 [xa] [(0,(.t 42))]),xA 44 (.app 1 16 (.t 41) (.t 43)),xO 5 44] [0,1,5,21,22,23])
 .skip))))
 (xR [xA 45 (.bin .add (.t 23) (xi 1)),xM 23 45] [0,1,5,21,22,23])))))
def f56_l0:ACode:=.loop f56_b0
theorem u56_l0:LpEq f56_l0 f56_b0:=Jaj
def f56:AFun:=⟨2,
 (.seq (xR [xA 4 (.mov .own (.k (.c (.osl 1 []))))] [0,1])
 (.seq (xR [xA 5 (.mov .own (.k (.c (.osl 1 []))))] [0,1,5])
 (.seq (.seq (xR [xM 8 0,xA 9 (.nilc (.t 8)),xF 10 2 9,xL 11 10,xA 12 (.bin .neq (.t 11) (xi 0))] [0,1,5,12])
 (.cond (.t 12)
 (.seq (xR [xA 4 (.mov .own (.k (.c (.osl 1 []))))] [4])
 .ret)
 .skip))
 (.seq (.seq (xG [xM 13 0,xA 14 (.nilc (.t 13)),xF 15 1 14,xL 16 15,xM 17 0,xA 18 (.nilc (.t 17)),xF 19 0 18,xL 20 19,xA 21 (.slc .cp 1 (.t 16) (some (.t 20)) none),xH 22 21,xA 23 (.mov .cp (xi 0))] [0,1,5,21,22,23])
 (.block 0 f56_l0))
 (.seq (xR [xO 46 5,xO 4 46] [4])
 .ret))))),[(.tmp 4)],.pure,false,false⟩
def f31:AFun:=⟨2,
 (.seq (xR [xB 2 0,xA 4 (.mov .own (.k (.c (.osl 1 []))))] [1,2])
 (.seq (xR [xQ 5 1 2,xA 6 (.call 54 [(.t 5)]),xM 7 1,xA 8 (.call 56 [(.t 6),(.t 7)]),xO 4 8] [4])
 .ret)),[(.tmp 4)],.pure,false,false⟩
def f8_b0:ACode:=(.wrap true [3,8,11,12] [6] [(0,[])]
 (.seq (.seq (xR [xM 95 12,xM 96 11,xH 97 96,xA 98 (.bin .lss (.t 95) (.t 97))] [3,8,11,12,98])
 (.cond (.t 98)
 .skip
 (.exit 0)))
 (.seq (.block 1 (.seq (xG [xQ 102 1 3,xM 103 11,xM 104 12,xI 105 1 103 104,xL 106 105,xF 107 0 8,xL 108 107,xA 109 (.callb 15 [(.t 102),(.t 106),(.t 108)]),xO 101 109,xA 110 (.exd 0 (.t 101)),xA 111 (.exd 1 (.t 101)),xA 112 (.exd 2 (.t 101)),xA 14 (.alloc [xa,xb,xb,(.osl 2 []),xc,xa,xc,(.osl 4 []),(.osl 4 [])]),xM 13 110,xS 9 14 111,xM 15 112] [3,8,11,12,13,14,15])
 (.seq (xG [xQ 114 1 3,xM 115 11,xM 116 12,xI 117 1 115 116,xL 118 117,xF 119 0 8,xL 120 119,xA 121 (.callb 16 [(.t 114),(.t 118),(.t 120)]),xO 113 121,xA 122 (.exd 0 (.t 113)),xA 123 (.exd 1 (.t 113)),xA 16 (.alloc [xa,xb,xb,(.osl 2 []),xc,xa,xc,(.osl 4 []),(.osl 4 [])]),xS 9 16 122,xM 17 123] [3,8,11,12,13,14,15,16,17])
 (.seq (xR [xM 124 15,xN 125 124,xM 126 125,xMF 127 17 126,xNF 128 127 126,xA 129 (.pick (.t 126) xT (.t 128)),xM 130 129,xMF 131 13 130,xAF 132 (.bin .eql (.t 131) (xs ⟨#[]⟩)) 130,xA 133 (.pick (.t 130) xT (.t 132)),xM 134 133,xFF 135 1 14 134,xLF 136 135 134,xA 137 (.pick (.t 134) xT (.t 136)),xM 138 137,xFF 139 2 14 138,xLF 140 139 138,xA 141 (.pick (.t 138) xT (.t 140)),xM 142 141,xFF 143 3 14 142,xLF 144 143 142,xFF 145 3 8 142,xLF 146 145 142,xAF 147 (.callb 30 [(.t 144),(.t 146)]) 142,xNF 148 147 142,xA 149 (.pick (.t 142) xT (.t 148)),xM 150 149,xFF 151 4 14 150,xAF 152 (.ld .cp (some 2) (.t 151)) 150,xFF 153 4 8 150,xAF 154 (.ld .cp (some 2) (.t 153)) 150,xAF 155 (.eq true 2 [1,2] (.t 152) (.t 154)) 150,xA 156 (.pick (.t 150) xT (.t 155)),xM 157 156,xAF 158 (.ld .cp (some 9) (.t 14)) 157,xAF 159 (.ld .cp (some 9) (.t 16)) 157,xAF 160 (.callb 19 [(.t 158),(.t 159)]) 157,xNF 161 160 157,xA 162 (.pick (.t 157) xT (.t 161))] [3,8,11,12,162])
 (.cond (.t 162)
 (.seq (xR [xA 6 (.mov .own xU)] [6])
 .ret)
 .skip)))))
 (xR [xM 99 12,xA 100 (.bin .add (.t 99) (xi 1)),xM 12 100] [3,8,11,12]))))
def f8_l0:ACode:=.loop f8_b0
theorem u8_l0:LpEq f8_l0 f8_b0:=Jaj
def f8:AFun:=⟨3,
 (.seq (xR [xB 3 0,xA 6 (.mov .own xU)] [1,2,3])
 (.seq (.seq (xR [xQ 18 1 3,xA 19 (.callb 10 [(.t 18)]),xM 20 19,xAF 21 (.ld .cp (some 1) (.t 3)) 20,xAF 22 (.callb 12 [(.t 21)]) 20,xAF 23 (.bin .neq (.t 22) (xi 0)) 20,xA 24 (.pick (.t 20) xT (.t 23)),xM 25 24,xFF 26 0 3 25,xLF 27 26 25,xAF 28 (.len 0 (.t 27)) 25,xAF 29 (.bin .eql (.t 28) (xi 0)) 25,xA 30 (.pick (.t 25) xT (.t 29))] [1,2,3,30])
 (.cond (.t 30)
 (.seq (xR [xA 6 (.mov .own xT)] [6])
 .ret)
 .skip))
 (.seq (xG [xF 31 0 3,xL 32 31,xM 33 1,xA 34 (.conv .u64 (.t 33)),xF 35 0 3,xL 36 35,xH 37 36,xA 38 (.conv .u64 (.t 37)),xA 39 (.bin .rem (.t 34) (.t 38)),xA 40 (.conv .i64 (.t 39)),xI 41 6 32 40,xQ 42 6 41,xA 7 (.alloc [xa,xb,xa,(.osl 1 []),(.osl 4 []),(.osl 9 [])]),xS 6 7 42] [2,3,7])
 (.seq (.seq (xR [xF 43 1 7,xL 44 43,xN 45 44,xM 46 45,xFF 47 5 7 46,xLF 48 47 46,xAF 49 (.len 0 (.t 48)) 46,xAF 50 (.bin .eql (.t 49) (xi 0)) 46,xA 51 (.pick (.t 46) xT (.t 50))] [2,3,7,51])
 (.cond (.t 51)
 (.seq (xR [xA 52 (.callb 20 []),xO 6 52] [6])
 .ret)
 .skip))
 (.seq (xG [xF 53 5 7,xL 54 53,xM 55 2,xA 56 (.conv .u64 (.t 55)),xF 57 5 7,xL 58 57,xH 59 58,xA 60 (.conv .u64 (.t 59)),xA 61 (.bin .rem (.t 56) (.t 60)),xA 62 (.conv .i64 (.t 61)),xI 63 9 54 62,xQ 64 9 63,xA 8 (.alloc [xa,xb,xb,(.osl 2 []),xc,xa,xc,(.osl 4 []),(.osl 4 [])]),xS 9 8 64] [3,7,8])
 (.seq (xR [xQ 66 1 3,xF 67 0 7,xL 68 67,xF 69 0 8,xL 70 69,xA 71 (.callb 16 [(.t 66),(.t 68),(.t 70)]),xO 65 71,xE 72 0 65,xE 73 1 65,xA 9 (.alloc [xa,xb,xb,(.osl 2 []),xc,xa,xc,(.osl 4 []),(.osl 4 [])]),xS 9 9 72,xM 10 73] [3,7,8,9,10])
 (.seq (.seq (xR [xM 74 10,xN 75 74,xM 76 75,xFF 77 3 9 76,xLF 78 77 76,xFF 79 3 8 76,xLF 80 79 76,xAF 81 (.callb 30 [(.t 78),(.t 80)]) 76,xNF 82 81 76,xA 83 (.pick (.t 76) xT (.t 82)),xM 84 83,xFF 85 4 9 84,xAF 86 (.ld .cp (some 2) (.t 85)) 84,xFF 87 4 8 84,xAF 88 (.ld .cp (some 2) (.t 87)) 84,xAF 89 (.eq true 2 [1,2] (.t 86) (.t 88)) 84,xA 90 (.pick (.t 84) xT (.t 89))] [3,7,8,90])
 (.cond (.t 90)
 (.seq (xR [xA 6 (.mov .own xU)] [6])
 .ret)
 .skip))
 (.seq (xR [xQ 91 1 3,xF 92 0 7,xL 93 92,xA 94 (.callb 31 [(.t 91),(.t 93)]),xM 11 94] [3,8,11])
 (.seq (.seq (xR [xA 12 (.mov .cp (xi 0))] [3,8,11,12])
 (.block 0 f8_l0))
 (.seq (xR [xA 163 (.callb 20 []),xO 6 163] [6])
 .ret)))))))))),[(.tmp 6)],.pure,false,false⟩
def f88:AFun:=⟨1,
 (.seq (xR [xA 2 (.mov .own (.k (.c (.osl 4 []))))] [0])
 (.seq (.seq (xR [xM 3 0,xA 4 (.eq false 4 [] (.t 3) (.k (.c (.b .nils))))] [0,4])
 (.cond (.t 4)
 (.seq (xR [xA 2 (.mov .own (.k (.c (.osl 4 []))))] [2])
 .ret)
 .skip))
 (.seq (xR [xA 5 (.bsl .own 4 0 [xa,xc,xa,xb] []),xM 6 0,xA 7 (.app 4 48 (.t 5) (.t 6)),xO 2 7] [2])
 .ret))),[(.tmp 2)],.pure,true,false⟩
def f58_b0:ACode:=(.wrap true [1,2,3,15,16,17] [2] [(0,[1,2,3])]
 (.seq (xR [xA 18 (.bin .lss (.t 17) (.t 16))] [1,2,3,15,16,17,18])
 (.seq (.cond (.t 18)
 .skip
 (.exit 0))
 (.seq (.block 1 (.seq (xR [xI 19 9 15 17,xQ 20 9 19,xA 5 (.alloc [xa,xb,xb,(.osl 2 []),xc,xa,xc,(.osl 4 []),(.osl 4 [])]),xS 9 5 20] [1,2,3,5,15,16,17])
 (xR [xO 21 3,xQ 22 9 5,xA 23 (.callb 47 [(.t 22)]),xA 24 (.bsl .own 9 1 [xa,xb,xb,(.osl 2 []),xc,xa,xc,(.osl 4 []),(.osl 4 [])] [(0,(.t 23))]),xA 25 (.app 9 128 (.t 21) (.t 24)),xO 3 25] [1,2,3,15,16,17])))
 (xR [xA 26 (.bin .add (.t 17) (xi 1)),xM 17 26] [1,2,3,15,16,17])))))
def f58_l0:ACode:=.loop f58_b0
theorem u58_l0:LpEq f58_l0 f58_b0:=Jaj
def f58:AFun:=⟨1,
 (.seq (xR [xB 1 0,xA 2 (.alloc [xa,xb,xa,(.osl 1 []),(.osl 4 []),(.osl 9 [])])] [1,2])
 (.seq (xG [xF 6 3 1,xL 7 6,xA 8 (.callb 87 [(.t 7)]),xF 9 4 1,xL 10 9,xA 11 (.callb 88 [(.t 10)]),xF 12 3 1,xS 1 12 8,xF 13 4 1,xS 1 13 11] [1,2])
 (.seq (xR [xA 3 (.mov .own (.k (.c (.osl 9 []))))] [1,2,3])
 (.seq (.seq (xR [xF 14 5 1,xL 15 14,xH 16 15,xA 17 (.mov .cp (xi 0))] [1,2,3,15,16,17])
 (.block 0 f58_l0))
 (.seq (xR [xM 27 3,xF 28 5 1,xS 1 28 27] [1,2])
 (.seq (xR [xQ 29 6 1,xS 6 2 29] [2])
 .ret)))))),[(.cell 2 (some 6))],.pure,false,false⟩
def f32_b0:ACode:=(.wrap true [3,8,9,10] [2] [(0,[3])]
 (.seq (xR [xA 11 (.bin .lss (.t 10) (.t 9))] [3,8,9,10,11])
 (.seq (.cond (.t 11)
 .skip
 (.exit 0))
 (.seq (.block 1 (.seq (xR [xI 12 6 8 10,xQ 13 6 12,xA 5 (.alloc [xa,xb,xa,(.osl 1 []),(.osl 4 []),(.osl 9 [])]),xS 6 5 13] [3,5,8,9,10])
 (xR [xO 14 3,xQ 15 6 5,xA 16 (.callb 58 [(.t 15)]),xA 17 (.bsl .own 6 1 [xa,xb,xa,(.osl 1 []),(.osl 4 []),(.osl 9 [])] [(0,(.t 16))]),xA 18 (.app 6 112 (.t 14) (.t 17)),xO 3 18] [3,8,9,10])))
 (xR [xA 19 (.bin .add (.t 10) (xi 1)),xM 10 19] [3,8,9,10])))))
def f32_l0:ACode:=.loop f32_b0
theorem u32_l0:LpEq f32_l0 f32_b0:=Jaj
def f32:AFun:=⟨1,
 (.seq (xR [xB 1 0,xA 2 (.mov .own (.k (.c (.osl 6 []))))] [1])
 (.seq (xR [xA 6 (.callb 57 []),xO 3 6] [1,3])
 (.seq (.seq (xR [xF 7 0 1,xL 8 7,xH 9 8,xA 10 (.mov .cp (xi 0))] [3,8,9,10])
 (.block 0 f32_l0))
 (.seq (xR [xO 20 3,xO 2 20] [2])
 .ret)))),[(.tmp 2)],.pure,false,false⟩
def f33:AFun:=⟨3,
 (.seq (xR [xB 3 0,xA 6 (.mov .own xU)] [1,2,3])
 (.seq (xR [xQ 7 1 3,xA 8 (.call 54 [(.t 7)]),xM 9 1,xM 10 2,xA 11 (.call 59 [(.t 8),(.t 9),(.t 10)]),xO 6 11] [6])
 .ret)),[(.tmp 6)],.pure,false,false⟩
def f9_b0:ACode:=(.wrap true [2,6,7,11,13,14] [4] [(2,[2,6,7,11,13])]
 (.seq (.seq (xR [xM 135 14,xM 136 13,xA 137 (.bin .lss (.t 135) (.t 136))] [2,6,7,11,13,14,137])
 (.cond (.t 137)
 .skip
 (.exit 2)))
 (.seq (.block 3 (.seq (xG [xM 140 7,xM 141 13,xI 142 4 140 141,xF 143 1 142,xL 144 143,xM 145 7,xM 146 14,xI 147 4 145 146,xF 148 1 147,xL 149 148,xA 150 (.bin .eql (.t 144) (.t 149))] [2,6,7,11,13,14,150])
 (.cond (.t 150)
 (.seq (xR [xA 4 (.mov .own xU)] [4])
 .ret)
 .skip)))
 (xR [xM 138 14,xA 139 (.bin .add (.t 138) (xi 1)),xM 14 139] [2,6,7,11,13,14]))))
def f9_l0:ACode:=.loop f9_b0
theorem u9_l0:LpEq f9_l0 f9_b0:=Jaj
def f9_b1:ACode:=(.wrap true [2,6,7,11,13] [4] [(0,[])]
 (.seq (.seq (xR [xM 103 13,xM 104 7,xH 105 104,xA 106 (.bin .lss (.t 103) (.t 105))] [2,6,7,11,13,106])
 (.cond (.t 106)
 .skip
 (.exit 0)))
 (.seq (.block 1 (.seq (.seq (xG [xQ 109 1 2,xF 110 0 6,xL 111 110,xM 112 7,xM 113 13,xI 114 4 112 113,xF 115 0 114,xL 116 115,xA 117 (.callb 33 [(.t 109),(.t 111),(.t 116)]),xN 118 117,xM 119 118,xMF 120 13 119,xMF 121 11 119,xAF 122 (.len 0 (.t 121)) 119,xAF 123 (.bin .geq (.t 120) (.t 122)) 119,xMF 124 123 119,xMT 125 7 124,xMT 126 13 124,xIT 127 4 125 126 124,xFT 128 0 127 124,xLT 129 128 124,xFT 130 0 6 124,xLT 131 130 124,xAT 132 (.bin .neq (.t 129) (.t 131)) 124,xAF 133 (.pick (.t 124) (.t 132) xU) 119,xA 134 (.pick (.t 119) xT (.t 133))] [2,6,7,11,13,134])
 (.cond (.t 134)
 (.seq (xR [xA 4 (.mov .own xU)] [4])
 .ret)
 .skip))
 (.seq (xR [xA 14 (.mov .cp (xi 0))] [2,6,7,11,13,14])
 (.block 2 f9_l0))))
 (xR [xM 107 13,xA 108 (.bin .add (.t 107) (xi 1)),xM 13 108] [2,6,7,11,13]))))
def f9_l1:ACode:=.loop f9_b1
theorem u9_l1:LpEq f9_l1 f9_b1:=Jaj
def f9:AFun:=⟨2,
 (.seq (xR [xB 2 0,xA 4 (.mov .own xU)] [1,2])
 (.seq (.seq (xR [xQ 15 1 2,xA 16 (.callb 10 [(.t 15)]),xM 17 16,xAF 18 (.ld .cp (some 1) (.t 2)) 17,xAF 19 (.callb 12 [(.t 18)]) 17,xAF 20 (.bin .neq (.t 19) (xi 0)) 17,xA 21 (.pick (.t 17) xT (.t 20))] [1,2,21])
 (.cond (.t 21)
 (.seq (xR [xA 4 (.mov .own xT)] [4])
 .ret)
 .skip))
 (.seq (xR [xQ 22 1 2,xA 23 (.callb 32 [(.t 22)]),xM 5 23] [1,2,5])
 (.seq (.seq (xR [xM 24 5,xH 25 24,xA 26 (.bin .eql (.t 25) (xi 0))] [1,2,5,26])
 (.cond (.t 26)
 (.seq (xR [xA 4 (.mov .own xU)] [4])
 .ret)
 .skip))
 (.seq (xR [xM 27 5,xM 28 1,xA 29 (.conv .u64 (.t 28)),xM 30 5,xH 31 30,xA 32 (.conv .u64 (.t 31)),xA 33 (.bin .rem (.t 29) (.t 32)),xA 34 (.conv .i64 (.t 33)),xI 35 6 27 34,xQ 36 6 35,xA 6 (.alloc [xa,xb,xa,(.osl 1 []),(.osl 4 []),(.osl 9 [])]),xS 6 6 36] [2,6])
 (.seq (xR [xQ 38 1 2,xF 39 0 6,xL 40 39,xA 41 (.callb 13 [(.t 38),(.t 40)]),xO 37 41,xE 42 0 37,xE 43 1 37,xM 7 42,xM 8 43] [2,6,7,8])
 (.seq (.seq (xR [xF 44 1 6,xL 45 44] [2,6,7,8,45])
 (.cond (.t 45)
 (.seq (xR [xM 46 8,xA 47 (.bin .eql (.t 46) (xi 5)),xM 48 47,xMT 49 7 48,xAT 50 (.len 0 (.t 49)) 48,xAT 51 (.bin .eql (.t 50) (xi 0)) 48,xA 52 (.pick (.t 48) (.t 51) xU),xM 53 52,xAT 54 (.callb 20 []) 53,xA 55 (.pick (.t 53) (.t 54) xU),xO 4 55] [4])
 .ret)
 .skip))
 (.seq (xR [xQ 57 1 2,xF 58 0 6,xL 59 58,xA 60 (.callb 29 [(.t 57),(.t 59)]),xO 56 60,xE 61 0 56,xE 62 1 56,xM 9 61,xM 10 62] [2,6,7,8,9,10])
 (.seq (.seq (xR [xM 63 10,xN 64 63] [2,6,7,8,9,64])
 (.cond (.t 64)
 (.seq (xR [xM 65 8,xA 66 (.bin .eql (.t 65) (xi 0)),xM 67 66,xMT 68 7 67,xAT 69 (.len 0 (.t 68)) 67,xAT 70 (.bin .eql (.t 69) (xi 0)) 67,xA 71 (.pick (.t 67) (.t 70) xU),xM 72 71,xAT 73 (.callb 20 []) 72,xA 74 (.pick (.t 72) (.t 73) xU),xO 4 74] [4])
 .ret)
 .skip))
 (.seq (xR [xQ 76 1 2,xM 77 9,xA 78 (.callb 13 [(.t 76),(.t 77)]),xO 75 78,xE 79 0 75,xE 80 1 75,xM 11 79,xM 12 80] [2,6,7,8,11,12])
 (.seq (.seq (xR [xM 81 8,xA 82 (.bin .neq (.t 81) (xi 0)),xM 83 82,xMF 84 12 83,xAF 85 (.bin .neq (.t 84) (xi 0)) 83,xA 86 (.pick (.t 83) xT (.t 85)),xM 87 86,xMF 88 7 87,xAF 89 (.len 0 (.t 88)) 87,xMF 90 11 87,xAF 91 (.len 0 (.t 90)) 87,xAF 92 (.bin .lss (.t 89) (.t 91)) 87,xA 93 (.pick (.t 87) xT (.t 92)),xM 94 93,xMF 95 7 94,xMF 96 11 94,xAF 97 (.len 0 (.t 96)) 94,xAF 98 (.slc .cp 4 (.t 95) none (some (.t 97))) 94,xMF 99 11 94,xAF 100 (.callb 21 [(.t 98),(.t 99)]) 94,xNF 101 100 94,xA 102 (.pick (.t 94) xT (.t 101))] [2,6,7,11,102])
 (.cond (.t 102)
 (.seq (xR [xA 4 (.mov .own xU)] [4])
 .ret)
 .skip))
 (.seq (.seq (xR [xA 13 (.mov .cp (xi 0))] [2,6,7,11,13])
 (.block 0 f9_l1))
 (.seq (xR [xA 151 (.callb 20 []),xO 4 151] [4])
 .ret))))))))))))),[(.tmp 4)],.pure,false,false⟩
theorem c10:Jad Tryz.prog 10 f10=true:=by kernel_rfl
theorem c89:Jad Tryz.prog 89 f89=true:=by kernel_rfl
theorem c60:Jad Tryz.prog 60 f60=true:=by kernel_rfl
theorem c34:Jad Tryz.prog 34 f34=true:=by kernel_rfl
theorem c11:Jad Tryz.prog 11 f11=true:=by kernel_rfl
theorem c27:Jad Tryz.prog 27 f27=true:=by kernel_rfl
theorem c37:Jad Tryz.prog 37 f37=true:=by kernel_rfl
theorem c36:Jad Tryz.prog 36 f36=true:=by kernel_rfl
theorem c125:Jad Tryz.prog 125 f125=true:=by kernel_rfl
theorem c126:Jad Tryz.prog 126 f126=true:=by kernel_rfl
theorem c105:Jad Tryz.prog 105 f105=true:=by kernel_rfl
theorem c106:Jad Tryz.prog 106 f106=true:=by kernel_rfl
theorem c90:Jad Tryz.prog 90 f90=true:=by kernel_rfl
theorem c91:Jad Tryz.prog 91 f91=true:=by kernel_rfl
theorem c107:Jad Tryz.prog 107 f107=true:=by kernel_rfl
theorem c127:Jad Tryz.prog 127 f127=true:=by kernel_rfl
theorem c108:Jad Tryz.prog 108 f108=true:=by kernel_rfl
theorem c92:Jad Tryz.prog 92 f92=true:=by kernel_rfl
theorem c61:Jad Tryz.prog 61 f61=true:=by kernel_rfl
theorem c62:Jad Tryz.prog 62 f62=true:=by kernel_rfl
theorem c63:Jad Tryz.prog 63 f63=true:=by kernel_rfl
theorem c64:Jad Tryz.prog 64 f64=true:=by kernel_rfl
theorem c65:Jad Tryz.prog 65 f65=true:=by kernel_rfl
theorem c35:Jad Tryz.prog 35 f35=true:=by kernel_rfl
theorem c66:Jad Tryz.prog 66 f66=true:=by kernel_rfl
theorem c67:Jad Tryz.prog 67 f67=true:=by kernel_rfl
theorem c38:Jad Tryz.prog 38 f38=true:=by kernel_rfl
theorem c78:Jad Tryz.prog 78 f78=true:=by kernel_rfl
theorem c51:Jad Tryz.prog 51 f51=true:=by kernel_rfl
theorem c52:Jad Tryz.prog 52 f52=true:=by kernel_rfl
theorem c30:Jad Tryz.prog 30 f30=true:=by kernel_rfl
theorem c68:Jad Tryz.prog 68 f68=true:=by kernel_rfl
theorem c39:Jad Tryz.prog 39 f39=true:=by kernel_rfl
theorem c40:Jad Tryz.prog 40 f40=true:=by kernel_rfl
theorem c12:Jad Tryz.prog 12 f12=true:=by kernel_rfl
theorem c41:Jad Tryz.prog 41 f41=true:=by kernel_rfl
theorem c93:Jad Tryz.prog 93 f93=true:=by kernel_rfl
theorem c103:Jad Tryz.prog 103 f103=true:=by kernel_rfl
theorem c155:Jad Tryz.prog 155 f155=true:=by kernel_rfl
theorem c156:Jad Tryz.prog 156 f156=true:=by kernel_rfl
theorem c124:Jad Tryz.prog 124 f124=true:=by kernel_rfl
theorem c104:Jad Tryz.prog 104 f104=true:=by kernel_rfl
theorem c86:Jad Tryz.prog 86 f86=true:=by kernel_rfl
theorem c57:Jad Tryz.prog 57 f57=true:=by kernel_rfl
theorem c99:Jad Tryz.prog 99 f99=true:=by kernel_rfl
theorem c80:Jad Tryz.prog 80 f80=true:=by kernel_rfl
theorem c117:Jad Tryz.prog 117 f117=true:=by kernel_rfl
theorem c97:Jad Tryz.prog 97 f97=true:=by kernel_rfl
theorem c168:Jad Tryz.prog 168 f168=true:=by kernel_rfl
theorem c169:Jad Tryz.prog 169 f169=true:=by kernel_rfl
theorem c141:Jad Tryz.prog 141 f141=true:=by kernel_rfl
theorem c190:Jad Tryz.prog 190 f190=true:=by kernel_rfl
theorem c170:Jad Tryz.prog 170 f170=true:=by kernel_rfl
theorem c142:Jad Tryz.prog 142 f142=true:=by kernel_rfl
theorem c118:Jad Tryz.prog 118 f118=true:=by kernel_rfl
theorem c101:Jad Tryz.prog 101 f101=true:=by kernel_rfl
theorem c82:Jad Tryz.prog 82 f82=true:=by kernel_rfl
theorem c143:Jad Tryz.prog 143 f143=true:=by kernel_rfl
theorem c119:Jad Tryz.prog 119 f119=true:=by kernel_rfl
theorem c171:Jad Tryz.prog 171 f171=true:=by kernel_rfl
theorem c144:Jad Tryz.prog 144 f144=true:=by kernel_rfl
theorem c145:Jad Tryz.prog 145 f145=true:=by kernel_rfl
theorem c120:Jad Tryz.prog 120 f120=true:=by kernel_rfl
theorem c146:Jad Tryz.prog 146 f146=true:=by kernel_rfl
theorem c121:Jad Tryz.prog 121 f121=true:=by kernel_rfl
theorem c115:Jad Tryz.prog 115 f115=true:=by kernel_rfl
theorem c147:Jad Tryz.prog 147 f147=true:=by kernel_rfl
theorem c148:Jad Tryz.prog 148 f148=true:=by kernel_rfl
theorem c122:Jad Tryz.prog 122 f122=true:=by kernel_rfl
theorem c163:Jad Tryz.prog 163 f163=true:=by kernel_rfl
theorem c134:Jad Tryz.prog 134 f134=true:=by kernel_rfl
theorem c172:Jad Tryz.prog 172 f172=true:=by kernel_rfl
theorem c149:Jad Tryz.prog 149 f149=true:=by kernel_rfl
theorem c150:Jad Tryz.prog 150 f150=true:=by kernel_rfl
theorem c191:Jad Tryz.prog 191 f191=true:=by kernel_rfl
theorem c173:Jad Tryz.prog 173 f173=true:=by kernel_rfl
theorem c174:Jad Tryz.prog 174 f174=true:=by kernel_rfl
theorem c151:Jad Tryz.prog 151 f151=true:=by kernel_rfl
theorem c192:Jad Tryz.prog 192 f192=true:=by kernel_rfl
theorem c175:Jad Tryz.prog 175 f175=true:=by kernel_rfl
theorem c176:Jad Tryz.prog 176 f176=true:=by kernel_rfl
theorem c177:Jad Tryz.prog 177 f177=true:=by kernel_rfl
theorem c152:Jad Tryz.prog 152 f152=true:=by kernel_rfl
theorem c193:Jad Tryz.prog 193 f193=true:=by kernel_rfl
theorem c178:Jad Tryz.prog 178 f178=true:=by kernel_rfl
theorem c179:Jad Tryz.prog 179 f179=true:=by kernel_rfl
theorem c153:Jad Tryz.prog 153 f153=true:=by kernel_rfl
theorem c154:Jad Tryz.prog 154 f154=true:=by kernel_rfl
theorem c123:Jad Tryz.prog 123 f123=true:=by kernel_rfl
theorem c98:Jad Tryz.prog 98 f98=true:=by kernel_rfl
theorem c79:Jad Tryz.prog 79 f79=true:=by kernel_rfl
theorem c85:Jad Tryz.prog 85 f85=true:=by kernel_rfl
theorem c100:Jad Tryz.prog 100 f100=true:=by kernel_rfl
theorem c81:Jad Tryz.prog 81 f81=true:=by kernel_rfl
theorem c87:Jad Tryz.prog 87 f87=true:=by kernel_rfl
theorem c102:Jad Tryz.prog 102 f102=true:=by kernel_rfl
theorem c84:Jad Tryz.prog 84 f84=true:=by kernel_rfl
theorem c83:Jad Tryz.prog 83 f83=true:=by kernel_rfl
theorem c54:Jad Tryz.prog 54 f54=true:=by kernel_rfl
theorem c75:Jad Tryz.prog 75 f75=true:=by kernel_rfl
theorem c55:Jad Tryz.prog 55 f55=true:=by kernel_rfl
theorem c161:Jad Tryz.prog 161 f161=true:=by kernel_rfl
theorem c132:Jad Tryz.prog 132 f132=true:=by kernel_rfl
theorem c162:Jad Tryz.prog 162 f162=true:=by kernel_rfl
theorem c133:Jad Tryz.prog 133 f133=true:=by kernel_rfl
theorem c111:Jad Tryz.prog 111 f111=true:=by kernel_rfl
theorem c135:Jad Tryz.prog 135 f135=true:=by kernel_rfl
theorem c217:Jad Tryz.prog 217 f217=true:=by kernel_rfl
theorem c207:Jad Tryz.prog 207 f207=true:=by kernel_rfl
theorem c201:Jad Tryz.prog 201 f201=true:=by kernel_rfl
theorem c210:Jad Tryz.prog 210 f210=true:=by kernel_rfl
theorem c211:Jad Tryz.prog 211 f211=true:=by kernel_rfl
theorem c189:Jad Tryz.prog 189 f189=true:=by kernel_rfl
theorem c213:Jad Tryz.prog 213 f213=true:=by kernel_rfl
theorem c214:Jad Tryz.prog 214 f214=true:=by kernel_rfl
theorem c218:Jad Tryz.prog 218 f218=true:=by kernel_rfl
theorem c216:Jad Tryz.prog 216 f216=true:=by kernel_rfl
theorem c215:Jad Tryz.prog 215 f215=true:=by kernel_rfl
theorem c188:Jad Tryz.prog 188 f188=true:=by kernel_rfl
theorem c164:Jad Tryz.prog 164 f164=true:=by kernel_rfl
theorem c165:Jad Tryz.prog 165 f165=true:=by kernel_rfl
theorem c136:Jad Tryz.prog 136 f136=true:=by kernel_rfl
theorem c137:Jad Tryz.prog 137 f137=true:=by kernel_rfl
theorem c112:Jad Tryz.prog 112 f112=true:=by kernel_rfl
theorem c166:Jad Tryz.prog 166 f166=true:=by kernel_rfl
theorem c138:Jad Tryz.prog 138 f138=true:=by kernel_rfl
theorem c139:Jad Tryz.prog 139 f139=true:=by kernel_rfl
theorem c167:Jad Tryz.prog 167 f167=true:=by kernel_rfl
theorem c140:Jad Tryz.prog 140 f140=true:=by kernel_rfl
theorem c113:Jad Tryz.prog 113 f113=true:=by kernel_rfl
theorem c59:Jad Tryz.prog 59 f59=true:=by kernel_rfl
theorem c114:Jad Tryz.prog 114 f114=true:=by kernel_rfl
theorem c94:Jad Tryz.prog 94 f94=true:=by kernel_rfl
theorem c69:Jad Tryz.prog 69 f69=true:=by kernel_rfl
theorem c42:Jad Tryz.prog 42 f42=true:=by kernel_rfl
theorem c43:Jad Tryz.prog 43 f43=true:=by kernel_rfl
theorem c44:Jad Tryz.prog 44 f44=true:=by kernel_rfl
theorem c13:Jad Tryz.prog 13 f13=true:=by kernel_rfl
theorem c45:Jad Tryz.prog 45 f45=true:=by kernel_rfl
theorem c14:Jad Tryz.prog 14 f14=true:=by kernel_rfl
theorem c46:Jad Tryz.prog 46 f46=true:=by kernel_rfl
theorem c70:Jad Tryz.prog 70 f70=true:=by kernel_rfl
theorem c71:Jad Tryz.prog 71 f71=true:=by kernel_rfl
theorem c72:Jad Tryz.prog 72 f72=true:=by kernel_rfl
theorem c47:Jad Tryz.prog 47 f47=true:=by kernel_rfl
theorem c15:Jad Tryz.prog 15 f15=true:=by kernel_rfl
theorem c73:Jad Tryz.prog 73 f73=true:=by kernel_rfl
theorem c76:Jad Tryz.prog 76 f76=true:=by kernel_rfl
theorem c116:Jad Tryz.prog 116 f116=true:=by kernel_rfl
theorem c95:Jad Tryz.prog 95 f95=true:=by kernel_rfl
theorem c74:Jad Tryz.prog 74 f74=true:=by kernel_rfl
theorem c48:Jad Tryz.prog 48 f48=true:=by kernel_rfl
theorem c16:Jad Tryz.prog 16 f16=true:=by kernel_rfl
theorem c17:Jad Tryz.prog 17 f17=true:=by kernel_rfl
theorem c19:Jad Tryz.prog 19 f19=true:=by kernel_rfl
theorem c96:Jad Tryz.prog 96 f96=true:=by kernel_rfl
theorem c77:Jad Tryz.prog 77 f77=true:=by kernel_rfl
theorem c49:Jad Tryz.prog 49 f49=true:=by kernel_rfl
theorem c18:Jad Tryz.prog 18 f18=true:=by kernel_rfl
theorem c50:Jad Tryz.prog 50 f50=true:=by kernel_rfl
theorem c20:Jad Tryz.prog 20 f20=true:=by kernel_rfl
theorem c21:Jad Tryz.prog 21 f21=true:=by kernel_rfl
theorem c22:Jad Tryz.prog 22 f22=true:=by kernel_rfl
theorem c23:Jad Tryz.prog 23 f23=true:=by kernel_rfl
theorem c24:Jad Tryz.prog 24 f24=true:=by kernel_rfl
theorem c25:Jad Tryz.prog 25 f25=true:=by kernel_rfl
theorem c53:Jad Tryz.prog 53 f53=true:=by kernel_rfl
theorem c26:Jad Tryz.prog 26 f26=true:=by kernel_rfl
theorem c3:Jad Tryz.prog 3 f3=true:=by kernel_rfl
theorem c5:Jad Tryz.prog 5 f5=true:=by kernel_rfl
theorem c28:Jad Tryz.prog 28 f28=true:=by kernel_rfl
theorem c6:Jad Tryz.prog 6 f6=true:=by kernel_rfl
theorem c29:Jad Tryz.prog 29 f29=true:=by kernel_rfl
theorem c7:Jad Tryz.prog 7 f7=true:=by kernel_rfl
theorem c56:Jad Tryz.prog 56 f56=true:=by kernel_rfl
theorem c31:Jad Tryz.prog 31 f31=true:=by kernel_rfl
theorem c8:Jad Tryz.prog 8 f8=true:=by kernel_rfl
theorem c88:Jad Tryz.prog 88 f88=true:=by kernel_rfl
theorem c58:Jad Tryz.prog 58 f58=true:=by kernel_rfl
theorem c32:Jad Tryz.prog 32 f32=true:=by kernel_rfl
theorem c33:Jad Tryz.prog 33 f33=true:=by kernel_rfl
theorem c9:Jad Tryz.prog 9 f9=true:=by kernel_rfl
def tab:List (Nat × AFun):=[(10,f10),(89,f89),(60,f60),(34,f34),(11,f11),(27,f27),(37,f37),(36,f36),(125,f125),(126,f126),(105,f105),(106,f106),(90,f90),(91,f91),(107,f107),(127,f127),(108,f108),(92,f92),(61,f61),(62,f62),(63,f63),(64,f64),(65,f65),(35,f35),(66,f66),(67,f67),(38,f38),(78,f78),(51,f51),(52,f52),(30,f30),(68,f68),(39,f39),(40,f40),(12,f12),(41,f41),(93,f93),(103,f103),(155,f155),(156,f156),(124,f124),(104,f104),(86,f86),(57,f57),(99,f99),(80,f80),(117,f117),(97,f97),(168,f168),(169,f169),(141,f141),(190,f190),(170,f170),(142,f142),(118,f118),(101,f101),(82,f82),(143,f143),(119,f119),(171,f171),(144,f144),(145,f145),(120,f120),(146,f146),(121,f121),(115,f115),(147,f147),(148,f148),(122,f122),(163,f163),(134,f134),(172,f172),(149,f149),(150,f150),(191,f191),(173,f173),(174,f174),(151,f151),(192,f192),(175,f175),(176,f176),(177,f177),(152,f152),(193,f193),(178,f178),(179,f179),(153,f153),(154,f154),(123,f123),(98,f98),(79,f79),(85,f85),(100,f100),(81,f81),(87,f87),(102,f102),(84,f84),(83,f83),(54,f54),(75,f75),(55,f55),(161,f161),(132,f132),(162,f162),(133,f133),(111,f111),(135,f135),(217,f217),(207,f207),(201,f201),(210,f210),(211,f211),(189,f189),(213,f213),(214,f214),(218,f218),(216,f216),(215,f215),(188,f188),(164,f164),(165,f165),(136,f136),(137,f137),(112,f112),(166,f166),(138,f138),(139,f139),(167,f167),(140,f140),(113,f113),(59,f59),(114,f114),(94,f94),(69,f69),(42,f42),(43,f43),(44,f44),(13,f13),(45,f45),(14,f14),(46,f46),(70,f70),(71,f71),(72,f72),(47,f47),(15,f15),(73,f73),(76,f76),(116,f116),(95,f95),(74,f74),(48,f48),(16,f16),(17,f17),(19,f19),(96,f96),(77,f77),(49,f49),(18,f18),(50,f50),(20,f20),(21,f21),(22,f22),(23,f23),(24,f24),(25,f25),(53,f53),(26,f26),(3,f3),(5,f5),(28,f28),(6,f6),(29,f29),(7,f7),(56,f56),(31,f31),(8,f8),(88,f88),(58,f58),(32,f32),(33,f33),(9,f9)]
def look (f:Nat):List (Nat × AFun)→Option AFun
 | []=>none
 | (g,a) :: l=>bif Nat.beq f g then some a else look f l
theorem look_mem {f:Nat} {a:AFun}:∀ {l:List (Nat × AFun)},look f l=some a→(f,a) ∈ l
 | [],h=>by simp [look] at h
 | (g,b) :: l,h=>by
  simp only [look] at h
  cases hb:Nat.beq f g with
  | true=>rw [hb] at h;have:=Nat.eq_of_beq_eq_true hb;subst this;simp only [cond_true,Option.some.injEq] at h;subst h;exact List.mem_cons_self
  | false=>rw [hb] at h;exact List.mem_cons_of_mem _ (look_mem h)
def fns (f:Nat):Option AFun:=look f tab
theorem t10:fns 10=some f10:=rfl
theorem t89:fns 89=some f89:=rfl
theorem t60:fns 60=some f60:=rfl
theorem t34:fns 34=some f34:=rfl
theorem t11:fns 11=some f11:=rfl
theorem t27:fns 27=some f27:=rfl
theorem t37:fns 37=some f37:=rfl
theorem t36:fns 36=some f36:=rfl
theorem t125:fns 125=some f125:=rfl
theorem t126:fns 126=some f126:=rfl
theorem t105:fns 105=some f105:=rfl
theorem t106:fns 106=some f106:=rfl
theorem t90:fns 90=some f90:=rfl
theorem t91:fns 91=some f91:=rfl
theorem t107:fns 107=some f107:=rfl
theorem t127:fns 127=some f127:=rfl
theorem t108:fns 108=some f108:=rfl
theorem t92:fns 92=some f92:=rfl
theorem t61:fns 61=some f61:=rfl
theorem t62:fns 62=some f62:=rfl
theorem t63:fns 63=some f63:=rfl
theorem t64:fns 64=some f64:=rfl
theorem t65:fns 65=some f65:=rfl
theorem t35:fns 35=some f35:=rfl
theorem t66:fns 66=some f66:=rfl
theorem t67:fns 67=some f67:=rfl
theorem t38:fns 38=some f38:=rfl
theorem t78:fns 78=some f78:=rfl
theorem t51:fns 51=some f51:=rfl
theorem t52:fns 52=some f52:=rfl
theorem t30:fns 30=some f30:=rfl
theorem t68:fns 68=some f68:=rfl
theorem t39:fns 39=some f39:=rfl
theorem t40:fns 40=some f40:=rfl
theorem t12:fns 12=some f12:=rfl
theorem t41:fns 41=some f41:=rfl
theorem t86:fns 86=some f86:=rfl
theorem t57:fns 57=some f57:=rfl
theorem t99:fns 99=some f99:=rfl
theorem t80:fns 80=some f80:=rfl
theorem t117:fns 117=some f117:=rfl
theorem t97:fns 97=some f97:=rfl
theorem t168:fns 168=some f168:=rfl
theorem t169:fns 169=some f169:=rfl
theorem t141:fns 141=some f141:=rfl
theorem t190:fns 190=some f190:=rfl
theorem t170:fns 170=some f170:=rfl
theorem t142:fns 142=some f142:=rfl
theorem t118:fns 118=some f118:=rfl
theorem t101:fns 101=some f101:=rfl
theorem t82:fns 82=some f82:=rfl
theorem t143:fns 143=some f143:=rfl
theorem t119:fns 119=some f119:=rfl
theorem t171:fns 171=some f171:=rfl
theorem t144:fns 144=some f144:=rfl
theorem t145:fns 145=some f145:=rfl
theorem t120:fns 120=some f120:=rfl
theorem t146:fns 146=some f146:=rfl
theorem t121:fns 121=some f121:=rfl
theorem t115:fns 115=some f115:=rfl
theorem t147:fns 147=some f147:=rfl
theorem t148:fns 148=some f148:=rfl
theorem t122:fns 122=some f122:=rfl
theorem t163:fns 163=some f163:=rfl
theorem t134:fns 134=some f134:=rfl
theorem t172:fns 172=some f172:=rfl
theorem t149:fns 149=some f149:=rfl
theorem t150:fns 150=some f150:=rfl
theorem t191:fns 191=some f191:=rfl
theorem t173:fns 173=some f173:=rfl
theorem t174:fns 174=some f174:=rfl
theorem t151:fns 151=some f151:=rfl
theorem t192:fns 192=some f192:=rfl
theorem t175:fns 175=some f175:=rfl
theorem t176:fns 176=some f176:=rfl
theorem t177:fns 177=some f177:=rfl
theorem t152:fns 152=some f152:=rfl
theorem t193:fns 193=some f193:=rfl
theorem t178:fns 178=some f178:=rfl
theorem t179:fns 179=some f179:=rfl
theorem t153:fns 153=some f153:=rfl
theorem t154:fns 154=some f154:=rfl
theorem t123:fns 123=some f123:=rfl
theorem t98:fns 98=some f98:=rfl
theorem t79:fns 79=some f79:=rfl
theorem t85:fns 85=some f85:=rfl
theorem t100:fns 100=some f100:=rfl
theorem t81:fns 81=some f81:=rfl
theorem t87:fns 87=some f87:=rfl
theorem t102:fns 102=some f102:=rfl
theorem t84:fns 84=some f84:=rfl
theorem t83:fns 83=some f83:=rfl
theorem t54:fns 54=some f54:=rfl
theorem t75:fns 75=some f75:=rfl
theorem t55:fns 55=some f55:=rfl
theorem t132:fns 132=some f132:=rfl
theorem t133:fns 133=some f133:=rfl
theorem t111:fns 111=some f111:=rfl
theorem t135:fns 135=some f135:=rfl
theorem t217:fns 217=some f217:=rfl
theorem t207:fns 207=some f207:=rfl
theorem t201:fns 201=some f201:=rfl
theorem t189:fns 189=some f189:=rfl
theorem t188:fns 188=some f188:=rfl
theorem t164:fns 164=some f164:=rfl
theorem t165:fns 165=some f165:=rfl
theorem t136:fns 136=some f136:=rfl
theorem t137:fns 137=some f137:=rfl
theorem t112:fns 112=some f112:=rfl
theorem t166:fns 166=some f166:=rfl
theorem t138:fns 138=some f138:=rfl
theorem t139:fns 139=some f139:=rfl
theorem t167:fns 167=some f167:=rfl
theorem t140:fns 140=some f140:=rfl
theorem t113:fns 113=some f113:=rfl
theorem t59:fns 59=some f59:=rfl
theorem t114:fns 114=some f114:=rfl
theorem t94:fns 94=some f94:=rfl
theorem t69:fns 69=some f69:=rfl
theorem t42:fns 42=some f42:=rfl
theorem t43:fns 43=some f43:=rfl
theorem t44:fns 44=some f44:=rfl
theorem t13:fns 13=some f13:=rfl
theorem t45:fns 45=some f45:=rfl
theorem t14:fns 14=some f14:=rfl
theorem t46:fns 46=some f46:=rfl
theorem t70:fns 70=some f70:=rfl
theorem t71:fns 71=some f71:=rfl
theorem t72:fns 72=some f72:=rfl
theorem t47:fns 47=some f47:=rfl
theorem t15:fns 15=some f15:=rfl
theorem t73:fns 73=some f73:=rfl
theorem t76:fns 76=some f76:=rfl
theorem t116:fns 116=some f116:=rfl
theorem t95:fns 95=some f95:=rfl
theorem t74:fns 74=some f74:=rfl
theorem t48:fns 48=some f48:=rfl
theorem t16:fns 16=some f16:=rfl
theorem t17:fns 17=some f17:=rfl
theorem t19:fns 19=some f19:=rfl
theorem t96:fns 96=some f96:=rfl
theorem t77:fns 77=some f77:=rfl
theorem t49:fns 49=some f49:=rfl
theorem t18:fns 18=some f18:=rfl
theorem t50:fns 50=some f50:=rfl
theorem t20:fns 20=some f20:=rfl
theorem t21:fns 21=some f21:=rfl
theorem t22:fns 22=some f22:=rfl
theorem t23:fns 23=some f23:=rfl
theorem t24:fns 24=some f24:=rfl
theorem t25:fns 25=some f25:=rfl
theorem t53:fns 53=some f53:=rfl
theorem t26:fns 26=some f26:=rfl
theorem t3:fns 3=some f3:=rfl
theorem t5:fns 5=some f5:=rfl
theorem t28:fns 28=some f28:=rfl
theorem t6:fns 6=some f6:=rfl
theorem t29:fns 29=some f29:=rfl
theorem t7:fns 7=some f7:=rfl
theorem t56:fns 56=some f56:=rfl
theorem t31:fns 31=some f31:=rfl
theorem t8:fns 8=some f8:=rfl
theorem t88:fns 88=some f88:=rfl
theorem t58:fns 58=some f58:=rfl
theorem t32:fns 32=some f32:=rfl
theorem t33:fns 33=some f33:=rfl
theorem t9:fns 9=some f9:=rfl
theorem tab_ok:∀ p ∈ tab,Jad Tryz.prog p.1 p.2=true:=by
 simp only [tab,List.forall_mem_cons]
 exact ⟨c10,c89,c60,c34,c11,c27,c37,c36,c125,c126,c105,c106,c90,c91,c107,c127,c108,c92,c61,c62,c63,c64,c65,c35,c66,c67,c38,c78,c51,c52,c30,c68,c39,c40,c12,c41,c93,c103,c155,c156,c124,c104,c86,c57,c99,c80,c117,c97,c168,c169,c141,c190,c170,c142,c118,c101,c82,c143,c119,c171,c144,c145,c120,c146,c121,c115,c147,c148,c122,c163,c134,c172,c149,c150,c191,c173,c174,c151,c192,c175,c176,c177,c152,c193,c178,c179,c153,c154,c123,c98,c79,c85,c100,c81,c87,c102,c84,c83,c54,c75,c55,c161,c132,c162,c133,c111,c135,c217,c207,c201,c210,c211,c189,c213,c214,c218,c216,c215,c188,c164,c165,c136,c137,c112,c166,c138,c139,c167,c140,c113,c59,c114,c94,c69,c42,c43,c44,c13,c45,c14,c46,c70,c71,c72,c47,c15,c73,c76,c116,c95,c74,c48,c16,c17,c19,c96,c77,c49,c18,c50,c20,c21,c22,c23,c24,c25,c53,c26,c3,c5,c28,c6,c29,c7,c56,c31,c8,c88,c58,c32,c33,c9,by simp⟩
theorem fns_ok (f:Nat) (af:AFun) (h:fns f=some af):Jad Tryz.prog f af=true:=tab_ok _ (look_mem h)
theorem once_ok (f:Nat) (af:AFun) (h:fns f=some af) (ho:af.once=true):OnceLaw Tryz.prog (fnOf f):=by
 have:=List.all_eq_true.mp (by rfl:tab.all (fun p=>!p.2.once || Nat.beq p.1 93)=true) _ (look_mem h)
 simp only [ho,Bool.not_true,Bool.false_or] at this
 rw [Nat.eq_of_beq_eq_true this];exact onceLaw
theorem run_ok (n:Nat):Sound Tryz.prog (evf fns n):=evf_sound rfl fns_ok once_ok n
end Go.Proofs.YtahmcphboodogaaGreatDoor.Am
