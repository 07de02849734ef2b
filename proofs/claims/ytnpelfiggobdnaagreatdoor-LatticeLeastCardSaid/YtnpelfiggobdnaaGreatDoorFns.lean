import Derived.Test.YtnpelfiggobdnaaGreatDoorFnsA
import Derived.Test.YtnpelfiggobdnaaGreatDoorOnce
import Derived.Test.YtnpelfiggobdnaaGreatDoorMachF
import Derived.Test.YtnpelfiggobdnaaGreatDoorProg
import Derived.KernelRfl
namespace Go.Proofs.YtnpelfiggobdnaaGreatDoor.Am
open Go
set_option maxRecDepth 100000
def f8:AFun:=⟨3,
 (.seq (xR [xB 3 0,xA 6 (.mov .own xU)] [1,2,3])
 (.seq (.seq (xR [xQ 12 1 3,xA 13 (.callb 10 [(.t 12)]),xM 14 13,xAF 15 (.ld .cp (some 1) (.t 3)) 14,xAF 16 (.callb 12 [(.t 15)]) 14,xAF 17 (.bin .neq (.t 16) (xi 0)) 14,xA 18 (.pick (.t 14) xT (.t 17))] [1,2,3,18])
 (.cond (.t 18)
 (.seq (xR [xA 6 (.mov .own xT)] [6])
 .ret)
 .skip))
 (.seq (xR [xQ 19 1 3,xA 20 (.callb 19 [(.t 19)]),xM 7 20] [1,2,3,7])
 (.seq (.seq (xR [xM 21 7,xH 22 21,xA 23 (.bin .eql (.t 22) (xi 0))] [1,2,3,7,23])
 (.cond (.t 23)
 (.seq (xR [xA 6 (.mov .own xU)] [6])
 .ret)
 .skip))
 (.seq (xG [xM 24 7,xM 25 1,xA 26 (.conv .u64 (.t 25)),xM 27 7,xH 28 27,xA 29 (.conv .u64 (.t 28)),xA 30 (.bin .rem (.t 26) (.t 29)),xA 31 (.conv .i64 (.t 30)),xI 32 6 24 31,xF 33 0 32,xL 34 33,xM 35 7,xM 36 2,xA 37 (.conv .u64 (.t 36)),xM 38 7,xH 39 38,xA 40 (.conv .u64 (.t 39)),xA 41 (.bin .rem (.t 37) (.t 40)),xA 42 (.conv .i64 (.t 41)),xI 43 6 35 42,xF 44 0 43,xL 45 44,xM 8 34,xM 9 45] [3,8,9])
 (.seq (xR [xM 46 8,xA 47 (.build [xc,xa] [(0,1,(xi 5)),(1,1,(.t 46))]),xM 48 9,xA 49 (.build [xc,xa] [(0,1,(xi 5)),(1,1,(.t 48))]),xA 10 (.alloc [xc,xa]),xA 11 (.alloc [xc,xa]),xS 2 10 47,xS 2 11 49] [3,8,9,10,11])
 (.seq (xG [xQ 50 1 3,xM 51 8,xA 52 (.callb 20 [(.t 51)]),xM 53 9,xA 54 (.callb 20 [(.t 53)]),xA 55 (.callb 14 [(.t 50),(.t 52),(.t 54)]),xQ 56 1 3,xM 57 8,xM 58 9,xA 59 (.callb 21 [(.t 56),(.t 57),(.t 58)]),xA 60 (.eq false 0 [] (.t 55) (.t 59)),xM 61 60,xAT 62 (.ld .cp (some 1) (.t 3)) 61,xAT 63 (.ld .cp (some 2) (.t 10)) 61,xAT 64 (.ld .cp (some 2) (.t 11)) 61,xAT 65 (.callb 14 [(.t 62),(.t 63),(.t 64)]) 61,xMT 66 8 61,xMT 67 9 61,xAT 68 (.bin .eql (.t 66) (.t 67)) 61,xAT 69 (.eq false 0 [] (.t 65) (.t 68)) 61,xA 70 (.pick (.t 61) (.t 69) xU),xM 71 70,xAT 72 (.ld .cp (some 1) (.t 3)) 71,xAT 73 (.ld .cp (some 2) (.t 10)) 71,xMT 74 9 71,xAT 75 (.callb 20 [(.t 74)]) 71,xAT 76 (.callb 14 [(.t 72),(.t 73),(.t 75)]) 71,xMT 77 9 71,xAT 78 (.bin .eql (.t 77) (xs ⟨#[79,98,106,101,99,116]⟩)) 71,xAT 79 (.eq false 0 [] (.t 76) (.t 78)) 71,xA 80 (.pick (.t 71) (.t 79) xU),xM 81 80,xAT 82 (.ld .cp (some 1) (.t 3)) 81,xMT 83 8 81,xAT 84 (.callb 20 [(.t 83)]) 81,xAT 85 (.ld .cp (some 2) (.t 10)) 81,xAT 86 (.callb 14 [(.t 82),(.t 84),(.t 85)]) 81,xNT 87 86 81,xA 88 (.pick (.t 81) (.t 87) xU),xM 89 88,xAT 90 (.callb 15 []) 89,xA 91 (.pick (.t 89) (.t 90) xU),xM 6 91] [6])
 .ret))))))),[(.tmp 6)],.pure,false,false⟩
def f22:AFun:=⟨2,
 (.seq (xR [xB 2 0,xA 4 (.alloc [xa,xb,xa,(.osl 1 []),(.osl 4 []),(.osl 9 [])]),xA 5 (.mov .own xU)] [1,2,4])
 (.seq (xR [xQ 9 1 2,xA 10 (.call 39 [(.t 9)]),xM 11 1,xA 12 (.call 41 [(.t 10),(.t 11)]),xO 8 12,xE 13 0 8,xE 14 1 8,xA 6 (.alloc [xa,xb,xa,(.osl 1 []),(.osl 4 []),(.osl 9 [])]),xS 6 6 13,xM 7 14] [4,6,7])
 (.seq (.seq (xR [xM 15 7,xN 16 15] [4,6,16])
 (.cond (.t 16)
 (.seq (xR [xA 17 (.build [xa,xb,xa,(.osl 1 []),(.osl 4 []),(.osl 9 [])] []),xS 6 4 17,xA 5 (.mov .own xU)] [4,5])
 .ret)
 .skip))
 (.seq (xR [xQ 18 6 6,xA 19 (.callb 38 [(.t 18)]),xS 6 4 19,xA 5 (.mov .own xT)] [4,5])
 .ret)))),[(.cell 4 (some 6)),(.tmp 5)],.pure,false,false⟩
def f9:AFun:=⟨3,
 (.seq (xR [xB 3 0,xA 6 (.mov .own xU)] [1,2,3])
 (.seq (.seq (xR [xQ 11 1 3,xA 12 (.callb 10 [(.t 11)]),xM 13 12,xMF 14 2 13,xAF 15 (.len 1 (.t 14)) 13,xAF 16 (.bin .gtr (.t 15) (xi 60)) 13,xA 17 (.pick (.t 13) xT (.t 16)),xM 18 17,xAF 19 (.ld .cp (some 1) (.t 3)) 18,xAF 20 (.callb 12 [(.t 19)]) 18,xAF 21 (.bin .neq (.t 20) (xi 0)) 18,xA 22 (.pick (.t 18) xT (.t 21))] [1,2,3,22])
 (.cond (.t 22)
 (.seq (xR [xA 6 (.mov .own xT)] [6])
 .ret)
 .skip))
 (.seq (xR [xQ 23 1 3,xA 24 (.callb 19 [(.t 23)]),xM 7 24] [1,2,3,7])
 (.seq (.seq (xR [xM 25 7,xH 26 25,xA 27 (.bin .eql (.t 26) (xi 0))] [1,2,3,7,27])
 (.cond (.t 27)
 (.seq (xR [xA 6 (.mov .own xU)] [6])
 .ret)
 .skip))
 (.seq (xR [xM 28 7,xM 29 1,xA 30 (.conv .u64 (.t 29)),xM 31 7,xH 32 31,xA 33 (.conv .u64 (.t 32)),xA 34 (.bin .rem (.t 30) (.t 33)),xA 35 (.conv .i64 (.t 34)),xI 36 6 28 35,xF 37 0 36,xL 38 37,xM 8 38] [2,3,8])
 (.seq (xR [xQ 40 1 3,xM 41 2,xA 42 (.callb 22 [(.t 40),(.t 41)]),xO 39 42,xE 43 0 39,xE 44 1 39,xA 9 (.alloc [xa,xb,xa,(.osl 1 []),(.osl 4 []),(.osl 9 [])]),xS 6 9 43,xM 10 44] [2,3,8,10])
 (.seq (xG [xQ 45 1 3,xM 46 8,xA 47 (.callb 20 [(.t 46)]),xA 48 (.callb 13 [(.t 45),(.t 47)]),xM 49 48,xAT 50 (.ld .cp (some 1) (.t 3)) 49,xMT 51 8 49,xAT 52 (.build [xc,xa] [(0,1,(xi 5)),(1,1,(.t 51))]) 49,xAT 53 (.callb 13 [(.t 50),(.t 52)]) 49,xA 54 (.pick (.t 49) (.t 53) xU),xM 55 54,xAT 56 (.ld .cp (some 1) (.t 3)) 55,xMT 57 2 55,xAT 58 (.callb 20 [(.t 57)]) 55,xAT 59 (.callb 13 [(.t 56),(.t 58)]) 55,xMT 60 10 55,xAT 61 (.eq false 0 [] (.t 59) (.t 60)) 55,xA 62 (.pick (.t 55) (.t 61) xU),xM 63 62,xAT 64 (.ld .cp (some 1) (.t 3)) 63,xMT 65 8 63,xAT 66 (.build [xc,xa] [(0,1,(xi 2)),(1,1,(.t 65))]) 63,xAT 67 (.callb 13 [(.t 64),(.t 66)]) 63,xNT 68 67 63,xA 69 (.pick (.t 63) (.t 68) xU),xM 70 69,xAT 71 (.ld .cp (some 1) (.t 3)) 70,xAT 72 (.build [xc,xa] [(0,1,(xi 1))]) 70,xAT 73 (.callb 13 [(.t 71),(.t 72)]) 70,xNT 74 73 70,xA 75 (.pick (.t 70) (.t 74) xU),xM 76 75,xAT 77 (.ld .cp (some 1) (.t 3)) 76,xAT 78 (.build [xc,xa] [(0,1,(xi 7))]) 76,xAT 79 (.callb 13 [(.t 77),(.t 78)]) 76,xA 80 (.pick (.t 76) (.t 79) xU),xM 81 80,xAT 82 (.callb 15 []) 81,xA 83 (.pick (.t 81) (.t 82) xU),xM 6 83] [6])
 .ret))))))),[(.tmp 6)],.pure,false,false⟩
theorem c10:chkFun Tryz.prog 10 f10=true:=by kernel_rfl
theorem c23:chkFun Tryz.prog 23 f23=true:=by kernel_rfl
theorem c88:chkFun Tryz.prog 88 f88=true:=by kernel_rfl
theorem c77:chkFun Tryz.prog 77 f77=true:=by kernel_rfl
theorem c112:chkFun Tryz.prog 112 f112=true:=by kernel_rfl
theorem c113:chkFun Tryz.prog 113 f113=true:=by kernel_rfl
theorem c95:chkFun Tryz.prog 95 f95=true:=by kernel_rfl
theorem c78:chkFun Tryz.prog 78 f78=true:=by kernel_rfl
theorem c59:chkFun Tryz.prog 59 f59=true:=by kernel_rfl
theorem c37:chkFun Tryz.prog 37 f37=true:=by kernel_rfl
theorem c84:chkFun Tryz.prog 84 f84=true:=by kernel_rfl
theorem c64:chkFun Tryz.prog 64 f64=true:=by kernel_rfl
theorem c96:chkFun Tryz.prog 96 f96=true:=by kernel_rfl
theorem c82:chkFun Tryz.prog 82 f82=true:=by kernel_rfl
theorem c141:chkFun Tryz.prog 141 f141=true:=by kernel_rfl
theorem c142:chkFun Tryz.prog 142 f142=true:=by kernel_rfl
theorem c114:chkFun Tryz.prog 114 f114=true:=by kernel_rfl
theorem c165:chkFun Tryz.prog 165 f165=true:=by kernel_rfl
theorem c143:chkFun Tryz.prog 143 f143=true:=by kernel_rfl
theorem c115:chkFun Tryz.prog 115 f115=true:=by kernel_rfl
theorem c97:chkFun Tryz.prog 97 f97=true:=by kernel_rfl
theorem c86:chkFun Tryz.prog 86 f86=true:=by kernel_rfl
theorem c66:chkFun Tryz.prog 66 f66=true:=by kernel_rfl
theorem c116:chkFun Tryz.prog 116 f116=true:=by kernel_rfl
theorem c98:chkFun Tryz.prog 98 f98=true:=by kernel_rfl
theorem c144:chkFun Tryz.prog 144 f144=true:=by kernel_rfl
theorem c117:chkFun Tryz.prog 117 f117=true:=by kernel_rfl
theorem c118:chkFun Tryz.prog 118 f118=true:=by kernel_rfl
theorem c99:chkFun Tryz.prog 99 f99=true:=by kernel_rfl
theorem c119:chkFun Tryz.prog 119 f119=true:=by kernel_rfl
theorem c100:chkFun Tryz.prog 100 f100=true:=by kernel_rfl
theorem c145:chkFun Tryz.prog 145 f145=true:=by kernel_rfl
theorem c120:chkFun Tryz.prog 120 f120=true:=by kernel_rfl
theorem c121:chkFun Tryz.prog 121 f121=true:=by kernel_rfl
theorem c101:chkFun Tryz.prog 101 f101=true:=by kernel_rfl
theorem c160:chkFun Tryz.prog 160 f160=true:=by kernel_rfl
theorem c134:chkFun Tryz.prog 134 f134=true:=by kernel_rfl
theorem c146:chkFun Tryz.prog 146 f146=true:=by kernel_rfl
theorem c122:chkFun Tryz.prog 122 f122=true:=by kernel_rfl
theorem c123:chkFun Tryz.prog 123 f123=true:=by kernel_rfl
theorem c166:chkFun Tryz.prog 166 f166=true:=by kernel_rfl
theorem c147:chkFun Tryz.prog 147 f147=true:=by kernel_rfl
theorem c148:chkFun Tryz.prog 148 f148=true:=by kernel_rfl
theorem c124:chkFun Tryz.prog 124 f124=true:=by kernel_rfl
theorem c167:chkFun Tryz.prog 167 f167=true:=by kernel_rfl
theorem c149:chkFun Tryz.prog 149 f149=true:=by kernel_rfl
theorem c150:chkFun Tryz.prog 150 f150=true:=by kernel_rfl
theorem c151:chkFun Tryz.prog 151 f151=true:=by kernel_rfl
theorem c125:chkFun Tryz.prog 125 f125=true:=by kernel_rfl
theorem c168:chkFun Tryz.prog 168 f168=true:=by kernel_rfl
theorem c152:chkFun Tryz.prog 152 f152=true:=by kernel_rfl
theorem c153:chkFun Tryz.prog 153 f153=true:=by kernel_rfl
theorem c126:chkFun Tryz.prog 126 f126=true:=by kernel_rfl
theorem c127:chkFun Tryz.prog 127 f127=true:=by kernel_rfl
theorem c102:chkFun Tryz.prog 102 f102=true:=by kernel_rfl
theorem c83:chkFun Tryz.prog 83 f83=true:=by kernel_rfl
theorem c63:chkFun Tryz.prog 63 f63=true:=by kernel_rfl
theorem c70:chkFun Tryz.prog 70 f70=true:=by kernel_rfl
theorem c85:chkFun Tryz.prog 85 f85=true:=by kernel_rfl
theorem c65:chkFun Tryz.prog 65 f65=true:=by kernel_rfl
theorem c60:chkFun Tryz.prog 60 f60=true:=by kernel_rfl
theorem c87:chkFun Tryz.prog 87 f87=true:=by kernel_rfl
theorem c68:chkFun Tryz.prog 68 f68=true:=by kernel_rfl
theorem c67:chkFun Tryz.prog 67 f67=true:=by kernel_rfl
theorem c39:chkFun Tryz.prog 39 f39=true:=by kernel_rfl
theorem c41:chkFun Tryz.prog 41 f41=true:=by kernel_rfl
theorem c47:chkFun Tryz.prog 47 f47=true:=by kernel_rfl
theorem c158:chkFun Tryz.prog 158 f158=true:=by kernel_rfl
theorem c132:chkFun Tryz.prog 132 f132=true:=by kernel_rfl
theorem c159:chkFun Tryz.prog 159 f159=true:=by kernel_rfl
theorem c133:chkFun Tryz.prog 133 f133=true:=by kernel_rfl
theorem c105:chkFun Tryz.prog 105 f105=true:=by kernel_rfl
theorem c135:chkFun Tryz.prog 135 f135=true:=by kernel_rfl
theorem c202:chkFun Tryz.prog 202 f202=true:=by kernel_rfl
theorem c192:chkFun Tryz.prog 192 f192=true:=by kernel_rfl
theorem c186:chkFun Tryz.prog 186 f186=true:=by kernel_rfl
theorem c195:chkFun Tryz.prog 195 f195=true:=by kernel_rfl
theorem c196:chkFun Tryz.prog 196 f196=true:=by kernel_rfl
theorem c178:chkFun Tryz.prog 178 f178=true:=by kernel_rfl
theorem c198:chkFun Tryz.prog 198 f198=true:=by kernel_rfl
theorem c199:chkFun Tryz.prog 199 f199=true:=by kernel_rfl
theorem c203:chkFun Tryz.prog 203 f203=true:=by kernel_rfl
theorem c201:chkFun Tryz.prog 201 f201=true:=by kernel_rfl
theorem c200:chkFun Tryz.prog 200 f200=true:=by kernel_rfl
theorem c177:chkFun Tryz.prog 177 f177=true:=by kernel_rfl
theorem c161:chkFun Tryz.prog 161 f161=true:=by kernel_rfl
theorem c162:chkFun Tryz.prog 162 f162=true:=by kernel_rfl
theorem c136:chkFun Tryz.prog 136 f136=true:=by kernel_rfl
theorem c137:chkFun Tryz.prog 137 f137=true:=by kernel_rfl
theorem c106:chkFun Tryz.prog 106 f106=true:=by kernel_rfl
theorem c163:chkFun Tryz.prog 163 f163=true:=by kernel_rfl
theorem c138:chkFun Tryz.prog 138 f138=true:=by kernel_rfl
theorem c139:chkFun Tryz.prog 139 f139=true:=by kernel_rfl
theorem c164:chkFun Tryz.prog 164 f164=true:=by kernel_rfl
theorem c140:chkFun Tryz.prog 140 f140=true:=by kernel_rfl
theorem c107:chkFun Tryz.prog 107 f107=true:=by kernel_rfl
theorem c40:chkFun Tryz.prog 40 f40=true:=by kernel_rfl
theorem c108:chkFun Tryz.prog 108 f108=true:=by kernel_rfl
theorem c89:chkFun Tryz.prog 89 f89=true:=by kernel_rfl
theorem c69:chkFun Tryz.prog 69 f69=true:=by kernel_rfl
theorem c42:chkFun Tryz.prog 42 f42=true:=by kernel_rfl
theorem c43:chkFun Tryz.prog 43 f43=true:=by kernel_rfl
theorem c24:chkFun Tryz.prog 24 f24=true:=by kernel_rfl
theorem c44:chkFun Tryz.prog 44 f44=true:=by kernel_rfl
theorem c45:chkFun Tryz.prog 45 f45=true:=by kernel_rfl
theorem c46:chkFun Tryz.prog 46 f46=true:=by kernel_rfl
theorem c25:chkFun Tryz.prog 25 f25=true:=by kernel_rfl
theorem c11:chkFun Tryz.prog 11 f11=true:=by kernel_rfl
theorem c28:chkFun Tryz.prog 28 f28=true:=by kernel_rfl
theorem c94:chkFun Tryz.prog 94 f94=true:=by kernel_rfl
theorem c75:chkFun Tryz.prog 75 f75=true:=by kernel_rfl
theorem c74:chkFun Tryz.prog 74 f74=true:=by kernel_rfl
theorem c53:chkFun Tryz.prog 53 f53=true:=by kernel_rfl
theorem c53v1:chkFun Tryz.prog 4149 f53v1=true:=by kernel_rfl
theorem c53v2:chkFun Tryz.prog 8245 f53v2=true:=by kernel_rfl
theorem c27:chkFun Tryz.prog 27 f27=true:=by kernel_rfl
theorem c33:chkFun Tryz.prog 33 f33=true:=by kernel_rfl
theorem c109:chkFun Tryz.prog 109 f109=true:=by kernel_rfl
theorem c110:chkFun Tryz.prog 110 f110=true:=by kernel_rfl
theorem c90:chkFun Tryz.prog 90 f90=true:=by kernel_rfl
theorem c91:chkFun Tryz.prog 91 f91=true:=by kernel_rfl
theorem c71:chkFun Tryz.prog 71 f71=true:=by kernel_rfl
theorem c72:chkFun Tryz.prog 72 f72=true:=by kernel_rfl
theorem c92:chkFun Tryz.prog 92 f92=true:=by kernel_rfl
theorem c111:chkFun Tryz.prog 111 f111=true:=by kernel_rfl
theorem c93:chkFun Tryz.prog 93 f93=true:=by kernel_rfl
theorem c73:chkFun Tryz.prog 73 f73=true:=by kernel_rfl
theorem c48:chkFun Tryz.prog 48 f48=true:=by kernel_rfl
theorem c49:chkFun Tryz.prog 49 f49=true:=by kernel_rfl
theorem c50:chkFun Tryz.prog 50 f50=true:=by kernel_rfl
theorem c51:chkFun Tryz.prog 51 f51=true:=by kernel_rfl
theorem c52:chkFun Tryz.prog 52 f52=true:=by kernel_rfl
theorem c26:chkFun Tryz.prog 26 f26=true:=by kernel_rfl
theorem c54:chkFun Tryz.prog 54 f54=true:=by kernel_rfl
theorem c55:chkFun Tryz.prog 55 f55=true:=by kernel_rfl
theorem c29:chkFun Tryz.prog 29 f29=true:=by kernel_rfl
theorem c36:chkFun Tryz.prog 36 f36=true:=by kernel_rfl
theorem c56:chkFun Tryz.prog 56 f56=true:=by kernel_rfl
theorem c57:chkFun Tryz.prog 57 f57=true:=by kernel_rfl
theorem c76:chkFun Tryz.prog 76 f76=true:=by kernel_rfl
theorem c58:chkFun Tryz.prog 58 f58=true:=by kernel_rfl
theorem c30:chkFun Tryz.prog 30 f30=true:=by kernel_rfl
theorem c31:chkFun Tryz.prog 31 f31=true:=by kernel_rfl
theorem c12:chkFun Tryz.prog 12 f12=true:=by kernel_rfl
theorem c13:chkFun Tryz.prog 13 f13=true:=by kernel_rfl
theorem c32:chkFun Tryz.prog 32 f32=true:=by kernel_rfl
theorem c14:chkFun Tryz.prog 14 f14=true:=by kernel_rfl
theorem c20:chkFun Tryz.prog 20 f20=true:=by kernel_rfl
theorem c15:chkFun Tryz.prog 15 f15=true:=by kernel_rfl
theorem c16:chkFun Tryz.prog 16 f16=true:=by kernel_rfl
theorem c34:chkFun Tryz.prog 34 f34=true:=by kernel_rfl
theorem c35:chkFun Tryz.prog 35 f35=true:=by kernel_rfl
theorem c17:chkFun Tryz.prog 17 f17=true:=by kernel_rfl
theorem c18:chkFun Tryz.prog 18 f18=true:=by kernel_rfl
theorem c3:chkFun Tryz.prog 3 f3=true:=by kernel_rfl
theorem c4:chkFun Tryz.prog 4 f4=true:=by kernel_rfl
theorem c5:chkFun Tryz.prog 5 f5=true:=by kernel_rfl
theorem c61:chkFun Tryz.prog 61 f61=true:=by kernel_rfl
theorem c79:chkFun Tryz.prog 79 f79=true:=by kernel_rfl
theorem c80:chkFun Tryz.prog 80 f80=true:=by kernel_rfl
theorem c81:chkFun Tryz.prog 81 f81=true:=by kernel_rfl
theorem c62:chkFun Tryz.prog 62 f62=true:=by kernel_rfl
theorem c38:chkFun Tryz.prog 38 f38=true:=by kernel_rfl
theorem c19:chkFun Tryz.prog 19 f19=true:=by kernel_rfl
theorem c6:chkFun Tryz.prog 6 f6=true:=by kernel_rfl
theorem c21:chkFun Tryz.prog 21 f21=true:=by kernel_rfl
theorem c7:chkFun Tryz.prog 7 f7=true:=by kernel_rfl
theorem c8:chkFun Tryz.prog 8 f8=true:=by kernel_rfl
theorem c22:chkFun Tryz.prog 22 f22=true:=by kernel_rfl
theorem c9:chkFun Tryz.prog 9 f9=true:=by kernel_rfl
def tab:List (Nat × AFun):=[(10,f10),(23,f23),(88,f88),(77,f77),(112,f112),(113,f113),(95,f95),(78,f78),(59,f59),(37,f37),(84,f84),(64,f64),(96,f96),(82,f82),(141,f141),(142,f142),(114,f114),(165,f165),(143,f143),(115,f115),(97,f97),(86,f86),(66,f66),(116,f116),(98,f98),(144,f144),(117,f117),(118,f118),(99,f99),(119,f119),(100,f100),(145,f145),(120,f120),(121,f121),(101,f101),(160,f160),(134,f134),(146,f146),(122,f122),(123,f123),(166,f166),(147,f147),(148,f148),(124,f124),(167,f167),(149,f149),(150,f150),(151,f151),(125,f125),(168,f168),(152,f152),(153,f153),(126,f126),(127,f127),(102,f102),(83,f83),(63,f63),(70,f70),(85,f85),(65,f65),(60,f60),(87,f87),(68,f68),(67,f67),(39,f39),(41,f41),(47,f47),(158,f158),(132,f132),(159,f159),(133,f133),(105,f105),(135,f135),(202,f202),(192,f192),(186,f186),(195,f195),(196,f196),(178,f178),(198,f198),(199,f199),(203,f203),(201,f201),(200,f200),(177,f177),(161,f161),(162,f162),(136,f136),(137,f137),(106,f106),(163,f163),(138,f138),(139,f139),(164,f164),(140,f140),(107,f107),(40,f40),(108,f108),(89,f89),(69,f69),(42,f42),(43,f43),(24,f24),(44,f44),(45,f45),(46,f46),(25,f25),(11,f11),(28,f28),(94,f94),(75,f75),(74,f74),(53,f53),(4149,f53v1),(8245,f53v2),(27,f27),(33,f33),(109,f109),(110,f110),(90,f90),(91,f91),(71,f71),(72,f72),(92,f92),(111,f111),(93,f93),(73,f73),(48,f48),(49,f49),(50,f50),(51,f51),(52,f52),(26,f26),(54,f54),(55,f55),(29,f29),(36,f36),(56,f56),(57,f57),(76,f76),(58,f58),(30,f30),(31,f31),(12,f12),(13,f13),(32,f32),(14,f14),(20,f20),(15,f15),(16,f16),(34,f34),(35,f35),(17,f17),(18,f18),(3,f3),(4,f4),(5,f5),(61,f61),(79,f79),(80,f80),(81,f81),(62,f62),(38,f38),(19,f19),(6,f6),(21,f21),(7,f7),(8,f8),(22,f22),(9,f9)]
def look (f:Nat):List (Nat × AFun)→Option AFun
 | []=>none
 | (g,a) :: l=>bif Nat.beq f g then some a else look f l
theorem look_mem {f:Nat} {a:AFun}:∀ {l:List (Nat × AFun)},look f l=some a→(f,a) ∈ l
 | [],h=>by simp [look] at h
 | (g,b) :: l,h=>by
  simp only [look] at h
  cases hb:Nat.beq f g with
  | true=>rw [hb] at h;have:=Nat.eq_of_beq_eq_true hb;subst this;simp only [cond_true,Option.some.injEq] at h;subst h;exact List.mem_cons_self
  | false=>rw [hb] at h;exact List.mem_cons_of_mem _ (look_mem h)
def fns (f:Nat):Option AFun:=look f tab
theorem t10:fns 10=some f10:=rfl
theorem t23:fns 23=some f23:=rfl
theorem t88:fns 88=some f88:=rfl
theorem t77:fns 77=some f77:=rfl
theorem t112:fns 112=some f112:=rfl
theorem t113:fns 113=some f113:=rfl
theorem t95:fns 95=some f95:=rfl
theorem t78:fns 78=some f78:=rfl
theorem t59:fns 59=some f59:=rfl
theorem t37:fns 37=some f37:=rfl
theorem t84:fns 84=some f84:=rfl
theorem t64:fns 64=some f64:=rfl
theorem t96:fns 96=some f96:=rfl
theorem t82:fns 82=some f82:=rfl
theorem t141:fns 141=some f141:=rfl
theorem t142:fns 142=some f142:=rfl
theorem t114:fns 114=some f114:=rfl
theorem t165:fns 165=some f165:=rfl
theorem t143:fns 143=some f143:=rfl
theorem t115:fns 115=some f115:=rfl
theorem t97:fns 97=some f97:=rfl
theorem t86:fns 86=some f86:=rfl
theorem t66:fns 66=some f66:=rfl
theorem t116:fns 116=some f116:=rfl
theorem t98:fns 98=some f98:=rfl
theorem t144:fns 144=some f144:=rfl
theorem t117:fns 117=some f117:=rfl
theorem t118:fns 118=some f118:=rfl
theorem t99:fns 99=some f99:=rfl
theorem t119:fns 119=some f119:=rfl
theorem t100:fns 100=some f100:=rfl
theorem t145:fns 145=some f145:=rfl
theorem t120:fns 120=some f120:=rfl
theorem t121:fns 121=some f121:=rfl
theorem t101:fns 101=some f101:=rfl
theorem t160:fns 160=some f160:=rfl
theorem t134:fns 134=some f134:=rfl
theorem t146:fns 146=some f146:=rfl
theorem t122:fns 122=some f122:=rfl
theorem t123:fns 123=some f123:=rfl
theorem t166:fns 166=some f166:=rfl
theorem t147:fns 147=some f147:=rfl
theorem t148:fns 148=some f148:=rfl
theorem t124:fns 124=some f124:=rfl
theorem t167:fns 167=some f167:=rfl
theorem t149:fns 149=some f149:=rfl
theorem t150:fns 150=some f150:=rfl
theorem t151:fns 151=some f151:=rfl
theorem t125:fns 125=some f125:=rfl
theorem t168:fns 168=some f168:=rfl
theorem t152:fns 152=some f152:=rfl
theorem t153:fns 153=some f153:=rfl
theorem t126:fns 126=some f126:=rfl
theorem t127:fns 127=some f127:=rfl
theorem t102:fns 102=some f102:=rfl
theorem t83:fns 83=some f83:=rfl
theorem t63:fns 63=some f63:=rfl
theorem t70:fns 70=some f70:=rfl
theorem t85:fns 85=some f85:=rfl
theorem t65:fns 65=some f65:=rfl
theorem t60:fns 60=some f60:=rfl
theorem t87:fns 87=some f87:=rfl
theorem t68:fns 68=some f68:=rfl
theorem t67:fns 67=some f67:=rfl
theorem t39:fns 39=some f39:=rfl
theorem t41:fns 41=some f41:=rfl
theorem t47:fns 47=some f47:=rfl
theorem t158:fns 158=some f158:=rfl
theorem t132:fns 132=some f132:=rfl
theorem t159:fns 159=some f159:=rfl
theorem t133:fns 133=some f133:=rfl
theorem t105:fns 105=some f105:=rfl
theorem t135:fns 135=some f135:=rfl
theorem t202:fns 202=some f202:=rfl
theorem t192:fns 192=some f192:=rfl
theorem t186:fns 186=some f186:=rfl
theorem t195:fns 195=some f195:=rfl
theorem t196:fns 196=some f196:=rfl
theorem t178:fns 178=some f178:=rfl
theorem t198:fns 198=some f198:=rfl
theorem t199:fns 199=some f199:=rfl
theorem t203:fns 203=some f203:=rfl
theorem t201:fns 201=some f201:=rfl
theorem t200:fns 200=some f200:=rfl
theorem t177:fns 177=some f177:=rfl
theorem t161:fns 161=some f161:=rfl
theorem t162:fns 162=some f162:=rfl
theorem t136:fns 136=some f136:=rfl
theorem t137:fns 137=some f137:=rfl
theorem t106:fns 106=some f106:=rfl
theorem t163:fns 163=some f163:=rfl
theorem t138:fns 138=some f138:=rfl
theorem t139:fns 139=some f139:=rfl
theorem t164:fns 164=some f164:=rfl
theorem t140:fns 140=some f140:=rfl
theorem t107:fns 107=some f107:=rfl
theorem t40:fns 40=some f40:=rfl
theorem t108:fns 108=some f108:=rfl
theorem t89:fns 89=some f89:=rfl
theorem t69:fns 69=some f69:=rfl
theorem t42:fns 42=some f42:=rfl
theorem t43:fns 43=some f43:=rfl
theorem t24:fns 24=some f24:=rfl
theorem t44:fns 44=some f44:=rfl
theorem t45:fns 45=some f45:=rfl
theorem t46:fns 46=some f46:=rfl
theorem t25:fns 25=some f25:=rfl
theorem t11:fns 11=some f11:=rfl
theorem t28:fns 28=some f28:=rfl
theorem t94:fns 94=some f94:=rfl
theorem t75:fns 75=some f75:=rfl
theorem t74:fns 74=some f74:=rfl
theorem t53:fns 53=some f53:=rfl
theorem t53v1:fns 4149=some f53v1:=rfl
theorem t53v2:fns 8245=some f53v2:=rfl
theorem t27:fns 27=some f27:=rfl
theorem t33:fns 33=some f33:=rfl
theorem t109:fns 109=some f109:=rfl
theorem t110:fns 110=some f110:=rfl
theorem t90:fns 90=some f90:=rfl
theorem t91:fns 91=some f91:=rfl
theorem t71:fns 71=some f71:=rfl
theorem t72:fns 72=some f72:=rfl
theorem t92:fns 92=some f92:=rfl
theorem t111:fns 111=some f111:=rfl
theorem t93:fns 93=some f93:=rfl
theorem t73:fns 73=some f73:=rfl
theorem t48:fns 48=some f48:=rfl
theorem t49:fns 49=some f49:=rfl
theorem t50:fns 50=some f50:=rfl
theorem t51:fns 51=some f51:=rfl
theorem t52:fns 52=some f52:=rfl
theorem t26:fns 26=some f26:=rfl
theorem t54:fns 54=some f54:=rfl
theorem t55:fns 55=some f55:=rfl
theorem t29:fns 29=some f29:=rfl
theorem t36:fns 36=some f36:=rfl
theorem t56:fns 56=some f56:=rfl
theorem t57:fns 57=some f57:=rfl
theorem t76:fns 76=some f76:=rfl
theorem t58:fns 58=some f58:=rfl
theorem t30:fns 30=some f30:=rfl
theorem t31:fns 31=some f31:=rfl
theorem t12:fns 12=some f12:=rfl
theorem t13:fns 13=some f13:=rfl
theorem t32:fns 32=some f32:=rfl
theorem t14:fns 14=some f14:=rfl
theorem t20:fns 20=some f20:=rfl
theorem t15:fns 15=some f15:=rfl
theorem t16:fns 16=some f16:=rfl
theorem t34:fns 34=some f34:=rfl
theorem t35:fns 35=some f35:=rfl
theorem t17:fns 17=some f17:=rfl
theorem t18:fns 18=some f18:=rfl
theorem t3:fns 3=some f3:=rfl
theorem t4:fns 4=some f4:=rfl
theorem t5:fns 5=some f5:=rfl
theorem t61:fns 61=some f61:=rfl
theorem t79:fns 79=some f79:=rfl
theorem t80:fns 80=some f80:=rfl
theorem t81:fns 81=some f81:=rfl
theorem t62:fns 62=some f62:=rfl
theorem t38:fns 38=some f38:=rfl
theorem t19:fns 19=some f19:=rfl
theorem t6:fns 6=some f6:=rfl
theorem t21:fns 21=some f21:=rfl
theorem t7:fns 7=some f7:=rfl
theorem t8:fns 8=some f8:=rfl
theorem t22:fns 22=some f22:=rfl
theorem t9:fns 9=some f9:=rfl
theorem tab_ok:∀ p ∈ tab,chkFun Tryz.prog p.1 p.2=true:=by
 simp only [tab,List.forall_mem_cons]
 exact ⟨c10,c23,c88,c77,c112,c113,c95,c78,c59,c37,c84,c64,c96,c82,c141,c142,c114,c165,c143,c115,c97,c86,c66,c116,c98,c144,c117,c118,c99,c119,c100,c145,c120,c121,c101,c160,c134,c146,c122,c123,c166,c147,c148,c124,c167,c149,c150,c151,c125,c168,c152,c153,c126,c127,c102,c83,c63,c70,c85,c65,c60,c87,c68,c67,c39,c41,c47,c158,c132,c159,c133,c105,c135,c202,c192,c186,c195,c196,c178,c198,c199,c203,c201,c200,c177,c161,c162,c136,c137,c106,c163,c138,c139,c164,c140,c107,c40,c108,c89,c69,c42,c43,c24,c44,c45,c46,c25,c11,c28,c94,c75,c74,c53,c53v1,c53v2,c27,c33,c109,c110,c90,c91,c71,c72,c92,c111,c93,c73,c48,c49,c50,c51,c52,c26,c54,c55,c29,c36,c56,c57,c76,c58,c30,c31,c12,c13,c32,c14,c20,c15,c16,c34,c35,c17,c18,c3,c4,c5,c61,c79,c80,c81,c62,c38,c19,c6,c21,c7,c8,c22,c9,by simp⟩
theorem fns_ok (f:Nat) (af:AFun) (h:fns f=some af):chkFun Tryz.prog f af=true:=tab_ok _ (look_mem h)
theorem once_ok (f:Nat) (af:AFun) (h:fns f=some af) (ho:af.once=true):OnceLaw Tryz.prog (fnOf f):=by
 have:=List.all_eq_true.mp (by rfl:tab.all (fun p=>!p.2.once || Nat.beq p.1 88)=true) _ (look_mem h)
 simp only [ho,Bool.not_true,Bool.false_or] at this
 rw [Nat.eq_of_beq_eq_true this];exact onceLaw
theorem run_ok (n:Nat):Sound Tryz.prog (evf fns n):=evf_sound rfl fns_ok once_ok n
end Go.Proofs.YtnpelfiggobdnaaGreatDoor.Am
