/- Lemmas that the rows' proofs rest on; each states its own conditions. -/
import Derived.Test.YtahmcphboodogaaGreatDoorHierMA
namespace Go.Proofs.YtahmcphboodogaaGreatDoor.Am
set_option linter.unusedSimpArgs false
set_option linter.unusedVariables false
set_option linter.unusedSectionVars false
open Go
section
attribute [local simp ↓] K_seq JdI JcH JbK JdG JdH K_ret JdF JdJ JcJ JcI JbR
attribute [local simp] JcG JcF JcD JcB JcC Jaa St.rd St.raw St.set St.took JbG V.down C.down Env.keep binV unV arith Jb0 strs intOf JbO Jbh JcP andK endOf frzV frz1 frzC frzCs frz1s resOf Jb3 JcN V.closed V.closed1 C.closed B.closed Ob.closed V.cells JaO rep chunk datas C.data JbS Jai Jcm JbD JbE JaC C.plain JbJ JcA Jcx Jcw Jcv Jcy Jcz Jcr Jcs Jcu Jct Jc8 Jch Jdx Jcg Jcj Jdy Jci Jck Jbp Jbz JbA vagg Jb8 Jbs Jb7 k_Int JdB k_Str JbC Jbc JbB Jbq Jdz Jba JbH JaX Ja4 Jco JaU Jbf JaK Ja3 Jcn JaT Jbe JaJ Ja5 Jcq JaW Jbg JaL JaQ JbF JaI Ja0 Jcp JaV JaE Jbd JaA Jbr JdA Jbb JbI JaY
def Jav (n:Int):Int:=if n=1 then 1 else if n=3∨n=4 then 2 else if 14≤n∧n≤26 then 3 else if n=27∨n=33∨n=37∨n=38 then 4 else if (28≤n∧n≤31)∨n=39∨n=40 then 5 else 0
theorem JcR (n:Int) (σ:List Ob) (lo tr:Nat):Fn fns 127 [vint n] σ lo tr=some (vint (Jav n),σ):=by
 refine Jah t127 rfl (σ1:=[]) rfl rfl ?_ σ lo tr
 unfold Jav
 by_cases h1:n=1
 ·simp [KF,params,f127,h1]
 by_cases h3:n=3
 ·simp [KF,params,f127,h3]
 by_cases h4:n=4
 ·simp [KF,params,f127,h4]
 by_cases ha:14≤n
 case neg =>
  have e1:¬ n=27:=by omega
  have e2:¬ n=33:=by omega
  have e3:¬ n=37:=by omega
  have e4:¬ n=38:=by omega
  have e5:¬ n=39:=by omega
  have e6:¬ n=40:=by omega
  have e7:¬ 28≤n:=by omega
  simp [KF,params,f127,h1,h3,h4,ha,e1,e2,e3,e4,e5,e6,e7]
 by_cases hb:n≤26
 ·simp [KF,params,f127,h1,h3,h4,ha,hb]
 by_cases e1:n=27
 ·simp [KF,params,f127,e1]
 by_cases e2:n=33
 ·simp [KF,params,f127,e2]
 by_cases e3:n=37
 ·simp [KF,params,f127,e3]
 by_cases e4:n=38
 ·simp [KF,params,f127,e4]
 have hc:28≤n:=by omega
 by_cases hd:n≤31
 ·simp [KF,params,f127,h1,h3,h4,ha,hb,e1,e2,e3,e4,hc,hd]
 by_cases e5:n=39
 ·simp [KF,params,f127,e5]
 by_cases e6:n=40
 ·simp [KF,params,f127,e6]
 simp [KF,params,f127,h1,h3,h4,ha,hb,e1,e2,e3,e4,hc,hd,e5,e6]
def loN (n:Int):Int:=if Jav n=1 then -2147483648 else 0
def hiN (n:Int):Int:=if Jav n=1 then 2147483647 else if Jav n=2 then 7 else if Jav n=3 then 47 else 0
def Jdq (s:ByteArray) (is:Bool):Bool:=bif is then Jaw s else decide (s=⟨#[]⟩)
def JdC (x:GInstr):Bool:=inB x.op 0 43 && (inB x.n (loN x.op) (hiN x.op) && (Jdq x.a (decide (4≤Jav x.op)) && Jdq x.b (decide (5≤Jav x.op))))
theorem shape_cases (n:Int):Jav n=0∨Jav n=1∨Jav n=2∨Jav n=3∨Jav n=4∨Jav n=5:=by
 unfold Jav
 split
 ·simp
 ·split
  ·simp
  ·split
   ·simp
   ·split
    ·simp
    ·split<;>simp
theorem fn_refInstr (x:GInstr) (σ:List Ob) (lo tr:Nat):Fn fns 108 [vInstr x] σ lo tr=some (vbool (JdC x),σ):=by
 refine Jah t108 rfl (σ1:=[]) rfl rfl ?_ σ lo tr
 unfold JdC loN hiN
 cases h0:inB x.op 0 43
 ·simp [KF,params,f108,JaG,h0]
 have hz:inB x.n 0 0=decide (x.n=0):=by
  unfold inB
  by_cases h:x.n=0
  ·simp [h]
  ·by_cases h':0≤x.n<;>simp [h,h'];omega
 rcases shape_cases x.op with h | h | h | h | h | h
 ·rw [h]
  simp only [if_neg (show ¬ (0:Int)=1 by decide),if_neg (show ¬ (0:Int)=2 by decide),if_neg (show ¬ (0:Int)=3 by decide),hz]
  by_cases h2:x.n=0
  ·by_cases h3:x.a=⟨#[]⟩<;>simp [KF,params,f108,JaG,JcR,Jag,h0,h,h2,h3,Jdq]
  ·simp [KF,params,f108,JaG,JcR,Jag,h0,h,h2,Jdq]
 ·rw [h]
  simp only [if_pos]
  cases h2:inB x.n (-2147483648) 2147483647
  ·simp [KF,params,f108,JaG,JcR,Jag,h0,h,h2,Jdq]
  ·by_cases h3:x.a=⟨#[]⟩<;>simp [KF,params,f108,JaG,JcR,Jag,h0,h,h2,h3,Jdq]
 ·rw [h]
  simp only [if_neg (show ¬ (2:Int)=1 by decide),if_pos]
  cases h2:inB x.n 0 7
  ·simp [KF,params,f108,JaG,JcR,Jag,h0,h,h2,Jdq]
  ·by_cases h3:x.a=⟨#[]⟩<;>simp [KF,params,f108,JaG,JcR,Jag,h0,h,h2,h3,Jdq]
 ·rw [h]
  simp only [if_neg (show ¬ (3:Int)=1 by decide),if_neg (show ¬ (3:Int)=2 by decide),if_pos]
  cases h2:inB x.n 0 47
  ·simp [KF,params,f108,JaG,JcR,Jag,h0,h,h2,Jdq]
  ·by_cases h3:x.a=⟨#[]⟩<;>simp [KF,params,f108,JaG,JcR,Jag,h0,h,h2,h3,Jdq]
 ·rw [h]
  simp only [if_neg (show ¬ (4:Int)=1 by decide),if_neg (show ¬ (4:Int)=2 by decide),if_neg (show ¬ (4:Int)=3 by decide),hz]
  by_cases h2:x.n=0
  ·cases h3:Jaw x.a<;>simp [KF,params,f108,JaG,JcR,Jag,h0,h,h2,h3,Jdq]
  ·simp [KF,params,f108,JaG,JcR,Jag,h0,h,h2,Jdq]
 ·rw [h]
  simp only [if_neg (show ¬ (5:Int)=1 by decide),if_neg (show ¬ (5:Int)=2 by decide),if_neg (show ¬ (5:Int)=3 by decide),hz]
  by_cases h2:x.n=0
  ·cases h3:Jaw x.a<;>simp [KF,params,f108,JaG,JcR,Jag,h0,h,h2,h3,Jdq]
  ·simp [KF,params,f108,JaG,JcR,Jag,h0,h,h2,Jdq]
theorem fn_jump (n:Int) (σ:List Ob) (lo tr:Nat):Fn fns 192 [vint n] σ lo tr=some (vbool (decide (Jav n=3)),σ):=by
 refine Jah t192 rfl (σ1:=[]) rfl rfl ?_ σ lo tr
 have:decide (Jav n=3)=(decide (14≤n) && decide (n≤26)):=by
  unfold Jav
  by_cases h1:n=1
  ·simp [h1]
  by_cases h2:n=3∨n=4
  ·rcases h2 with h2 | h2<;>simp [h2]
  by_cases h3:14≤n∧n≤26
  ·simp [h1,h2,h3]
  have h3':(decide (14≤n) && decide (n≤26))=false:=by simp;omega
  rw [h3']
  simp only [if_neg h1,if_neg h2,if_neg h3]
  split
  ·rfl
  ·split<;>rfl
 rw [this]
 by_cases h:14≤n<;>simp [KF,params,f192,h]
theorem fn_num (n:Int) (σ:List Ob) (lo tr:Nat):Fn fns 175 [vint n] σ lo tr=some (.tup [vint (loN n),vint (hiN n),vbool (decide (1≤Jav n) && decide (Jav n≤3))],σ):=by
 refine Jah t175 rfl (σ1:=[]) rfl rfl ?_ σ lo tr
 have hj:=fn_jump n
 unfold loN hiN
 by_cases h1:n=1
 ·have:Jav n=1:=by simp [Jav,h1]
  rw [this]
  simp [KF,params,f175,h1]
 by_cases h2:n=3
 ·have:Jav n=2:=by simp [Jav,h2]
  rw [this]
  simp [KF,params,f175,h2]
 by_cases h3:n=4
 ·have:Jav n=2:=by simp [Jav,h3]
  rw [this]
  simp [KF,params,f175,h3]
 have n1:¬ Jav n=1:=by
  unfold Jav
  simp only [h1,h2,h3,or_self,if_false]
  split
  ·decide
  ·split
   ·decide
   ·split<;>decide
 have n2:¬ Jav n=2:=by
  unfold Jav
  simp only [h1,h2,h3,or_self,if_false]
  split
  ·decide
  ·split
   ·decide
   ·split<;>decide
 by_cases h4:Jav n=3
 ·rw [h4] at hj ⊢
  simp [KF,params,f175,h1,h2,h3,hj]
 ·have e1:(decide (1≤Jav n) && decide (Jav n≤3))=false:=by
   rcases shape_cases n with h | h | h | h | h | h<;>simp_all
  rw [e1]
  simp only [h4,decide_false] at hj
  simp [KF,params,f175,h1,h2,h3,hj,n1,n2,h4]
theorem fn_names_ (n:Int):∃ m:Int,(∀ σ lo tr,Fn fns 177 [vint n] σ lo tr=some (vint m,σ))∧decide (0 < m)=decide (4≤Jav n)∧decide (1 < m)=decide (5≤Jav n):=by
 by_cases e1:n=27
 ·exact ⟨1,fun σ lo tr=>Jah t177 rfl (σ1:=[]) rfl rfl (by simp [KF,params,f177,e1]) σ lo tr,by simp [Jav,e1],by simp [Jav,e1]⟩
 by_cases e2:n=33
 ·exact ⟨1,fun σ lo tr=>Jah t177 rfl (σ1:=[]) rfl rfl (by simp [KF,params,f177,e2]) σ lo tr,by simp [Jav,e2],by simp [Jav,e2]⟩
 by_cases e3:n=37
 ·exact ⟨1,fun σ lo tr=>Jah t177 rfl (σ1:=[]) rfl rfl (by simp [KF,params,f177,e3]) σ lo tr,by simp [Jav,e3],by simp [Jav,e3]⟩
 by_cases e4:n=38
 ·exact ⟨1,fun σ lo tr=>Jah t177 rfl (σ1:=[]) rfl rfl (by simp [KF,params,f177,e4]) σ lo tr,by simp [Jav,e4],by simp [Jav,e4]⟩
 by_cases g1:n=28
 ·exact ⟨2,fun σ lo tr=>Jah t177 rfl (σ1:=[]) rfl rfl (by simp [KF,params,f177,g1]) σ lo tr,by simp [Jav,g1],by simp [Jav,g1]⟩
 by_cases g2:n=29
 ·exact ⟨2,fun σ lo tr=>Jah t177 rfl (σ1:=[]) rfl rfl (by simp [KF,params,f177,g2]) σ lo tr,by simp [Jav,g2],by simp [Jav,g2]⟩
 by_cases g3:n=30
 ·exact ⟨2,fun σ lo tr=>Jah t177 rfl (σ1:=[]) rfl rfl (by simp [KF,params,f177,g3]) σ lo tr,by simp [Jav,g3],by simp [Jav,g3]⟩
 by_cases g4:n=31
 ·exact ⟨2,fun σ lo tr=>Jah t177 rfl (σ1:=[]) rfl rfl (by simp [KF,params,f177,g4]) σ lo tr,by simp [Jav,g4],by simp [Jav,g4]⟩
 by_cases g5:n=39
 ·exact ⟨2,fun σ lo tr=>Jah t177 rfl (σ1:=[]) rfl rfl (by simp [KF,params,f177,g5]) σ lo tr,by simp [Jav,g5],by simp [Jav,g5]⟩
 by_cases g6:n=40
 ·exact ⟨2,fun σ lo tr=>Jah t177 rfl (σ1:=[]) rfl rfl (by simp [KF,params,f177,g6]) σ lo tr,by simp [Jav,g6],by simp [Jav,g6]⟩
 have hs:Jav n < 4:=by
  unfold Jav
  split
  ·decide
  ·split
   ·decide
   ·split
    ·decide
    ·rw [if_neg (by omega),if_neg (by omega)];decide
 exact ⟨0,fun σ lo tr=>Jah t177 rfl (σ1:=[]) rfl rfl (by simp [KF,params,f177,e1,e2,e3,e4,g1,g2,g3,g4,g5,g6]) σ lo tr,by simp;omega,by simp;omega⟩
theorem fn_named (s:ByteArray) (is:Bool) (σ:List Ob) (lo tr:Nat):Fn fns 176 [vstr s,vbool is] σ lo tr=some (vbool (Jdq s is),σ):=by
 refine Jah t176 rfl (σ1:=[]) rfl rfl ?_ σ lo tr
 unfold Jdq
 cases is
 ·simp [KF,params,f176]
 ·cases h:Jaw s<;>simp [KF,params,f176,Jaz,h]
theorem fn_instr (x:GInstr) (σ:List Ob) (lo tr:Nat):Fn fns 152 [vInstr x] σ lo tr=some (vbool (JdC x),σ):=by
 refine Jah t152 rfl (σ1:=[]) rfl rfl ?_ σ lo tr
 obtain ⟨m,h1,h2,h3⟩:=fn_names_ x.op
 unfold JdC
 rw [← h2,← h3]
 cases c0:inB x.op 0 43
 ·simp [KF,params,f152,fn_num,fn_in,fn_named,h1,c0]
 cases c1:inB x.n (loN x.op) (hiN x.op)
 ·simp [KF,params,f152,fn_num,fn_in,fn_named,h1,c0,c1]
 cases c2:Jdq x.a (decide (0 < m))
 ·simp [KF,params,f152,fn_num,fn_in,fn_named,h1,c0,c1,c2]
 simp [KF,params,f152,fn_num,fn_in,fn_named,h1,c0,c1,c2]
def JdT (c:GCatch):Bool:=Jaw c.name && (inB c.from_ 0 48 && (inB c.to 0 48 && inB c.at_ 0 48))
theorem fn_catch (c:GCatch) (σ:List Ob) (lo tr:Nat):Fn fns 154 [vCatch c] σ lo tr=some (vbool (JdT c),σ):=by
 refine Jah t154 rfl (σ1:=[]) rfl rfl ?_ σ lo tr
 unfold JdT
 cases c0:Jaw c.name
 ·simp [KF,params,f154,fn_in,Jaz,c0]
 cases c1:inB c.from_ 0 48
 ·simp [KF,params,f154,fn_in,Jaz,c0,c1]
 cases c2:inB c.to 0 48
 ·simp [KF,params,f154,fn_in,Jaz,c0,c1,c2]
 simp [KF,params,f154,fn_in,Jaz,c0,c1,c2]
def JdQ (f:GField):Bool:=Jaw f.name && JbL f.type_
theorem fn_field (f:GField) (σ:List Ob) (lo tr:Nat):Fn fns 121 [vField f] σ lo tr=some (vbool (JdQ f),σ):=by
 refine Jah t121 rfl (σ1:=[]) rfl rfl ?_ σ lo tr
 unfold JdQ
 have h1:=fn_typed f.type_
 cases c0:Jaw f.name<;>simp [KF,params,f121,Jaz,h1,c0]
def Jbw (m:GMethod):Bool:=!(m.abstract_ && (!decide (m.locals=0) || decide (0 < m.code.length+m.catches.length))) && (Jaw m.name && ((decide ((m.params.length:Int)≤4) && m.params.all JbL) && (JbL m.ret && (inB m.locals 0 8 && ((decide ((m.code.length:Int)≤48) && m.code.all JdC) && (decide ((m.catches.length:Int)≤4) && m.catches.all JdT))))))
theorem fn_method (m:GMethod) (h:OkM m) (σ:List Ob) (lo tr:Nat):Fn fns 123 [Jaq m] σ lo tr=some (vbool (Jbw m),σ):=by
 refine Jah t123 rfl (σ1:=[]) rfl rfl ?_ σ lo tr
 unfold Jbw
 have b1:=h.params
 have b2:=h.code
 have b3:=h.catches
 have hw:IntKind.i64.wrap ((m.code.length:Int)+(m.catches.length:Int))=((m.code.length+m.catches.length:Nat):Int):=by rw [JcQ (by omega) (by omega)];simp
 have hg:((0:Int) < (m.code.length:Int)+(m.catches.length:Int))=(0 < m.code.length+m.catches.length):=by apply propext;omega
 have h1:=fn_typed m.ret
 have h2:=fn_eachT m.params 4 146 JbL (by omega) (fun x _ σ lo tr=>fn_typed x σ lo tr)
 have h3:=fn_eachI m.code 48 152 JdC (by omega) (fun x _ σ lo tr=>fn_instr x σ lo tr)
 have h4:=fn_eachK m.catches 4 154 JdT (by omega) (fun x _ σ lo tr=>fn_catch x σ lo tr)
 cases a0:m.abstract_
 ·simp only [Bool.false_and,Bool.not_false,Bool.true_and]
  cases c0:Jaw m.name
  ·simp [KF,params,f123,fn_in,Jaz,h1,h2,h3,h4,a0,c0]
  cases c1:(decide ((m.params.length:Int)≤4) && m.params.all JbL)
  ·simp [KF,params,f123,fn_in,Jaz,h1,h2,h3,h4,a0,c0,c1]
  cases c2:JbL m.ret
  ·simp [KF,params,f123,fn_in,Jaz,h1,h2,h3,h4,a0,c0,c1,c2]
  cases c3:inB m.locals 0 8
  ·simp [KF,params,f123,fn_in,Jaz,h1,h2,h3,h4,a0,c0,c1,c2,c3]
  cases c4:(decide ((m.code.length:Int)≤48) && m.code.all JdC)
  ·simp [KF,params,f123,fn_in,Jaz,h1,h2,h3,h4,a0,c0,c1,c2,c3,c4]
  simp [KF,params,f123,fn_in,Jaz,h1,h2,h3,h4,a0,c0,c1,c2,c3,c4]
 ·by_cases a1:m.locals=0
  ·by_cases a2:0 < m.code.length+m.catches.length
   ·simp [KF,params,f123,a0,a1,a2,hw,hg]
   ·have i0:inB 0 0 8=true:=rfl
    have e:(true && (!decide (m.locals=0) || decide (0 < m.code.length+m.catches.length)))=false:=by simp [a1,a2]
    rw [e]
    simp only [Bool.not_false,Bool.true_and]
    cases c0:Jaw m.name
    ·simp [KF,params,f123,fn_in,Jaz,h1,h2,h3,h4,a0,a1,a2,hw,hg,i0,c0]
    cases c1:(decide ((m.params.length:Int)≤4) && m.params.all JbL)
    ·simp [KF,params,f123,fn_in,Jaz,h1,h2,h3,h4,a0,a1,a2,hw,hg,i0,c0,c1]
    cases c2:JbL m.ret
    ·simp [KF,params,f123,fn_in,Jaz,h1,h2,h3,h4,a0,a1,a2,hw,hg,i0,c0,c1,c2]
    cases c3:(decide ((m.code.length:Int)≤48) && m.code.all JdC)
    ·simp [KF,params,f123,fn_in,Jaz,h1,h2,h3,h4,a0,a1,a2,hw,hg,i0,c0,c1,c2,c3]
    simp [KF,params,f123,fn_in,Jaz,h1,h2,h3,h4,a0,a1,a2,hw,hg,i0,c0,c1,c2,c3]
  ·simp [KF,params,f123,a0,a1]
def Jbn (c:GClass):Bool:=Jaw c.name && ((decide (c.super=⟨#[]⟩) || (!c.iface && Jaw c.super)) && ((decide ((c.ifaces.length:Int)≤4) && c.ifaces.all Jaw) && ((decide ((c.fields.length:Int)≤6) && c.fields.all JdQ) && (decide ((c.methods.length:Int)≤6) && c.methods.all Jbw))))
theorem fn_class (c:GClass) (h:OkC c) (σ:List Ob) (lo tr:Nat):Fn fns 98 [JaR c] σ lo tr=some (vbool (Jbn c),σ):=by
 refine Jah t98 rfl (σ1:=[]) rfl rfl ?_ σ lo tr
 unfold Jbn
 have b1:=h.ifaces
 have b2:=h.fields
 have b3:=h.methods
 have h2:=fn_eachS c.ifaces 4 118 Jaw (by omega) (fun x _ σ lo tr=>Jaz x σ lo tr)
 have h3:=fn_eachF c.fields 6 121 JdQ (by omega) (fun x _ σ lo tr=>fn_field x σ lo tr)
 have h4:=fn_eachM c.methods 6 123 Jbw (by omega) (fun x hx σ lo tr=>fn_method x (h.ms x hx) σ lo tr)
 have fin:∀ z:Bool,(decide (c.super=⟨#[]⟩) || (!c.iface && Jaw c.super))=z→True:=fun _ _=>trivial
 by_cases a0:c.super=⟨#[]⟩
 ·simp only [a0,decide_true,Bool.true_or,Bool.true_and]
  cases c0:Jaw c.name
  ·simp [KF,params,f98,Jaz,h2,h3,h4,a0,c0]
  cases c1:(decide ((c.ifaces.length:Int)≤4) && c.ifaces.all Jaw)
  ·simp [KF,params,f98,Jaz,h2,h3,h4,a0,c0,c1]
  cases c2:(decide ((c.fields.length:Int)≤6) && c.fields.all JdQ)
  ·simp [KF,params,f98,Jaz,h2,h3,h4,a0,c0,c1,c2]
  simp [KF,params,f98,Jaz,h2,h3,h4,a0,c0,c1,c2]
 ·cases a1:c.iface
  ·cases a2:Jaw c.super
   ·simp only [a0,decide_false,Bool.not_false,Bool.and_false,Bool.or_false,Bool.false_and]
    cases c0:Jaw c.name<;>simp [KF,params,f98,Jaz,h2,h3,h4,a0,a1,a2,c0]
   ·simp only [a0,decide_false,Bool.not_false,Bool.and_true,Bool.or_true,Bool.true_and]
    cases c0:Jaw c.name
    ·simp [KF,params,f98,Jaz,h2,h3,h4,a0,a1,a2,c0]
    cases c1:(decide ((c.ifaces.length:Int)≤4) && c.ifaces.all Jaw)
    ·simp [KF,params,f98,Jaz,h2,h3,h4,a0,a1,a2,c0,c1]
    cases c2:(decide ((c.fields.length:Int)≤6) && c.fields.all JdQ)
    ·simp [KF,params,f98,Jaz,h2,h3,h4,a0,a1,a2,c0,c1,c2]
    simp [KF,params,f98,Jaz,h2,h3,h4,a0,a1,a2,c0,c1,c2]
  ·simp only [a0,decide_false,Bool.not_true,Bool.false_and,Bool.or_false,Bool.and_false]
   cases c0:Jaw c.name<;>simp [KF,params,f98,Jaz,h2,h3,h4,a0,a1,c0]
def progB (p:GProgram):Bool:=decide ((p.classes.length:Int)≤10) && p.classes.all Jbn
theorem fn_check0 (p:GProgram) (h:OkP p) (σ:List Ob) (lo tr:Nat):Fn fns 79 [Jar p] σ lo tr=some (vint (bif progB p then 0 else 4),σ):=by
 refine Jah t79 rfl (σ1:=[]) rfl rfl ?_ σ lo tr
 unfold progB
 have h1:=fn_eachC p.classes 10 98 Jbn (by have:=h.len;omega) (fun x hx σ lo tr=>fn_class x (h.cs x hx) σ lo tr)
 cases c0:(decide ((p.classes.length:Int)≤10) && p.classes.all Jbn)<;>simp [KF,params,f79,h1,c0]
theorem h45_0 (k:AExit→St→Option (V × List Ob)) (m:GMethod) (hl:m.params.length≤1000000):K fns ⟨0,0⟩ f92_l0 ⟨[(1,vptr 0),(3,vint 0)],[cM m]⟩ k =
  if m.params.any (fun t=>!JbL t) then k .ret ⟨[(2,vbool false)],[cM m]⟩ else k (.exit 0) ⟨[(1,vptr 0)],[cM m]⟩ :=
 Jas (l:=m.params) (p:=fun t=>!JbL t) (X:=fun i=>K fns ⟨0,0⟩ f92_l0 ⟨[(1,vptr 0),(3,vint i)],[cM m]⟩ k)
  (fun i hi=>by
   have hw:=Jac (i:=i) (by omega)
   have ht:=fn_typeText m.params[i]
   have hn:=typeText_nil m.params[i]
   show K fns _ f92_l0 _ k=_
   rw [u92_l0]
   cases c0:JbL m.params[i]<;>simp [f92_b0,hi,hw,ht,hn,c0]
   )
  (by show K fns _ f92_l0 _ k=_;rw [u92_l0];simp [f92_b0])
theorem h45_1 (k:AExit→St→Option (V × List Ob)) (m:GMethod) (hl:m.code.length≤1000000):K fns ⟨0,0⟩ f92_l1 ⟨[(1,vptr 0),(4,vint 0)],[cM m]⟩ k =
  if m.code.any (fun t=>!JdC t) then k .ret ⟨[(2,vbool false)],[cM m]⟩ else k (.exit 2) ⟨[(1,vptr 0)],[cM m]⟩ :=
 Jas (l:=m.code) (p:=fun t=>!JdC t) (X:=fun i=>K fns ⟨0,0⟩ f92_l1 ⟨[(1,vptr 0),(4,vint i)],[cM m]⟩ k)
  (fun i hi=>by
   have hw:=Jac (i:=i) (by omega)
   have ht:=fn_refInstr m.code[i]
   show K fns _ f92_l1 _ k=_
   rw [u92_l1]
   cases c0:JdC m.code[i]<;>simp [f92_b1,hi,hw,ht,c0]
   )
  (by show K fns _ f92_l1 _ k=_;rw [u92_l1];simp [f92_b1])
theorem h45_2 (k:AExit→St→Option (V × List Ob)) (m:GMethod) (hl:m.catches.length≤1000000):K fns ⟨0,0⟩ f92_l2 ⟨[(1,vptr 0),(5,vint 0)],[cM m]⟩ k =
  if m.catches.any (fun t=>!JdT t) then k .ret ⟨[(2,vbool false)],[cM m]⟩ else k (.exit 4) ⟨[],[cM m]⟩ :=
 Jas (l:=m.catches) (p:=fun t=>!JdT t) (X:=fun i=>K fns ⟨0,0⟩ f92_l2 ⟨[(1,vptr 0),(5,vint i)],[cM m]⟩ k)
  (fun i hi=>by
   have hw:=Jac (i:=i) (by omega)
   have ht:=Jag
   have hr:=JaG
   show K fns _ f92_l2 _ k=_
   rw [u92_l2]
   generalize hx:m.catches[i]=x
   cases c0:Jaw x.name
   ·simp [f92_b2,hi,hw,ht,hr,hx,JdT,c0]
   cases c1:inB x.from_ 0 48
   ·simp [f92_b2,hi,hw,ht,hr,hx,JdT,c0,c1]
   cases c2:inB x.to 0 48
   ·simp [f92_b2,hi,hw,ht,hr,hx,JdT,c0,c1,c2]
   cases c3:inB x.at_ 0 48<;>simp [f92_b2,hi,hw,ht,hr,hx,JdT,c0,c1,c2,c3]
   )
  (by show K fns _ f92_l2 _ k=_;rw [u92_l2];simp [f92_b2])
theorem fn_refMethod (m:GMethod) (h:OkM m) (σ:List Ob) (lo tr:Nat):Fn fns 92 [Jaq m] σ lo tr=some (vbool (Jbw m),σ):=by
 refine Jah t92 rfl (σ1:=[]) rfl rfl ?_ σ lo tr
 have b1:=h.params
 have b2:=h.code
 have b3:=h.catches
 have ht:=fn_typeText m.ret
 have hn:=typeText_nil m.ret
 by_cases c0:Jaw m.name=true
 case neg =>
  simp [KF,params,f92,Jag,JaG,ht,hn,Jbw,c0]
 by_cases c1:m.params.length≤4
 case neg =>
  have q1_0:(4:Int) < m.params.length:=by omega
  have q1_1:¬ (m.params.length:Int)≤4:=by omega
  simp [KF,params,f92,Jag,JaG,ht,hn,Jbw,c0,c1,q1_0,q1_1]
 have q1_0:¬ (4:Int) < m.params.length:=by omega
 have q1_1:(m.params.length:Int)≤4:=by omega
 by_cases c2:JbL m.ret=true
 case neg =>
  simp [KF,params,f92,Jag,JaG,ht,hn,Jbw,c0,c1,q1_0,q1_1,c2]
 by_cases c3:m.code.length≤48
 case neg =>
  have q3_0:(48:Int) < m.code.length:=by omega
  have q3_1:¬ (m.code.length:Int)≤48:=by omega
  simp [KF,params,f92,Jag,JaG,ht,hn,Jbw,c0,c1,q1_0,q1_1,c2,c3,q3_0,q3_1]
 have q3_0:¬ (48:Int) < m.code.length:=by omega
 have q3_1:(m.code.length:Int)≤48:=by omega
 by_cases c4:m.catches.length≤4
 case neg =>
  have q4_0:(4:Int) < m.catches.length:=by omega
  have q4_1:¬ (m.catches.length:Int)≤4:=by omega
  simp [KF,params,f92,Jag,JaG,ht,hn,Jbw,c0,c1,q1_0,q1_1,c2,c3,q3_0,q3_1,c4,q4_0,q4_1]
 have q4_0:¬ (4:Int) < m.catches.length:=by omega
 have q4_1:(m.catches.length:Int)≤4:=by omega
 by_cases c5:inB m.locals 0 8=true
 case neg =>
  simp [KF,params,f92,Jag,JaG,ht,hn,Jbw,c0,c1,q1_0,q1_1,c2,c3,q3_0,q3_1,c4,q4_0,q4_1,c5]
 have hl:0≤m.locals∧m.locals≤8:=by simpa [inB] using c5
 have w1:IntKind.i64.wrap (m.locals+(m.code.length:Int))=m.locals+(m.code.length:Int):=JcQ (by omega) (by omega)
 have w2:IntKind.i64.wrap (m.locals+(m.code.length:Int)+(m.catches.length:Int))=m.locals+(m.code.length:Int)+(m.catches.length:Int):=JcQ (by omega) (by omega)
 have L0:=fun k=>h45_0 k m (by omega)
 have L1:=fun k=>h45_1 k m (by omega)
 have L2:=fun k=>h45_2 k m (by omega)
 have n0:(m.params.any fun t=>!JbL t) = !m.params.all JbL:=by simp [List.all_eq_not_any_not]
 have n1:(m.code.any fun t=>!JdC t) = !m.code.all JdC:=by simp [List.all_eq_not_any_not]
 have n2:(m.catches.any fun t=>!JdT t) = !m.catches.all JdT:=by simp [List.all_eq_not_any_not]
 rw [n0] at L0
 rw [n1] at L1
 rw [n2] at L2
 have mb:Jbw m=(!(m.abstract_ && (!decide (m.locals=0) || decide (0 < m.code.length+m.catches.length))) && (m.params.all JbL && (m.code.all JdC && m.catches.all JdT))):=by
  simp [Jbw,c0,c1,q1_0,q1_1,c2,c3,q3_0,q3_1,c4,q4_0,q4_1,c5]
 rw [mb]
 have fin:∀ F:Prop,F→F:=fun _ h=>h
 cases a0:m.abstract_<;>simp only [cM,a0] at L0 L1 L2
 ·simp only [Bool.false_and,Bool.not_false,Bool.true_and]
  cases d0:m.params.all JbL
  ·simp [KF,params,f92,Jag,JaG,ht,hn,w1,w2,L0,L1,L2,a0,d0,c0,c1,q1_0,q1_1,c2,c3,q3_0,q3_1,c4,q4_0,q4_1,c5]
  cases d1:m.code.all JdC
  ·simp [KF,params,f92,Jag,JaG,ht,hn,w1,w2,L0,L1,L2,a0,d0,d1,c0,c1,q1_0,q1_1,c2,c3,q3_0,q3_1,c4,q4_0,q4_1,c5]
  cases d2:m.catches.all JdT<;>simp [KF,params,f92,Jag,JaG,ht,hn,w1,w2,L0,L1,L2,a0,d0,d1,d2,c0,c1,q1_0,q1_1,c2,c3,q3_0,q3_1,c4,q4_0,q4_1,c5]
 ·have e:(!decide (m.locals=0) || decide (0 < m.code.length+m.catches.length))=decide (0 < m.locals+(m.code.length:Int)+(m.catches.length:Int)):=by
   by_cases e1:m.locals=0
   ·simp only [e1,decide_true,Bool.not_true,Bool.false_or]
    exact decide_eq_decide.mpr (by omega)
   ·simp [e1];omega
  rw [e]
  by_cases e2:0 < m.locals+(m.code.length:Int)+(m.catches.length:Int)
  ·simp [KF,params,f92,Jag,JaG,ht,hn,w1,w2,L0,L1,L2,a0,e2,c0,c1,q1_0,q1_1,c2,c3,q3_0,q3_1,c4,q4_0,q4_1,c5]
  simp only [e2,decide_false,Bool.and_false,Bool.not_false,Bool.true_and]
  cases d0:m.params.all JbL
  ·simp [KF,params,f92,Jag,JaG,ht,hn,w1,w2,L0,L1,L2,a0,e2,d0,c0,c1,q1_0,q1_1,c2,c3,q3_0,q3_1,c4,q4_0,q4_1,c5]
  cases d1:m.code.all JdC
  ·simp [KF,params,f92,Jag,JaG,ht,hn,w1,w2,L0,L1,L2,a0,e2,d0,d1,c0,c1,q1_0,q1_1,c2,c3,q3_0,q3_1,c4,q4_0,q4_1,c5]
  cases d2:m.catches.all JdT<;>simp [KF,params,f92,Jag,JaG,ht,hn,w1,w2,L0,L1,L2,a0,e2,d0,d1,d2,c0,c1,q1_0,q1_1,c2,c3,q3_0,q3_1,c4,q4_0,q4_1,c5]
theorem h29_0 (k:AExit→St→Option (V × List Ob)) (n3:Int) (p:GProgram) (c:GClass) (hl:c.ifaces.length≤1000000):K fns ⟨0,0⟩ f61_l0 ⟨[(1,vptr 0),(3,vint n3),(4,vptr 1),(5,vint 0)],[cP p,cC c]⟩ k =
  if c.ifaces.any (fun t=>!Jaw t) then k .ret ⟨[(2,vbool false)],[cP p,cC c]⟩ else k (.exit 2) ⟨[(1,vptr 0),(3,vint n3),(4,vptr 1)],[cP p,cC c]⟩ :=
 Jas (l:=c.ifaces) (p:=fun t=>!Jaw t) (X:=fun i=>K fns ⟨0,0⟩ f61_l0 ⟨[(1,vptr 0),(3,vint n3),(4,vptr 1),(5,vint i)],[cP p,cC c]⟩ k)
  (fun i hi=>by
   have hw:=Jac (i:=i) (by omega)
   have ht:=Jag
   show K fns _ f61_l0 _ k=_
   rw [u61_l0]
   cases c0:Jaw c.ifaces[i]<;>simp [f61_b0,hi,hw,ht,c0]
   )
  (by show K fns _ f61_l0 _ k=_;rw [u61_l0];simp [f61_b0])
theorem h29_1 (k:AExit→St→Option (V × List Ob)) (n3:Int) (p:GProgram) (c:GClass) (hl:c.fields.length≤1000000):K fns ⟨0,0⟩ f61_l1 ⟨[(1,vptr 0),(3,vint n3),(4,vptr 1),(6,vint 0)],[cP p,cC c]⟩ k =
  if c.fields.any (fun t=>!JdQ t) then k .ret ⟨[(2,vbool false)],[cP p,cC c]⟩ else k (.exit 4) ⟨[(1,vptr 0),(3,vint n3),(4,vptr 1)],[cP p,cC c]⟩ :=
 Jas (l:=c.fields) (p:=fun t=>!JdQ t) (X:=fun i=>K fns ⟨0,0⟩ f61_l1 ⟨[(1,vptr 0),(3,vint n3),(4,vptr 1),(6,vint i)],[cP p,cC c]⟩ k)
  (fun i hi=>by
   have hw:=Jac (i:=i) (by omega)
   have hf:=Jag
   show K fns _ f61_l1 _ k=_
   rw [u61_l1]
   generalize hx:c.fields[i]=x
   have ht:=fn_typeText x.type_
   have hn:=typeText_nil x.type_
   cases c0:Jaw x.name
   ·simp [f61_b1,hi,hw,hf,hx,JdQ,c0]
   cases c1:JbL x.type_<;>simp [f61_b1,hi,hw,hf,hx,JdQ,c0,c1,ht,hn]
   )
  (by show K fns _ f61_l1 _ k=_;rw [u61_l1];simp [f61_b1])
theorem h29_2 (k:AExit→St→Option (V × List Ob)) (n3:Int) (p:GProgram) (c:GClass) (hm:∀ m ∈ c.methods,OkM m) (hl:c.methods.length≤1000000):K fns ⟨0,0⟩ f61_l2 ⟨[(1,vptr 0),(3,vint n3),(4,vptr 1),(7,vint 0)],[cP p,cC c]⟩ k =
  if c.methods.any (fun t=>!Jbw t) then k .ret ⟨[(2,vbool false)],[cP p,cC c]⟩ else k (.exit 6) ⟨[(1,vptr 0),(3,vint n3)],[cP p,cC c]⟩ :=
 Jas (l:=c.methods) (p:=fun t=>!Jbw t) (X:=fun i=>K fns ⟨0,0⟩ f61_l2 ⟨[(1,vptr 0),(3,vint n3),(4,vptr 1),(7,vint i)],[cP p,cC c]⟩ k)
  (fun i hi=>by
   have hw:=Jac (i:=i) (by omega)
   have ht:=fn_refMethod (c.methods[i]) (hm _ (List.getElem_mem hi))
   show K fns _ f61_l2 _ k=_
   rw [u61_l2]
   cases c0:Jbw c.methods[i]<;>simp [f61_b2,hi,hw,ht,c0]
   )
  (by show K fns _ f61_l2 _ k=_;rw [u61_l2];simp [f61_b2])
set_option maxHeartbeats 4000000 in
theorem h29_3 (k:AExit→St→Option (V × List Ob)) (p:GProgram) (hp:OkP p):K fns ⟨0,0⟩ f61_l3 ⟨[(1,vptr 0),(3,vint 0)],[cP p]⟩ k =
  if p.classes.any (fun c=>!Jbn c) then k .ret ⟨[(2,vbool false)],[cP p]⟩ else k (.exit 0) ⟨[],[cP p]⟩ :=
 Jas (l:=p.classes) (p:=fun c=>!Jbn c) (X:=fun i=>K fns ⟨0,0⟩ f61_l3 ⟨[(1,vptr 0),(3,vint i)],[cP p]⟩ k)
  (fun i hi=>by
   have hlen:=hp.len
   have hw:=Jac (i:=i) (by omega)
   have hcs:=hp.cs _ (List.getElem_mem hi)
   generalize hx:p.classes[i]=c at hcs ⊢
   have b1:=hcs.ifaces
   have b2:=hcs.fields
   have b3:=hcs.methods
   have n0:(c.ifaces.any fun t=>!Jaw t) = !c.ifaces.all Jaw:=by simp [List.all_eq_not_any_not]
   have n1:(c.fields.any fun t=>!JdQ t) = !c.fields.all JdQ:=by simp [List.all_eq_not_any_not]
   have n2:(c.methods.any fun t=>!Jbw t) = !c.methods.all Jbw:=by simp [List.all_eq_not_any_not]
   show K fns _ f61_l3 _ k=_
   rw [u61_l3]
   by_cases a0:c.super=⟨#[]⟩
   ·by_cases c0:Jaw c.name=true
    case neg =>
     simp [Jc2,Jag,hi,hx,Jbn,a0,c0]
    by_cases c1:c.ifaces.length≤4
    case neg =>
     have q1_0:(4:Int) < c.ifaces.length:=by omega
     have q1_1:¬ (c.ifaces.length:Int)≤4:=by omega
     simp [Jc2,Jag,hi,hx,Jbn,a0,c0,c1,q1_0,q1_1]
    have q1_0:¬ (4:Int) < c.ifaces.length:=by omega
    have q1_1:(c.ifaces.length:Int)≤4:=by omega
    by_cases c2:c.fields.length≤6
    case neg =>
     have q2_0:(6:Int) < c.fields.length:=by omega
     have q2_1:¬ (c.fields.length:Int)≤6:=by omega
     simp [Jc2,Jag,hi,hx,Jbn,a0,c0,c1,q1_0,q1_1,c2,q2_0,q2_1]
    have q2_0:¬ (6:Int) < c.fields.length:=by omega
    have q2_1:(c.fields.length:Int)≤6:=by omega
    by_cases c3:c.methods.length≤6
    case neg =>
     have q3_0:(6:Int) < c.methods.length:=by omega
     have q3_1:¬ (c.methods.length:Int)≤6:=by omega
     simp [Jc2,Jag,hi,hx,Jbn,a0,c0,c1,q1_0,q1_1,c2,q2_0,q2_1,c3,q3_0,q3_1]
    have q3_0:¬ (6:Int) < c.methods.length:=by omega
    have q3_1:(c.methods.length:Int)≤6:=by omega
    have L0:=fun k=>h29_0 k i p c (by omega)
    have L1:=fun k=>h29_1 k i p c (by omega)
    have L2:=fun k=>h29_2 k i p c hcs.ms (by omega)
    rw [n0] at L0
    rw [n1] at L1
    rw [n2] at L2
    simp only [cC,a0] at L0 L1 L2
    cases d0:c.ifaces.all Jaw
    ·simp [Jc2,Jag,hi,hx,Jbn,a0,L0,L1,L2,hw,c0,c1,q1_0,q1_1,c2,q2_0,q2_1,c3,q3_0,q3_1,d0]
    cases d1:c.fields.all JdQ
    ·simp [Jc2,Jag,hi,hx,Jbn,a0,L0,L1,L2,hw,c0,c1,q1_0,q1_1,c2,q2_0,q2_1,c3,q3_0,q3_1,d0,d1]
    cases d2:c.methods.all Jbw<;>simp [Jc2,Jag,hi,hx,Jbn,a0,L0,L1,L2,hw,c0,c1,q1_0,q1_1,c2,q2_0,q2_1,c3,q3_0,q3_1,d0,d1,d2]
   ·cases a1:c.iface
    case true =>
     cases c0:Jaw c.name<;>simp [Jc2,Jag,hi,hx,Jbn,a0,a1,c0]
    cases a2:Jaw c.super
    case false =>
     cases c0:Jaw c.name<;>simp [Jc2,Jag,hi,hx,Jbn,a0,a1,a2,c0]
    by_cases c0:Jaw c.name=true
    case neg =>
     simp [Jc2,Jag,hi,hx,Jbn,a0,a1,a2,c0]
    by_cases c1:c.ifaces.length≤4
    case neg =>
     have q1_0:(4:Int) < c.ifaces.length:=by omega
     have q1_1:¬ (c.ifaces.length:Int)≤4:=by omega
     simp [Jc2,Jag,hi,hx,Jbn,a0,a1,a2,c0,c1,q1_0,q1_1]
    have q1_0:¬ (4:Int) < c.ifaces.length:=by omega
    have q1_1:(c.ifaces.length:Int)≤4:=by omega
    by_cases c2:c.fields.length≤6
    case neg =>
     have q2_0:(6:Int) < c.fields.length:=by omega
     have q2_1:¬ (c.fields.length:Int)≤6:=by omega
     simp [Jc2,Jag,hi,hx,Jbn,a0,a1,a2,c0,c1,q1_0,q1_1,c2,q2_0,q2_1]
    have q2_0:¬ (6:Int) < c.fields.length:=by omega
    have q2_1:(c.fields.length:Int)≤6:=by omega
    by_cases c3:c.methods.length≤6
    case neg =>
     have q3_0:(6:Int) < c.methods.length:=by omega
     have q3_1:¬ (c.methods.length:Int)≤6:=by omega
     simp [Jc2,Jag,hi,hx,Jbn,a0,a1,a2,c0,c1,q1_0,q1_1,c2,q2_0,q2_1,c3,q3_0,q3_1]
    have q3_0:¬ (6:Int) < c.methods.length:=by omega
    have q3_1:(c.methods.length:Int)≤6:=by omega
    have L0:=fun k=>h29_0 k i p c (by omega)
    have L1:=fun k=>h29_1 k i p c (by omega)
    have L2:=fun k=>h29_2 k i p c hcs.ms (by omega)
    rw [n0] at L0
    rw [n1] at L1
    rw [n2] at L2
    simp only [cC,a0,a1,a2] at L0 L1 L2
    cases d0:c.ifaces.all Jaw
    ·simp [Jc2,Jag,hi,hx,Jbn,a0,a1,a2,L0,L1,L2,hw,c0,c1,q1_0,q1_1,c2,q2_0,q2_1,c3,q3_0,q3_1,d0]
    cases d1:c.fields.all JdQ
    ·simp [Jc2,Jag,hi,hx,Jbn,a0,a1,a2,L0,L1,L2,hw,c0,c1,q1_0,q1_1,c2,q2_0,q2_1,c3,q3_0,q3_1,d0,d1]
    cases d2:c.methods.all Jbw<;>simp [Jc2,Jag,hi,hx,Jbn,a0,a1,a2,L0,L1,L2,hw,c0,c1,q1_0,q1_1,c2,q2_0,q2_1,c3,q3_0,q3_1,d0,d1,d2]
   )
  (by show K fns _ f61_l3 _ k=_;rw [u61_l3];simp [Jc2])
theorem fn_shown (p:GProgram) (h:OkP p) (σ:List Ob) (lo tr:Nat):Fn fns 61 [Jar p] σ lo tr=some (vbool (progB p),σ):=by
 refine Jah t61 rfl (σ1:=[]) rfl rfl ?_ σ lo tr
 unfold progB
 have L:=fun k=>h29_3 k p h
 have n0:(p.classes.any fun t=>!Jbn t) = !p.classes.all Jbn:=by simp [List.all_eq_not_any_not]
 rw [n0] at L
 by_cases c0:p.classes.length≤10
 ·have q0:¬ (10:Int) < p.classes.length:=by omega
  have q1:(p.classes.length:Int)≤10:=by omega
  cases d0:p.classes.all Jbn<;>simp [KF,params,f61,c0,q0,q1,L,d0]
 ·have q0:(10:Int) < p.classes.length:=by omega
  have q1:¬ (p.classes.length:Int)≤10:=by omega
  simp [KF,params,f61,c0,q0,q1]
instance decMemB (s:ByteArray) (l:List ByteArray):Decidable (s ∈ l):=decidable_of_iff (l.any (fun x=>decide (x=s))=true) (by simp)
def atI (l:List GClass) (s:ByteArray):Int:=idxI (fun c:GClass=>decide (c.name=s)) l
theorem fn_at (l:List GClass) (s:ByteArray) (hs:l.length≤1000000) (σ:List Ob) (lo tr:Nat):Fn fns 27 [vsl l,vstr s] σ lo tr=some (vint (atI l s),σ):=by
 refine Jah t27 rfl (σ1:=[]) rfl rfl ?_ σ lo tr
 have L:∀ k:AExit→St→Option (V × List Ob),K fns ⟨0,0⟩ f27_l0 ⟨[(0,vsl l),(1,vstr s),(5,vint 0)],[]⟩ k=match l.findIdx? (fun c:GClass=>decide (c.name=s)) with | some i=>k .ret ⟨[(4,vint i)],[]⟩ | none=>k (.exit 0) ⟨[],[]⟩:=fun k =>
  JbM (l:=l) (p:=fun c:GClass=>decide (c.name=s)) (X:=fun i=>K fns ⟨0,0⟩ f27_l0 ⟨[(0,vsl l),(1,vstr s),(5,vint i)],[]⟩ k)
   (r:=fun i=>k .ret ⟨[(4,vint i)],[]⟩)
   (fun i hi=>by
    have hw:=Jac (i:=i) (by omega)
    show K fns _ f27_l0 _ k=_
    rw [u27_l0]
    by_cases hc:l[i].name=s<;>simp [f27_b0,hi,hc,hw])
   (by show K fns _ f27_l0 _ k=_;rw [u27_l0];simp [f27_b0])
 unfold atI idxI
 cases hf:l.findIdx? (fun c:GClass=>decide (c.name=s))<;>simp [KF,params,f27,L,hf]
theorem fn_has (l:List ByteArray) (s:ByteArray) (hs:l.length≤1000000) (σ:List Ob) (lo tr:Nat):Fn fns 64 [vsl l,vstr s] σ lo tr=some (vbool (decide (s ∈ l)),σ):=by
 refine Jah t64 rfl (σ1:=[]) rfl rfl ?_ σ lo tr
 have L:∀ k:AExit→St→Option (V × List Ob),K fns ⟨0,0⟩ f64_l0 ⟨[(0,vsl l),(1,vstr s),(5,vint 0)],[]⟩ k=if l.any (fun x=>decide (x=s)) then k .ret ⟨[(4,vbool true)],[]⟩ else k (.exit 0) ⟨[],[]⟩:=fun k =>
  Jas (l:=l) (p:=fun x=>decide (x=s)) (X:=fun i=>K fns ⟨0,0⟩ f64_l0 ⟨[(0,vsl l),(1,vstr s),(5,vint i)],[]⟩ k)
   (fun i hi=>by
    have hw:=Jac (i:=i) (by omega)
    show K fns _ f64_l0 _ k=_
    rw [u64_l0]
    by_cases hc:l[i]=s<;>simp [f64_b0,hi,hc,hw])
   (by show K fns _ f64_l0 _ k=_;rw [u64_l0];simp [f64_b0])
 have ha:(l.any fun x=>decide (x=s))=decide (s ∈ l):=by
  by_cases h:s ∈ l
  ·rw [decide_eq_true h];exact List.any_eq_true.mpr ⟨s,h,by simp⟩
  ·rw [decide_eq_false h,List.any_eq_false];intro x hx hxs;simp only [decide_eq_true_eq] at hxs;exact h (hxs ▸ hx)
 rw [ha] at L
 by_cases hd:s ∈ l<;>simp [KF,params,f64,L,hd]
def Jan (c:GClass):ByteArray:=if c.iface=true∨c.name=Jax then ⟨#[]⟩ else if c.super=⟨#[]⟩ then Jax else c.super
theorem fn_superOf (c:GClass) (σ:List Ob) (lo tr:Nat):Fn fns 62 [JaR c] σ lo tr=some (vstr (Jan c),σ):=by
 refine Jah t62 rfl (σ1:=[]) rfl rfl ?_ σ lo tr
 unfold Jan
 cases h1:c.iface
 ·by_cases h2:c.name=Jax
  ·simp [KF,params,f62,h1,h2]
  ·by_cases h3:c.super=⟨#[]⟩<;>simp [KF,params,f62,h1,h2,h3]
 ·simp [KF,params,f62,h1]
def JbX (c:GClass):List ByteArray:=(if Jan c=⟨#[]⟩ then [] else [Jan c]) ++ c.ifaces
theorem fn_above (c:GClass) (h:OkC c) (σ:List Ob) (lo tr:Nat):Fn fns 63 [JaR c] σ lo tr=some (.c (.osl 1 (rows (JbX c))),σ):=by
 refine Jah t63 rfl (σ1:=[]) rfl rfl ?_ σ lo tr
 unfold JbX
 have hs:=fn_superOf c
 have b:=h.ifaces
 have q1:c.ifaces.length≤70368744177664:=by omega
 have q2:c.ifaces.length * 16≤70368744177664:=by omega
 have q3:1+c.ifaces.length≤70368744177664:=by omega
 have q4:(1+c.ifaces.length) * 16≤70368744177664:=by omega
 have q5:c.ifaces.length+1≤70368744177664:=by omega
 have q6:(c.ifaces.length+1) * 16≤70368744177664:=by omega
 have hn:([]:List (List D))=rows ([]:List ByteArray):=rfl
 have hr:∀ (x:ByteArray) (l:List ByteArray),[D.str x] :: rows l=rows (x :: l):=fun _ _=>rfl
 by_cases h1:Jan c=⟨#[]⟩
 ·simp [KF,params,f63,hs,h1,q1,q2]
 ·simp [KF,params,f63,hs,h1,q1,q2,q3,q4,q5,q6,hr]
def JdE (out next:List ByteArray):List ByteArray:=next.foldl (fun o x=>if x ∈ o then o else o ++ [x]) out
def nextL (l:List GClass) (s:ByteArray):List ByteArray:=match l.find? (fun c:GClass=>decide (c.name=s)) with
 | some c=>JbX c
 | none=>[]
def bfs (l:List GClass):Nat→Nat→List ByteArray→List ByteArray
 | 0,_,out=>out
 | n+1,i,out=>match out[i]? with
  | some s=>bfs l n (i+1) (JdE out (nextL l s))
  | none=>out
def Ja8 (l:List GClass) (s:ByteArray):List ByteArray:=bfs l 3000 0 [s]
def poolL (l:List GClass) (s:ByteArray):List ByteArray:=s :: l.flatMap JbX
theorem addNew_cons (o:List ByteArray) (x:ByteArray) (t:List ByteArray):JdE o (x :: t)=JdE (if x ∈ o then o else o ++ [x]) t:=rfl
theorem addNew_mem {x:ByteArray}:∀ {next out:List ByteArray},x ∈ JdE out next↔x ∈ out∨x ∈ next
 | [],out=>by simp [JdE]
 | y :: t,out=>by
  rw [addNew_cons,addNew_mem]
  by_cases h:y ∈ out
  ·simp only [h,if_true,List.mem_cons]
   constructor
   ·rintro (a | a)<;>simp [a]
   ·rintro (a | rfl | a)
    ·exact Or.inl a
    ·exact Or.inl h
    ·exact Or.inr a
  ·simp [h,or_assoc]
theorem addNew_nodup:∀ {next out:List ByteArray},out.Nodup→(JdE out next).Nodup
 | [],_,h=>h
 | y :: t,out,h=>by
  rw [addNew_cons]
  refine addNew_nodup ?_
  by_cases hy:y ∈ out
  ·simpa [hy] using h
  ·simp only [hy,if_false]
   rw [List.nodup_append]
   exact ⟨h,by simp,by rintro a ha b hb rfl;simp at hb;exact hy (hb ▸ ha)⟩
theorem addNew_pre:∀ {next out:List ByteArray},out <+: JdE out next
 | [],out=>List.prefix_refl _
 | y :: t,out=>by
  rw [addNew_cons]
  refine List.IsPrefix.trans ?_ addNew_pre
  by_cases hy:y ∈ out<;>simp [hy]
theorem Jdl {l:List GClass} {s:ByteArray} {c:GClass} (h:l.find? (fun c:GClass=>decide (c.name=s))=some c):c ∈ l∧c.name=s:=⟨List.mem_of_find?_eq_some h,by simpa using List.find?_some h⟩
theorem next_pool {l:List GClass} {s x t:ByteArray} (h:x ∈ nextL l t):x ∈ poolL l s:=by
 unfold nextL at h
 split at h
 ·rename_i c hc
  exact List.mem_cons_of_mem _ (List.mem_flatMap.mpr ⟨c,(Jdl hc).1,h⟩)
 ·cases h
theorem pool_len {l:List GClass} (hl:l.length≤100) (hc:∀ c ∈ l,OkC c) (s:ByteArray):(poolL l s).length≤1101:=by
 have key:∀ l:List GClass,(∀ c ∈ l,OkC c)→(l.flatMap JbX).length≤11 * l.length:=by
  intro l
  induction l with
  | nil=>simp
  | cons c t ih =>
   intro h
   have h1:=ih fun c hc=>h c (List.mem_cons_of_mem _ hc)
   have h2:=(h c List.mem_cons_self).ifaces
   have h3:(JbX c).length≤11:=by
    unfold JbX
    by_cases hs:Jan c=⟨#[]⟩<;>simp [hs]<;>omega
   rw [List.flatMap_cons,List.length_append,List.length_cons];omega
 have:=key l hc
 unfold poolL;rw [List.length_cons];omega
theorem nodup_sub {α:Type} [DecidableEq α] {a b:List α} (h:a.Nodup) (hs:∀ x ∈ a,x ∈ b):a.length≤b.length:=by
 induction a generalizing b with
 | nil=>simp
 | cons x t ih =>
  rw [List.nodup_cons] at h
  have hx:=hs x List.mem_cons_self
  have h1:=ih (b:=b.erase x) h.2 (fun y hy=>by
   have hne:y≠x:=fun e=>h.1 (by rw [← e];exact hy)
   rw [List.mem_erase_of_ne hne]
   exact hs y (List.mem_cons_of_mem _ hy))
  have h2:=List.length_erase_of_mem hx
  have h3:0 < b.length:=List.length_pos_of_mem hx
  simp;omega
structure Bf (l:List GClass) (s:ByteArray) (out:List ByteArray):Prop where
 nd:out.Nodup
 sub:∀ x ∈ out,x ∈ poolL l s
theorem Bf.add {l:List GClass} {s t:ByteArray} {out:List ByteArray} (h:Bf l s out):Bf l s (JdE out (nextL l t)) where
 nd:=addNew_nodup h.nd
 sub x hx:=by
  rcases addNew_mem.mp hx with a | a
  ·exact h.sub x a
  ·exact next_pool a
theorem Bf.len {l:List GClass} {s:ByteArray} {out:List ByteArray} (h:Bf l s out) (hl:l.length≤100) (hc:∀ c ∈ l,OkC c):out.length≤1101 :=
 Nat.le_trans (nodup_sub h.nd h.sub) (pool_len hl hc s)
theorem bf_one (l:List GClass) (s:ByteArray):Bf l s [s]:=⟨by simp,by simp [poolL]⟩
theorem bfs_bf {l:List GClass} {s:ByteArray}:∀ (n i:Nat) (out:List ByteArray),Bf l s out→Bf l s (bfs l n i out)
 | 0,_,_,h=>h
 | n+1,i,out,h=>by
  unfold bfs
  split
  ·exact bfs_bf n (i+1) _ h.add
  ·exact h
theorem Jd8 {l:List GClass} {s:ByteArray}:(l.find? (fun c:GClass=>decide (c.name=s))=none∧atI l s = -1)∨∃ (i:Nat) (h:i < l.length),atI l s=i∧l.find? (fun c:GClass=>decide (c.name=s))=some l[i]∧l[i].name=s∧∀ j (hj:j < i),l[j].name≠s:=by
 unfold atI idxI
 cases h:l.findIdx? (fun c:GClass=>decide (c.name=s)) with
 | none =>
  left
  rw [List.findIdx?_eq_none_iff] at h
  exact ⟨List.find?_eq_none.mpr fun x hx=>by simp [h x hx],rfl⟩
 | some i =>
  right
  rw [List.findIdx?_eq_some_iff_getElem] at h
  obtain ⟨h1,h2,h3⟩:=h
  refine ⟨i,h1,rfl,?_,by simpa using h2,fun j hj=>by simpa using h3 j hj⟩
  rw [List.find?_eq_some_iff_getElem]
  exact ⟨h2,i,h1,rfl,fun j hj=>by simpa using h3 j hj⟩
theorem h32_0 (k:AExit→St→Option (V × List Ob)) (l:List GClass) (out next:List ByteArray) (i:Int) (ho:out.length≤2000) (hn:next.length≤2000) :
  K fns ⟨0,0⟩ f65_l0 ⟨[(0,vsl l),(5,.c (.osl 1 (rows out))),(6,vint i),(8,vsl next),(9,vint 0)],[]⟩ k=k (.exit 2) ⟨[(0,vsl l),(5,.c (.osl 1 (rows (JdE out next)))),(6,vint i)],[]⟩ :=
 scan_fold (l:=next) (f:=fun o x=>if x ∈ o then o else o ++ [x]) (I:=fun j c=>c.length≤2000+j) (X:=fun j c=>K fns ⟨0,0⟩ f65_l0 ⟨[(0,vsl l),(5,.c (.osl 1 (rows c))),(6,vint i),(8,vsl next),(9,vint j)],[]⟩ k)
  (e:=fun c=>k (.exit 2) ⟨[(0,vsl l),(5,.c (.osl 1 (rows c))),(6,vint i)],[]⟩)
  (fun j c hj hI=>by
   have hw:=Jac (i:=j) (by omega)
   have hh:=fn_has c next[j] (by omega)
   have q1:c.length+1≤70368744177664:=by omega
   have q2:(c.length+1) * 16≤70368744177664:=by omega
   refine ⟨?_,by by_cases hm:next[j] ∈ c<;>simp [hm]<;>omega⟩
   show K fns _ f65_l0 _ k=_
   rw [u65_l0]
   by_cases hm:next[j] ∈ c<;>simp only [hm,decide_true,decide_false] at hh<;>simp [f65_b0,hj,hw,hh,hm,q1,q2])
  (fun c hI=>by show K fns _ f65_l0 _ k=_;rw [u65_l0];simp [f65_b0])
  (by omega)
theorem next_len {l:List GClass} (hc:∀ c ∈ l,OkC c) (s:ByteArray):(nextL l s).length≤11:=by
 unfold nextL
 split
 ·rename_i c h
  have:=(hc c (Jdl h).1).ifaces
  unfold JbX
  by_cases hs:Jan c=⟨#[]⟩<;>simp [hs]<;>omega
 ·simp
theorem h32_1 (k:AExit→St→Option (V × List Ob)) (l:List GClass) (s:ByteArray) (hl:l.length≤100) (hc:∀ c ∈ l,OkC c):∀ (n i:Nat) (out:List ByteArray),Bf l s out→i≤out.length→1102≤i+n →
  K fns ⟨0,0⟩ f65_l1 ⟨[(0,vsl l),(5,.c (.osl 1 (rows out))),(6,vint i)],[]⟩ k=k (.exit 0) ⟨[(5,.c (.osl 1 (rows (bfs l n i out))))],[]⟩:=by
 intro n
 induction n with
 | zero =>
  intro i out hb hi hn
  have:=hb.len hl hc
  omega
 | succ n ih =>
  intro i out hb hi hn
  have hlen:=hb.len hl hc
  have hw:=Jac (i:=i) (by omega)
  unfold bfs
  by_cases hlt:i < out.length
  ·rw [List.getElem?_eq_getElem hlt]
   dsimp only
   have hb2:=hb.add (t:=out[i])
   have hpre:out.length≤(JdE out (nextL l out[i])).length:=(addNew_pre (next:=nextL l out[i]) (out:=out)).length_le
   rw [← ih (i+1) _ hb2 (by omega) (by omega)]
   rw [u65_l1]
   have hat:=fn_at l out[i] (by omega)
   rcases Jd8 (l:=l) (s:=out[i]) with ⟨h1,h2⟩ | ⟨j,hj,h1,h2,_,_⟩
   ·have hz:JdE out (nextL l out[i])=out:=by simp [nextL,h1,JdE]
    rw [h2] at hat
    rw [hz]
    simp [f65_b1,hlt,hat,hw]
   ·have ha:=fn_above l[j] (hc _ (List.getElem_mem hj))
    have hz:nextL l out[i]=JbX l[j]:=by simp [nextL,h2]
    have hnl:=next_len hc out[i]
    rw [hz] at hnl ⊢
    rw [h1] at hat
    have L:=fun k=>h32_0 k l out (JbX l[j]) i (by omega) (by omega)
    have hj':¬ ((j:Int) < 0):=by omega
    simp [f65_b1,hlt,hat,hw,hj,hj',ha,L]
  ·have:out[i]?=none:=List.getElem?_eq_none_iff.mpr (by omega)
   rw [this]
   dsimp only
   rw [u65_l1]
   have hlt':¬ ((i:Int) < out.length):=by omega
   simp [f65_b1,hlt,hlt']
theorem fn_reach (l:List GClass) (s:ByteArray) (hl:l.length≤100) (hc:∀ c ∈ l,OkC c) (σ:List Ob) (lo tr:Nat):Fn fns 65 [vsl l,vstr s] σ lo tr=some (.c (.osl 1 (rows (Ja8 l s))),σ):=by
 refine Jah t65 rfl (σ1:=[]) rfl rfl ?_ σ lo tr
 have L:=fun k=>h32_1 k l s hl hc 3000 0 [s] (bf_one l s) (by simp) (by omega)
 have hr:rows [s]=[[D.str s]]:=rfl
 rw [hr] at L
 unfold Ja8
 generalize bfs l 3000 0 [s]=r at L
 simp only [Int.natCast_zero] at L
 simp [KF,params,f65,L]
theorem reach_len {l:List GClass} (s:ByteArray) (hl:l.length≤100) (hc:∀ c ∈ l,OkC c):(Ja8 l s).length≤1101:=(bfs_bf 3000 0 [s] (bf_one l s)).len hl hc
def lostB (l:List GClass) (c:GClass):Bool:=(!decide (Jan c=⟨#[]⟩) && (match l.find? (fun x:GClass=>decide (x.name=Jan c)) with | some x=>x.iface | none=>true)) || c.ifaces.any fun s=>match l.find? (fun x:GClass=>decide (x.name=s)) with | some x=>!x.iface | none=>true
def ringB (l:List GClass) (c:GClass):Bool:=(JbX c).any fun s=>decide (c.name ∈ Ja8 l s)
def twiceB (l:List GClass):Bool:=l.zipIdx.any fun x=>!decide (atI l x.1.name=(x.2:Int))
def hierE (p:GProgram):Int:=bif progB p then (bif twiceB (allL p) then 6 else bif (allL p).any (lostB (allL p)) then 5 else bif (allL p).any (ringB (allL p)) then 7 else 0) else 4
theorem h10_0 (k:AExit→St→Option (V × List Ob)) (p:GProgram) (l:List GClass) (hl:l.length≤100):K fns ⟨0,0⟩ f35_l0 ⟨[(3,vsl l),(4,vint 0)],[cP p]⟩ k =
  if twiceB l then k .ret ⟨[(2,vint 6)],[cP p]⟩ else k (.exit 0) ⟨[(3,vsl l)],[cP p]⟩:=by
 have:=Jas (l:=l.zipIdx) (p:=fun x=>!decide (atI l x.1.name=(x.2:Int))) (X:=fun i=>K fns ⟨0,0⟩ f35_l0 ⟨[(3,vsl l),(4,vint i)],[cP p]⟩ k) (r:=k .ret ⟨[(2,vint 6)],[cP p]⟩) (e:=k (.exit 0) ⟨[(3,vsl l)],[cP p]⟩)
  (fun i hi=>by
   have hi':i < l.length:=by simpa using hi
   have hw:=Jac (i:=i) (by omega)
   have hat:=fn_at l l[i].name (by omega)
   have hz:l.zipIdx[i]=(l[i],i):=by simp
   rw [hz]
   show K fns _ f35_l0 _ k=_
   rw [u35_l0]
   by_cases hq:atI l l[i].name=(i:Int)
   ·rw [hq] at hat
    simp [f35_b0,hi',hw,hat,hq]
   ·simp [f35_b0,hi',hw,hat,hq])
  (by show K fns _ f35_l0 _ k=_;rw [u35_l0];simp [f35_b0])
 exact this
def noIf (l:List GClass) (s:ByteArray):Bool:=match l.find? (fun x:GClass=>decide (x.name=s)) with | some x=>!x.iface | none=>true
def noSup (l:List GClass) (s:ByteArray):Bool:=match l.find? (fun x:GClass=>decide (x.name=s)) with | some x=>x.iface | none=>true
theorem lostB_eq (l:List GClass) (c:GClass):lostB l c=((!decide (Jan c=⟨#[]⟩) && noSup l (Jan c)) || c.ifaces.any (noIf l)):=rfl
theorem h10_1 (k:AExit→St→Option (V × List Ob)) (p:GProgram) (l:List GClass) (i:Nat) (hi:i < l.length) (hl:l.length≤100) (hc:∀ c ∈ l,OkC c):K fns ⟨0,0⟩ f35_l1 ⟨[(3,vsl l),(5,vint i),(7,vint 0)],[cP p]⟩ k =
  if l[i].ifaces.any (noIf l) then k .ret ⟨[(2,vint 5)],[cP p]⟩ else k (.exit 4) ⟨[(3,vsl l),(5,vint i)],[cP p]⟩ :=
 Jas (l:=l[i].ifaces) (p:=noIf l) (X:=fun j=>K fns ⟨0,0⟩ f35_l1 ⟨[(3,vsl l),(5,vint i),(7,vint j)],[cP p]⟩ k)
  (fun j hj=>by
   have hb:=(hc _ (List.getElem_mem hi)).ifaces
   have hw:=Jac (i:=j) (by omega)
   have hat:=fn_at l l[i].ifaces[j] (by omega)
   show K fns _ f35_l1 _ k=_
   rw [u35_l1]
   rcases Jd8 (l:=l) (s:=l[i].ifaces[j]) with ⟨h1,h2⟩ | ⟨m,hm,h1,h2,_,_⟩
   ·have hz:noIf l l[i].ifaces[j]=true:=by simp [noIf,h1]
    rw [h2] at hat
    simp [f35_b1,hi,hj,hw,hat,hz]
   ·have hz:noIf l l[i].ifaces[j] = !l[m].iface:=by simp [noIf,h2]
    rw [h1] at hat
    have hm':¬ ((m:Int) < 0):=by omega
    cases hq:l[m].iface<;>simp [f35_b1,hi,hj,hw,hat,hz,hm,hm',hq])
  (by show K fns _ f35_l1 _ k=_;rw [u35_l1];simp [f35_b1,hi])
theorem h10_2 (k:AExit→St→Option (V × List Ob)) (p:GProgram) (l:List GClass) (hl:l.length≤100) (hc:∀ c ∈ l,OkC c):K fns ⟨0,0⟩ f35_l2 ⟨[(3,vsl l),(5,vint 0)],[cP p]⟩ k =
  if l.any (lostB l) then k .ret ⟨[(2,vint 5)],[cP p]⟩ else k (.exit 2) ⟨[(3,vsl l)],[cP p]⟩ :=
 Jas (l:=l) (p:=lostB l) (X:=fun i=>K fns ⟨0,0⟩ f35_l2 ⟨[(3,vsl l),(5,vint i)],[cP p]⟩ k)
  (fun i hi=>by
   have hw:=Jac (i:=i) (by omega)
   have hs:=fn_superOf l[i]
   have L:=fun k=>h10_1 k p l i hi hl hc
   have hat:=fn_at l (Jan l[i]) (by omega)
   rw [lostB_eq]
   show K fns _ f35_l2 _ k=_
   rw [u35_l2]
   generalize Jan l[i]=su at hs hat ⊢
   cases hif:l[i].ifaces.any (noIf l)<;>simp only [hif,if_true,if_false,Bool.false_eq_true] at L
   ·by_cases hn:su=⟨#[]⟩
    ·simp [f35_b2,hi,hw,hs,hn,L]
    ·rcases Jd8 (l:=l) (s:=su) with ⟨h1,h2⟩ | ⟨m,hm,h1,h2,_,_⟩
     ·have hz:noSup l su=true:=by simp [noSup,h1]
      rw [h2] at hat
      simp [f35_b2,hi,hw,hs,hn,hat,hz]
     ·have hz:noSup l su=l[m].iface:=by simp [noSup,h2]
      rw [h1] at hat
      have hm':¬ ((m:Int) < 0):=by omega
      cases hq:l[m].iface<;>simp [f35_b2,hi,hw,hs,hn,hat,hz,hm,hm',hq,L]
   ·by_cases hn:su=⟨#[]⟩
    ·simp [f35_b2,hi,hw,hs,hn,L]
    ·rcases Jd8 (l:=l) (s:=su) with ⟨h1,h2⟩ | ⟨m,hm,h1,h2,_,_⟩
     ·have hz:noSup l su=true:=by simp [noSup,h1]
      rw [h2] at hat
      simp [f35_b2,hi,hw,hs,hn,hat,hz]
     ·have hz:noSup l su=l[m].iface:=by simp [noSup,h2]
      rw [h1] at hat
      have hm':¬ ((m:Int) < 0):=by omega
      cases hq:l[m].iface<;>simp [f35_b2,hi,hw,hs,hn,hat,hz,hm,hm',hq,L])
  (by show K fns _ f35_l2 _ k=_;rw [u35_l2];simp [f35_b2])
theorem h10_3 (k:AExit→St→Option (V × List Ob)) (p:GProgram) (l:List GClass) (i:Nat) (hi:i < l.length) (hl:l.length≤100) (hc:∀ c ∈ l,OkC c):K fns ⟨0,0⟩ f35_l3 ⟨[(3,vsl l),(9,vint i),(10,vsl (JbX l[i])),(11,vint 0)],[cP p]⟩ k =
  if ringB l l[i] then k .ret ⟨[(2,vint 7)],[cP p]⟩ else k (.exit 8) ⟨[(3,vsl l),(9,vint i)],[cP p]⟩ :=
 Jas (l:=JbX l[i]) (p:=fun s=>decide (l[i].name ∈ Ja8 l s)) (X:=fun j=>K fns ⟨0,0⟩ f35_l3 ⟨[(3,vsl l),(9,vint i),(10,vsl (JbX l[i])),(11,vint j)],[cP p]⟩ k)
  (fun j hj=>by
   have hb:=(hc _ (List.getElem_mem hi)).ifaces
   have hal:(JbX l[i]).length≤11:=by
    unfold JbX
    by_cases hs:Jan l[i]=⟨#[]⟩<;>simp [hs]<;>omega
   have hw:=Jac (i:=j) (by omega)
   have hr:=fn_reach l (JbX l[i])[j] hl hc
   have hrl:=reach_len (l:=l) (JbX l[i])[j] hl hc
   have hh:=fn_has (Ja8 l (JbX l[i])[j]) l[i].name (by omega)
   generalize JbX l[i]=ab at *
   generalize Ja8 l ab[j]=rr at *
   show K fns _ f35_l3 _ k=_
   rw [u35_l3]
   by_cases hq:l[i].name ∈ rr<;>simp only [hq,decide_true,decide_false] at hh<;>simp [f35_b3,hi,hj,hw,hr,hh,hq])
  (by show K fns _ f35_l3 _ k=_;rw [u35_l3];simp [f35_b3,hi])
theorem h10_4 (k:AExit→St→Option (V × List Ob)) (p:GProgram) (l:List GClass) (hl:l.length≤100) (hc:∀ c ∈ l,OkC c):K fns ⟨0,0⟩ f35_l4 ⟨[(3,vsl l),(9,vint 0)],[cP p]⟩ k =
  if l.any (ringB l) then k .ret ⟨[(2,vint 7)],[cP p]⟩ else k (.exit 6) ⟨[],[cP p]⟩ :=
 Jas (l:=l) (p:=ringB l) (X:=fun i=>K fns ⟨0,0⟩ f35_l4 ⟨[(3,vsl l),(9,vint i)],[cP p]⟩ k)
  (fun i hi=>by
   have hw:=Jac (i:=i) (by omega)
   have ha:=fn_above l[i] (hc _ (List.getElem_mem hi))
   have L:=fun k=>h10_3 k p l i hi hl hc
   generalize JbX l[i]=ab at *
   show K fns _ f35_l4 _ k=_
   rw [u35_l4]
   cases hq:ringB l l[i]<;>simp only [hq,if_true,if_false,Bool.false_eq_true] at L<;>simp [f35_b4,hi,hw,ha,L])
  (by show K fns _ f35_l4 _ k=_;rw [u35_l4];simp [f35_b4])
theorem base_ok:∀ c ∈ baseL,OkC c:=by
 intro c hc
 have:bigC c=false:=by
  have:baseL.all (fun c=>!bigC c)=true:=by decide
  simpa using List.all_eq_true.mp this c hc
 exact okC this
theorem Jce {p:GProgram} (h:OkP p):∀ c ∈ allL p,OkC c:=by
 intro c hc
 rcases List.mem_append.mp hc with a | a
 ·exact base_ok c a
 ·exact h.cs c a
theorem fn_hier (p:GProgram) (h:OkP p) (σ:List Ob) (lo tr:Nat):Fn fns 35 [Jar p] σ lo tr=some (vint (hierE p),σ):=by
 refine Jah t35 rfl (σ1:=[]) rfl rfl ?_ σ lo tr
 unfold hierE
 have hs:=fn_shown p h
 have ha:=fn_refAll p h
 have hl:=Ja7 h
 have hc:=Jce h
 generalize allL p=l at *
 have L0:=fun k=>h10_0 k p l hl
 have L2:=fun k=>h10_2 k p l hl hc
 have L4:=fun k=>h10_4 k p l hl hc
 cases c0:progB p
 ·simp [KF,params,f35,hs,c0]
 cases c1:twiceB l<;>simp only [c1,if_true,if_false,Bool.false_eq_true] at L0
 case true=>simp [KF,params,f35,hs,c0,ha,L0]
 cases c2:l.any (lostB l)<;>simp only [c2,if_true,if_false,Bool.false_eq_true] at L2
 case true=>simp [KF,params,f35,hs,c0,ha,L0,L2]
 cases c3:l.any (ringB l)<;>simp only [c3,if_true,if_false,Bool.false_eq_true] at L4<;>simp [KF,params,f35,hs,c0,ha,L0,L2,L4]
def entC (l:List GClass):List (V × V):=l.map fun c=>(vstr c.name,JaR c)
def findC (l:List GClass) (s:ByteArray):Option GClass:=l.find? fun c:GClass=>decide (c.name=s)
theorem find_key {α:Type} (f:α→ByteArray) (g:α→V) (s:ByteArray):∀ (l:List α) (i:Nat),findKey [2] (vstr s) (l.map fun c=>(vstr (f c),g c)) i=some ((l.findIdx? fun c=>decide (f c=s)).bind fun j=>(l[j]?).map fun c=>(i+j,g c))
 | [],i=>rfl
 | c :: l,i=>by
  have ih:=find_key f g s l (i+1)
  rw [List.map_cons,findKey]
  have he:eqKey [2] (vstr s) (vstr (f c))=some (decide (s=f c)):=by simp [eqKey,sames,D.same,JbR]
  rw [he,List.findIdx?_cons]
  by_cases h:f c=s
  ·have h':s=f c:=h.symm
   simp [h']
  ·have h':¬ s=f c:=fun e=>h e.symm
   simp only [h,h',decide_false,Bool.false_eq_true,if_false]
   rw [ih]
   cases hq:l.findIdx? fun c=>decide (f c=s) with
   | none=>simp
   | some j=>simp;congr;funext c;congr 1;omega
theorem find_keyC (l:List GClass) (s:ByteArray):∃ r,findKey [2] (vstr s) (entC l) 0=some r∧r.map (·.2)=(findC l s).map fun c=>JaR c:=by
 refine ⟨_,find_key (fun c:GClass=>c.name) (fun c=>JaR c) s l 0,?_⟩
 unfold findC
 rcases Jd8 (l:=l) (s:=s) with ⟨h1,h2⟩ | ⟨i,hi,h1,h2,h3,h4⟩
 ·have:l.findIdx? (fun c:GClass=>decide (c.name=s))=none:=by
   rw [List.findIdx?_eq_none_iff];intro x hx;simpa using List.find?_eq_none.mp h1 x hx
  rw [this,h1];rfl
 ·have:l.findIdx? (fun c:GClass=>decide (c.name=s))=some i:=by
   rw [List.findIdx?_eq_some_iff_getElem]
   exact ⟨hi,by simpa using h3,fun j hj=>by simpa using h4 j hj⟩
  rw [this,h2];simp [hi]
abbrev z6v:V:=.agg [.b (.d (.str ⟨#[]⟩)),.b (.d (.bool false)),.b (.d (.str ⟨#[]⟩)),.b (.d (.sl [])),.b (.d (.sl [])),.b (.d (.sl []))]
def noC:GClass:=⟨⟨#[]⟩,false,⟨#[]⟩,[],[],[]⟩
theorem got_C (l:List GClass) (s:ByteArray):∃ r,findKey [2] (vstr s) (entC l) 0=some r∧got z6v r=JaR ((findC l s).getD noC)∧r.isSome=(findC l s).isSome:=by
 obtain ⟨r,h1,h2⟩:=find_keyC l s
 refine ⟨r,h1,?_,?_⟩
 ·cases r with
  | none =>
   cases hf:findC l s with
   | none=>rfl
   | some c=>rw [hf] at h2;cases h2
  | some x =>
   cases hf:findC l s with
   | none=>rw [hf] at h2;cases h2
   | some c =>
    rw [hf] at h2
    simp only [Option.map_some,Option.some.injEq] at h2
    obtain ⟨i,v⟩:=x
    simp only at h2
    subst h2
    simp [got,V.down,C.down]
 ·have:=congrArg Option.isSome h2
  simpa using this
structure TreeAt (σ:List Ob) (T A M:Nat) (own E:Int) (names:List ByteArray) (l:List GClass):Prop where
 t:σ[T]?=some (.cells [.b (.d (.int .i64 own)),.osl 1 (rows names),.b (.d (.int .i64 E)),.b (.map A),.b (.map M)])
 a:σ[A]?=some (.map (entC l))
theorem Jaf {α:Type} {l:List α} {i:Nat} {x:α} (h:l[i]?=some x):i < l.length:=(List.getElem?_eq_some_iff.mp h).1
theorem fn_super (c:GClass) (T:Nat) (σ:List Ob) (lo tr:Nat) (hlo:lo≤σ.length) (hσ:σ.all (Ob.closed σ.length)=true):Fn fns 85 [vptr T,JaR c] σ lo tr=some (.tup [vstr (Jan c),vbool (!decide (Jan c=⟨#[]⟩))],σ):=by
 rw [fn_eq t85 rfl rfl]
 have hm:max lo σ.length=σ.length:=by omega
 have n1:¬ ((⟨#[79,98,106,101,99,116]⟩:ByteArray)=⟨#[]⟩):=by decide
 unfold Jan
 cases h1:c.iface
 ·by_cases h2:c.name=Jax
  ·simp [KF,params,f85,hm,h1,h2]
  ·by_cases h3:c.super=⟨#[]⟩<;>simp [KF,params,f85,hm,h1,h2,h3,n1]
 ·simp [KF,params,f85,hm,h1]
def nextP (c:GClass):List ByteArray:=c.ifaces ++ (if Jan c=⟨#[]⟩ then [] else [Jan c])
theorem fn_next {σ:List Ob} {T A M:Nat} {own E:Int} {names:List ByteArray} {l:List GClass} (h:TreeAt σ T A M own E names l) (hc:∀ c ∈ l,OkC c) (s:ByteArray) (lo tr:Nat) (hlo:lo≤σ.length) (hσ:∀ k,σ.all (Ob.closed (σ.length+k))=true):Fn fns 102 [vptr T,vstr s] σ lo tr=some (.c (.osl 1 (rows (nextP ((findC l s).getD noC)))),σ):=by
 rw [fn_eq t102 rfl rfl]
 obtain ⟨r,h1,h2,h3⟩:=got_C l s
 have hT:=Jaf h.t
 have hA:=Jaf h.a
 have ht:=(List.getElem?_eq_some_iff.mp h.t).2
 have ha:=(List.getElem?_eq_some_iff.mp h.a).2
 generalize hcc:(findC l s).getD noC=c at h2 ⊢
 have hok:OkC c:=by
  subst hcc
  cases hf:findC l s with
  | none=>exact okC (by decide)
  | some c=>exact hc c (Jdl hf).1
 have hi:=hok.ifaces
 have hcl:=fn_cloneS c.ifaces (by omega)
 have hs:=fun σ lo tr hlo hσ=>fn_super c T σ lo tr hlo hσ
 have hm:max lo σ.length=σ.length:=by omega
 have q1:c.ifaces.length+1≤70368744177664:=by omega
 have q2:(c.ifaces.length+1) * 16≤70368744177664:=by omega
 unfold nextP
 by_cases hn:Jan c=⟨#[]⟩
 ·simp [KF,params,f102,List.getElem?_append_left,List.getElem?_append_right,hT,hA,ht,ha,h1,h2,mapOf,Jak,hcl,hs,hσ,hn,hm]
 ·simp [KF,params,f102,List.getElem?_append_left,List.getElem?_append_right,hT,hA,ht,ha,h1,h2,mapOf,Jak,hcl,hs,hσ,hn,hm,q1,q2]
theorem Jbk {α:Type} {l:List α} {i:Nat} {x:α} (h:l[i]?=some x) (X:List α):(l ++ X)[i]?=some x:=by
 rw [List.getElem?_append_left (Jaf h)];exact h
theorem TreeAt.app {σ:List Ob} {T A M:Nat} {own E:Int} {names:List ByteArray} {l:List GClass} (h:TreeAt σ T A M own E names l) (X:List Ob):TreeAt (σ ++ X) T A M own E names l:=⟨Jbk h.t X,Jbk h.a X⟩
theorem fn_lost1 {σ:List Ob} {T A M q:Nat} {own E:Int} {names:List ByteArray} {l:List GClass} (h:TreeAt σ T A M own E names l) (hq:σ[q]?=some (.cells [.b (.ptr T 0)])) (s:ByteArray) (lo tr:Nat) (hlo:lo≤σ.length):Fn fns 100 [vstr s,vptr q] σ lo tr=some (vbool (noIf l s),σ):=by
 rw [fn_eq t100 rfl rfl]
 have hm:max lo σ.length=σ.length:=by omega
 obtain ⟨r,h1,h2,h3⟩:=got_C l s
 have hT:=Jaf h.t
 have hA:=Jaf h.a
 have hQ:=Jaf hq
 have ht:=(List.getElem?_eq_some_iff.mp h.t).2
 have ha:=(List.getElem?_eq_some_iff.mp h.a).2
 have hq:=(List.getElem?_eq_some_iff.mp hq).2
 have hn:noIf l s=match findC l s with | some x=>!x.iface | none=>true:=rfl
 rw [hn]
 cases hf:findC l s with
 | none =>
  rw [hf] at h2 h3
  simp [KF,params,f100,List.getElem?_append_left,List.getElem?_append_right,hT,hA,hQ,ht,ha,hq,h1,h2,h3,mapOf,Jak,hm]
 | some c =>
  rw [hf] at h2 h3
  cases hi:c.iface<;>simp [KF,params,f100,List.getElem?_append_left,List.getElem?_append_right,hT,hA,hQ,ht,ha,hq,h1,h2,h3,mapOf,Jak,hm,hi]
theorem fn_lost {σ:List Ob} {T A M:Nat} {own E:Int} {names:List ByteArray} {l:List GClass} (h:TreeAt σ T A M own E names l) (c:GClass) (hok:OkC c) (lo tr:Nat) (hlo:lo≤σ.length) (hσ:∀ k,σ.all (Ob.closed (σ.length+k))=true):Fn fns 81 [vptr T,JaR c] σ lo tr=some (vbool (lostB l c),σ):=by
 rw [fn_eq t81 rfl rfl,lostB_eq]
 have hi:=hok.ifaces
 have hT:=Jaf h.t
 have hA:=Jaf h.a
 have ht:=(List.getElem?_eq_some_iff.mp h.t).2
 have ha:=(List.getElem?_eq_some_iff.mp h.a).2
 have hm:max lo σ.length=σ.length:=by omega
 have hs:=fun σ lo tr hlo hσ=>fn_super c T σ lo tr hlo hσ
 have hTk:∀ k,T < σ.length+k:=fun k=>by omega
 have hcont:∀ (X:List Ob) (lo' tr':Nat),lo'≤σ.length→X.all (Ob.closed (σ.length+(1+X.length)))=true→Fn fns 82 [vsl c.ifaces,.c (.fn 100 [] [.ptr σ.length 0])] (σ ++ .cells [.b (.ptr T 0)] :: X) lo' tr'=some (vbool (c.ifaces.any (noIf l)),σ ++ .cells [.b (.ptr T 0)] :: X):=by
  intro X lo' tr' hlo' hX
  have hlen:(σ ++ Ob.cells [.b (.ptr T 0)] :: X).length=σ.length+(1+X.length):=by simp;omega
  refine fn_contS c.ifaces 100 [] [.ptr σ.length 0] _ lo' tr' (by rw [hlen];omega) (by simp [C.closed,B.closed]) (by rw [hlen];simp [C.closed,B.closed];omega) ?_ (by omega) (noIf l) (fun i hi tr''=>?_)
  ·rw [hlen];simp only [List.all_append,List.all_cons,hσ,hX,Bool.true_and,Bool.and_true];simp [Ob.closed,C.closed,B.closed];omega
  ·exact fn_lost1 (q:=σ.length) (h.app _) (by simp) _ _ _ (Nat.le_refl _)
 by_cases hn:Jan c=⟨#[]⟩
 ·simp [KF,params,f81,List.getElem?_append_left,List.getElem?_append_right,hT,hA,ht,ha,mapOf,Jak,hs,hσ,hn,hm,bsOf,hTk,hcont]
 ·obtain ⟨r,h1,h2,h3⟩:=got_C l (Jan c)
  have hN:noSup l (Jan c)=match findC l (Jan c) with | some x=>x.iface | none=>true:=rfl
  rw [hN]
  cases hf:findC l (Jan c) with
  | none =>
   rw [hf] at h2 h3
   simp [KF,params,f81,List.getElem?_append_left,List.getElem?_append_right,hT,hA,ht,ha,mapOf,Jak,hs,hσ,hn,hm,bsOf,hTk,hcont,h1,h2,h3]
  | some d =>
   rw [hf] at h2 h3
   cases hd:d.iface<;>simp [KF,params,f81,List.getElem?_append_left,List.getElem?_append_right,hT,hA,ht,ha,mapOf,Jak,hs,hσ,hn,hm,bsOf,hTk,hcont,h1,h2,h3,hd]
def nx (l:List GClass) (s:ByteArray):List ByteArray:=nextP ((findC l s).getD noC)
def Jab (l:List GClass):List ByteArray:=l.map (·.name)
def Whole (l:List GClass):Prop:=∀ s ∈ Jab l,∀ x ∈ nx l s,x ∈ Jab l
def dfs (l:List GClass):Nat→List ByteArray→ByteArray→List ByteArray
 | 0,ns,_=>ns
 | n+1,ns,s=>(nx l s).foldl (fun acc x=>if x ∈ acc then acc else dfs l n acc x) (if s ∈ ns then ns else ns ++ [s])
structure Met (l:List GClass) (ns:List ByteArray):Prop where
 nd:ns.Nodup
 sub:∀ x ∈ ns,x ∈ Jab l
theorem Met.add {l:List GClass} {ns:List ByteArray} (h:Met l ns) {s:ByteArray} (hs:s ∈ Jab l):Met l (if s ∈ ns then ns else ns ++ [s]):=by
 by_cases hy:s ∈ ns
 ·simpa [hy] using h
 ·simp only [hy,if_false]
  refine ⟨?_,?_⟩
  ·rw [List.nodup_append]
   exact ⟨h.nd,by simp,by rintro a ha b hb rfl;simp at hb;exact hy (hb ▸ ha)⟩
  ·intro x hx
   rcases List.mem_append.mp hx with a | a
   ·exact h.sub x a
   ·simp at a;subst a;exact hs
theorem Met.len {l:List GClass} {ns:List ByteArray} (h:Met l ns):ns.length≤l.length:=by
 have:=nodup_sub h.nd h.sub
 simpa [Jab] using this
theorem dfs_met {l:List GClass} (hw:Whole l):∀ (n:Nat) (ns:List ByteArray) (s:ByteArray),Met l ns→s ∈ Jab l→Met l (dfs l n ns s)∧ns.length≤(dfs l n ns s).length∧∀ x ∈ ns,x ∈ dfs l n ns s:=by
 intro n
 induction n with
 | zero=>intro ns s h _;exact ⟨h,Nat.le_refl _,fun x hx=>hx⟩
 | succ n ih =>
  intro ns s h hs
  have key:∀ (L:List ByteArray) (acc:List ByteArray),(∀ x ∈ L,x ∈ Jab l)→Met l acc→Met l (L.foldl (fun acc x=>if x ∈ acc then acc else dfs l n acc x) acc)∧acc.length≤(L.foldl (fun acc x=>if x ∈ acc then acc else dfs l n acc x) acc).length∧∀ x ∈ acc,x ∈ L.foldl (fun acc x=>if x ∈ acc then acc else dfs l n acc x) acc:=by
   intro L
   induction L with
   | nil=>intro acc _ h;exact ⟨h,Nat.le_refl _,fun x hx=>hx⟩
   | cons y t iht =>
    intro acc hL hacc
    rw [List.foldl_cons]
    by_cases hy:y ∈ acc
    ·simp only [hy,if_true]
     exact iht acc (fun x hx=>hL x (List.mem_cons_of_mem _ hx)) hacc
    ·simp only [hy,if_false]
     obtain ⟨a,b,c⟩:=ih acc y hacc (hL y List.mem_cons_self)
     obtain ⟨a',b',c'⟩:=iht _ (fun x hx=>hL x (List.mem_cons_of_mem _ hx)) a
     exact ⟨a',Nat.le_trans b b',fun x hx=>c' x (c x hx)⟩
  obtain ⟨a,b,c⟩:=key (nx l s) _ (hw s hs) (h.add hs)
  refine ⟨a,Nat.le_trans ?_ b,fun x hx=>c x ?_⟩
  ·by_cases hy:s ∈ ns<;>simp [hy]
  ·by_cases hy:s ∈ ns<;>simp [hy,hx]
def entS (ns:List ByteArray):List (V × V):=ns.map fun s=>(vstr s,vbool true)
theorem got_S (ns:List ByteArray) (s:ByteArray):∃ r,findKey [2] (vstr s) (entS ns) 0=some r∧got (vbool false) r=vbool (decide (s ∈ ns))∧((r=none∧s ∉ ns)∨∃ i v,r=some (i,v)∧s ∈ ns∧(entS ns).set i (vstr s,vbool true)=entS ns):=by
 refine ⟨_,find_key (fun s:ByteArray=>s) (fun _=>vbool true) s ns 0,?_⟩
 cases hq:ns.findIdx? (fun c=>decide (c=s)) with
 | none =>
  have hn:s ∉ ns:=by
   rw [List.findIdx?_eq_none_iff] at hq
   intro h;simpa using hq s h
  exact ⟨by simp [got,hn],Or.inl ⟨rfl,hn⟩⟩
 | some i =>
  rw [List.findIdx?_eq_some_iff_getElem] at hq
  obtain ⟨h1,h2,_⟩:=hq
  have h3:ns[i]=s:=by simpa using h2
  have hs:s ∈ ns:=h3 ▸ List.getElem_mem h1
  refine ⟨by simp [got,hs,h1,V.down,C.down],Or.inr ⟨i,vbool true,by simp [h1],hs,?_⟩⟩
  apply List.ext_getElem?
  intro j
  by_cases hj:i=j
  ·subst hj
   rw [List.getElem?_set_self (by simpa [entS] using h1)]
   simp [entS,h1,h3]
  ·rw [List.getElem?_set_ne hj]
theorem entS_closed (ns:List ByteArray) (n:Nat):Ob.closed n (.map (entS ns))=true:=by
 simp [Ob.closed,entS,V.closed1,C.closed,B.closed]
theorem Ja9 {σ:List Ob} {m:Nat} {x:Ob} {p:Ob→Bool} (h:σ.all p=true) (hx:p x=true):(σ.set m x).all p=true:=by
 rw [List.all_eq_true] at h ⊢
 intro y hy
 rcases List.mem_or_eq_of_mem_set hy with a | a
 ·exact h y a
 ·subst a;exact hx
section
variable {σ:List Ob} {T A M m:Nat} {own E:Int} {names:List ByteArray} {l:List GClass}
theorem TreeAt.set (h:TreeAt σ T A M own E names l) (h1:T≠m) (h2:A≠m) (x:Ob):TreeAt (σ.set m x) T A M own E names l :=
 ⟨by rw [List.getElem?_set_ne (Ne.symm h1)];exact h.t,by rw [List.getElem?_set_ne (Ne.symm h2)];exact h.a⟩
theorem fn_climb (h:TreeAt σ T A M own E names l) (h1:T≠m) (h2:A≠m) (hm:m < σ.length) (hl:l.length≤100) (hc:∀ c ∈ l,OkC c) (hw:Whole l) (hσ:∀ k,σ.all (Ob.closed (σ.length+k))=true) :
  ∀ (n:Nat) (ns:List ByteArray) (s:ByteArray) (lo tr:Nat),Met l ns→s ∈ Jab l→l.length+(if s ∈ ns then 1 else 0) < n+ns.length→lo≤m→Fn fns 84 [vptr T,vstr s,.c (.b (.map m))] (σ.set m (.map (entS ns))) lo tr=some (.tup [],σ.set m (.map (entS (dfs l n ns s)))):=by
 intro n
 induction n with
 | zero =>
  intro ns s lo tr hm _ hf
  have:=hm.len
  omega
 | succ n ih =>
  intro ns s lo tr hmet hs hf hlo
  have hT:=Jaf h.t
  have hls:lo≤σ.length:=by omega
  have hset:∀ k ns,(σ.set m (.map (entS ns))).all (Ob.closed (σ.length+k))=true:=fun k ns=>Ja9 (hσ k) (entS_closed ns _)
  have hset0:∀ ns,(σ.set m (.map (entS ns))).all (Ob.closed σ.length)=true:=fun ns=>hset 0 ns
  rw [fn_eq t84 rfl rfl]
  have htk:∀ x:Ob,List.take σ.length (σ.set m x)=σ.set m x:=fun x=>List.take_of_length_le (by simp)
  obtain ⟨r,g1,g2,g3⟩:=got_S ns s
  have hnext:=fun ns lo tr hlo=>fn_next (h.set h1 h2 (.map (entS ns))) hc s lo tr hlo (by simpa using fun k=>hset k ns)
  have hnx:nextP ((findC l s).getD noC)=nx l s:=rfl
  have hms:=hmet.add hs
  have hin:=hw s hs
  rw [hnx] at hnext
  have hnl:(nx l s).length≤11:=by
   unfold nx nextP
   cases hf:findC l s with
   | none=>decide
   | some c =>
    have:=(hc c (Jdl hf).1).ifaces
    by_cases hz:Jan c=⟨#[]⟩<;>simp [hz]<;>omega
  have L:∀ (tr':Nat) (k:AExit→St→Option (V × List Ob)) (acc:List ByteArray),Met l acc→l.length < n+acc.length→K fns ⟨lo,tr'⟩ f84_l0 ⟨[(0,vptr T),(2,.c (.b (.map m))),(12,.c (.osl 1 (rows (nx l s)))),(13,vint (nx l s).length),(14,vint 0)],σ.set m (.map (entS acc))⟩ k=k (.exit 0) ⟨[],σ.set m (.map (entS ((nx l s).foldl (fun acc x=>if x ∈ acc then acc else dfs l n acc x) acc)))⟩:=fun tr' k acc ha1 ha2 =>
   scan_fold (l:=nx l s) (f:=fun acc x=>if x ∈ acc then acc else dfs l n acc x) (I:=fun _ c=>Met l c∧l.length < n+c.length)
    (X:=fun i c=>K fns ⟨lo,tr'⟩ f84_l0 ⟨[(0,vptr T),(2,.c (.b (.map m))),(12,.c (.osl 1 (rows (nx l s)))),(13,vint (nx l s).length),(14,vint i)],σ.set m (.map (entS c))⟩ k)
    (e:=fun c=>k (.exit 0) ⟨[],σ.set m (.map (entS c))⟩)
    (fun i c hi hI=>by
     have hw1:=Jac (i:=i) (by omega)
     obtain ⟨r,g1,g2,g3⟩:=got_S c (nx l s)[i]
     have hy:(nx l s)[i] ∈ Jab l:=hin _ (List.getElem_mem hi)
     refine ⟨?_,?_⟩
     ·show K fns _ f84_l0 _ k=_
      rw [u84_l0]
      by_cases hx:(nx l s)[i] ∈ c
      ·simp only [hx,decide_true] at g2
       simp [f84_b0,hi,hw1,hx,g1,g2,mapOf,Jak,hm,hT,htk,hset0]
      ·simp only [hx,decide_false] at g2
       have hcall:=fun tr'=>ih c (nx l s)[i] lo tr' hI.1 hy (by simpa [hx] using hI.2) hlo
       simp [f84_b0,hi,hw1,hx,g1,g2,mapOf,Jak,hm,hT,htk,hset0,hcall]
     ·by_cases hx:(nx l s)[i] ∈ c
      ·simpa [hx] using hI
      ·simp only [hx,if_false]
       obtain ⟨a,b,_⟩:=dfs_met hw n c _ hI.1 hy
       exact ⟨a,by have:=hI.2;omega⟩)
    (fun c hI=>by
     show K fns _ f84_l0 _ k=_
     rw [u84_l0];simp [f84_b0,hm,hT,htk,hset0])
    ⟨ha1,ha2⟩
  have hd:dfs l (n+1) ns s=(nx l s).foldl (fun acc x=>if x ∈ acc then acc else dfs l n acc x) (if s ∈ ns then ns else ns ++ [s]):=rfl
  rw [hd]
  rcases g3 with ⟨g4,g5⟩ | ⟨i,v,g4,g5,g6⟩
  ·simp only [g5,if_false] at hf hms ⊢
   have L1:=fun tr' k=>L tr' k (ns ++ [s]) hms (by simp;omega)
   have he:entS ns ++ [(vstr s,vbool true)]=entS (ns ++ [s]):=by simp [entS]
   subst g4
   simp [KF,params,f84,hm,hT,htk,hset0,mapOf,Jak,g1,he,hnext,hlo,hls,L1]
  ·simp only [g5,if_true] at hf hms ⊢
   have L1:=fun tr' k=>L tr' k ns hms (by omega)
   subst g4
   simp [KF,params,f84,hm,hT,htk,hset0,mapOf,Jak,g1,g6,hnext,hlo,hls,L1]
def ringP (l:List GClass) (s:ByteArray):Bool:=decide (s ∈ (nx l s).foldl (fun acc x=>if x ∈ acc then acc else dfs l 200 acc x) [])
theorem nx_len (hc:∀ c ∈ l,OkC c) (s:ByteArray):(nx l s).length≤11:=by
 unfold nx nextP
 cases hf:findC l s with
 | none=>decide
 | some c =>
  have:=(hc c (Jdl hf).1).ifaces
  by_cases hz:Jan c=⟨#[]⟩<;>simp [hz]<;>omega
theorem fn_ring (h:TreeAt σ T A M own E names l) (hl:l.length≤100) (hc:∀ c ∈ l,OkC c) (hw:Whole l) (hσ:∀ k,σ.all (Ob.closed (σ.length+k))=true) (s:ByteArray) (hs:s ∈ Jab l) (lo tr:Nat) (hlo:lo≤σ.length) :
  Fn fns 83 [vptr T,vstr s] σ lo tr=some (vbool (ringP l s),σ):=by
 rw [fn_eq t83 rfl rfl]
 have hT:=Jaf h.t
 have hA:=Jaf h.a
 have hm:max lo σ.length=σ.length:=by omega
 have hTk:∀ k,T < σ.length+k:=fun k=>by omega
 have hcall:∀ (ns:List ByteArray) (x:ByteArray) (tr':Nat),Met l ns→x ∈ Jab l→Fn fns 84 [vptr T,vstr x,.c (.b (.map σ.length))] (σ ++ [Ob.map (entS ns)]) σ.length tr'=some (.tup [],σ ++ [Ob.map (entS (dfs l 200 ns x))]):=by
  intro ns x tr' hmet hx
  have hset:∀ y:Ob,(σ ++ [Ob.map []]).set σ.length y=σ ++ [y]:=fun y=>by rw [List.set_append_right _ _ (Nat.le_refl _)];simp
  have:=fn_climb (m:=σ.length) (h.app [Ob.map []]) (by omega) (by omega) (by simp) hl hc hw (fun k=>by
   have:=hσ (k+1)
   rw [List.all_append,List.length_append,List.length_singleton,Nat.add_assoc,Nat.add_comm 1 k,this];rfl) 200 ns x σ.length tr' hmet hx (by split<;>omega) (Nat.le_refl _)
  rwa [hset,hset] at this
 have hnext:=fun ns lo tr hlo=>fn_next (h.app [Ob.map (entS ns)]) hc s lo tr hlo (fun k=>by
   have:=hσ (k+1)
   rw [List.all_append,List.length_append,List.length_singleton,Nat.add_assoc,Nat.add_comm 1 k,this];simp only [Bool.true_and,List.all_cons,List.all_nil,Bool.and_true];exact entS_closed _ _)
 have hnx:nextP ((findC l s).getD noC)=nx l s:=rfl
 rw [hnx] at hnext
 have hnl:=nx_len (l:=l) hc s
 have hin:=hw s hs
 have htk:∀ x:Ob,List.take (σ.length+1) (σ ++ [x])=σ ++ [x]:=fun x=>List.take_of_length_le (by simp)
 have hcl:∀ ns,(σ ++ [Ob.map (entS ns)]).all (Ob.closed (σ.length+1))=true:=fun ns=>by
  rw [List.all_append,hσ 1];simp only [Bool.true_and,List.all_cons,List.all_nil,Bool.and_true];exact entS_closed _ _
 have L:∀ (tr':Nat) (k:AExit→St→Option (V × List Ob)),K fns ⟨σ.length,tr'⟩ f83_l0 ⟨[(0,vptr T),(1,vstr s),(5,.c (.b (.map σ.length))),(11,.c (.osl 1 (rows (nx l s)))),(12,vint (nx l s).length),(13,vint 0)],σ ++ [Ob.map (entS [])]⟩ k=k (.exit 0) ⟨[(1,vstr s),(5,.c (.b (.map σ.length)))],σ ++ [Ob.map (entS ((nx l s).foldl (fun acc x=>if x ∈ acc then acc else dfs l 200 acc x) []))]⟩:=fun tr' k =>
  scan_fold (l:=nx l s) (f:=fun acc x=>if x ∈ acc then acc else dfs l 200 acc x) (I:=fun _ c=>Met l c)
   (X:=fun i c=>K fns ⟨σ.length,tr'⟩ f83_l0 ⟨[(0,vptr T),(1,vstr s),(5,.c (.b (.map σ.length))),(11,.c (.osl 1 (rows (nx l s)))),(12,vint (nx l s).length),(13,vint i)],σ ++ [Ob.map (entS c)]⟩ k)
   (e:=fun c=>k (.exit 0) ⟨[(1,vstr s),(5,.c (.b (.map σ.length)))],σ ++ [Ob.map (entS c)]⟩)
   (fun i c hi hI=>by
    have hw1:=Jac (i:=i) (by omega)
    obtain ⟨r,g1,g2,g3⟩:=got_S c (nx l s)[i]
    have hy:(nx l s)[i] ∈ Jab l:=hin _ (List.getElem_mem hi)
    refine ⟨?_,?_⟩
    ·show K fns _ f83_l0 _ k=_
     rw [u83_l0]
     by_cases hx:(nx l s)[i] ∈ c
     ·simp only [hx,decide_true] at g2
      simp [f83_b0,List.getElem?_append_right,hi,hw1,hx,g1,g2,mapOf,Jak,hTk,htk,hcl]
     ·simp only [hx,decide_false] at g2
      have hcall:=fun tr'=>hcall c (nx l s)[i] tr' hI hy
      simp [f83_b0,List.getElem?_append_right,hi,hw1,hx,g1,g2,mapOf,Jak,hTk,htk,hcl,hcall]
    ·by_cases hx:(nx l s)[i] ∈ c
     ·simpa [hx] using hI
     ·simp only [hx,if_false]
      exact (dfs_met hw 200 c _ hI hy).1)
   (fun c hI=>by
    show K fns _ f83_l0 _ k=_
    rw [u83_l0];simp [f83_b0,List.getElem?_append_right,hTk,htk,hcl])
   ⟨by simp,by simp⟩
 unfold ringP
 generalize (nx l s).foldl (fun acc x=>if x ∈ acc then acc else dfs l 200 acc x) []=ns at L ⊢
 obtain ⟨r,g1,g2,g3⟩:=got_S ns s
 have hnext0:=fun lo tr hlo=>hnext [] lo tr hlo
 simp only [show entS []=[] from rfl] at L hnext0
 simp [KF,params,f83,List.getElem?_append_right,hm,mapOf,Jak,hTk,hnext0,L,g1,g2]
end
end
end Go.Proofs.YtahmcphboodogaaGreatDoor.Am
