/- Lemmas that the rows' proofs rest on; each states its own conditions. -/
import Derived.Test.YteeofkbhopioiaaGreatDoorHierMA
namespace Go.Proofs.YteeofkbhopioiaaGreatDoor.Am
set_option linter.unusedSimpArgs false
set_option linter.unusedVariables false
set_option linter.unusedSectionVars false
open Go
section
attribute [local simp ↓] K_seq K_cond K_block K_region K_skip K_exit K_ret K_wrap KA_nil KA_none KA_some str_eq
attribute [local simp] beq_int bne_int dec_eqN dec_ltN dec_leN stepOp St.rd St.raw St.set St.took get_cons V.down C.down Env.keep binV unV arith isShift strs intOf optInt wrapEnd keptAt andK endOf frzV frz1 frzC frzCs frz1s resOf resOne resAll V.closed V.closed1 C.closed B.closed Ob.closed V.cells partsIn rep chunk datas C.data rowsOf getCells put_nil put_zero put_succ mayWrite C.plain eqV_bool eqV_agg eqV_pnn eqV_pnp eqV_ppn eqV_mnn eqV_mmn eqV_snn eqV_sen eqV_san eqV_sdn rs_len rs_getE rs_app rs_take rs_drop rs_all rs_each row_len str_nilP str_nilE str_nilB vagg row_Int row_Bool row_Str k_Int k_Bool k_Str snoc_Int snoc_Bool snoc_Str row_Type k_Type snoc_Type eta_Type sames_Type row_Field k_Field snoc_Field eta_Field sames_Field row_Instr k_Instr snoc_Instr eta_Instr sames_Instr row_Catch k_Catch snoc_Catch eta_Catch sames_Catch row_Method k_Method snoc_Method row_Class k_Class snoc_Class row_Program k_Program snoc_Program row_Slot k_Slot snoc_Slot eta_Slot sames_Slot row_Way k_Way snoc_Way eta_Way sames_Way
def shapeN (n:Int):Int:=if n=1 then 1 else if n=3∨n=4 then 2 else if 14≤n∧n≤26 then 3 else if n=27∨n=33∨n=37∨n=38 then 4 else if (28≤n∧n≤31)∨n=39∨n=40 then 5 else 0
theorem fn_shape (n:Int) (σ:List Ob) (lo tr:Nat):Fn fns 128 [vint n] σ lo tr=some (vint (shapeN n),σ):=by
 refine fn_gen t128 rfl (σ1:=[]) rfl rfl ?_ σ lo tr
 unfold shapeN
 by_cases h1:n=1
 ·simp [KF,params,f128,h1]
 by_cases h3:n=3
 ·simp [KF,params,f128,h3]
 by_cases h4:n=4
 ·simp [KF,params,f128,h4]
 by_cases ha:14≤n
 case neg =>
  have e1:¬ n=27:=by omega
  have e2:¬ n=33:=by omega
  have e3:¬ n=37:=by omega
  have e4:¬ n=38:=by omega
  have e5:¬ n=39:=by omega
  have e6:¬ n=40:=by omega
  have e7:¬ 28≤n:=by omega
  simp [KF,params,f128,h1,h3,h4,ha,e1,e2,e3,e4,e5,e6,e7]
 by_cases hb:n≤26
 ·simp [KF,params,f128,h1,h3,h4,ha,hb]
 by_cases e1:n=27
 ·simp [KF,params,f128,e1]
 by_cases e2:n=33
 ·simp [KF,params,f128,e2]
 by_cases e3:n=37
 ·simp [KF,params,f128,e3]
 by_cases e4:n=38
 ·simp [KF,params,f128,e4]
 have hc:28≤n:=by omega
 by_cases hd:n≤31
 ·simp [KF,params,f128,h1,h3,h4,ha,hb,e1,e2,e3,e4,hc,hd]
 by_cases e5:n=39
 ·simp [KF,params,f128,e5]
 by_cases e6:n=40
 ·simp [KF,params,f128,e6]
 simp [KF,params,f128,h1,h3,h4,ha,hb,e1,e2,e3,e4,hc,hd,e5,e6]
def loN (n:Int):Int:=if shapeN n=1 then -2147483648 else 0
def hiN (n:Int):Int:=if shapeN n=1 then 2147483647 else if shapeN n=2 then 7 else if shapeN n=3 then 47 else 0
def namedB (s:ByteArray) (is:Bool):Bool:=bif is then freshB s else decide (s=⟨#[]⟩)
def instrB (x:GInstr):Bool:=inB x.op 0 43 && (inB x.n (loN x.op) (hiN x.op) && (namedB x.a (decide (4≤shapeN x.op)) && namedB x.b (decide (5≤shapeN x.op))))
theorem shape_cases (n:Int):shapeN n=0∨shapeN n=1∨shapeN n=2∨shapeN n=3∨shapeN n=4∨shapeN n=5:=by
 unfold shapeN
 split
 ·simp
 ·split
  ·simp
  ·split
   ·simp
   ·split
    ·simp
    ·split<;>simp
theorem fn_refInstr (x:GInstr) (σ:List Ob) (lo tr:Nat):Fn fns 100 [vInstr x] σ lo tr=some (vbool (instrB x),σ):=by
 refine fn_gen t100 rfl (σ1:=[]) rfl rfl ?_ σ lo tr
 unfold instrB loN hiN
 cases h0:inB x.op 0 43
 ·simp [KF,params,f100,fn_refIn,h0]
 have hz:inB x.n 0 0=decide (x.n=0):=by
  unfold inB
  by_cases h:x.n=0
  ·simp [h]
  ·by_cases h':0≤x.n<;>simp [h,h'];omega
 rcases shape_cases x.op with h | h | h | h | h | h
 ·rw [h]
  simp only [if_neg (show ¬ (0:Int)=1 by decide),if_neg (show ¬ (0:Int)=2 by decide),if_neg (show ¬ (0:Int)=3 by decide),hz]
  by_cases h2:x.n=0
  ·by_cases h3:x.a=⟨#[]⟩<;>simp [KF,params,f100,fn_refIn,fn_shape,fn_refFresh,h0,h,h2,h3,namedB]
  ·simp [KF,params,f100,fn_refIn,fn_shape,fn_refFresh,h0,h,h2,namedB]
 ·rw [h]
  simp only [if_pos]
  cases h2:inB x.n (-2147483648) 2147483647
  ·simp [KF,params,f100,fn_refIn,fn_shape,fn_refFresh,h0,h,h2,namedB]
  ·by_cases h3:x.a=⟨#[]⟩<;>simp [KF,params,f100,fn_refIn,fn_shape,fn_refFresh,h0,h,h2,h3,namedB]
 ·rw [h]
  simp only [if_neg (show ¬ (2:Int)=1 by decide),if_pos]
  cases h2:inB x.n 0 7
  ·simp [KF,params,f100,fn_refIn,fn_shape,fn_refFresh,h0,h,h2,namedB]
  ·by_cases h3:x.a=⟨#[]⟩<;>simp [KF,params,f100,fn_refIn,fn_shape,fn_refFresh,h0,h,h2,h3,namedB]
 ·rw [h]
  simp only [if_neg (show ¬ (3:Int)=1 by decide),if_neg (show ¬ (3:Int)=2 by decide),if_pos]
  cases h2:inB x.n 0 47
  ·simp [KF,params,f100,fn_refIn,fn_shape,fn_refFresh,h0,h,h2,namedB]
  ·by_cases h3:x.a=⟨#[]⟩<;>simp [KF,params,f100,fn_refIn,fn_shape,fn_refFresh,h0,h,h2,h3,namedB]
 ·rw [h]
  simp only [if_neg (show ¬ (4:Int)=1 by decide),if_neg (show ¬ (4:Int)=2 by decide),if_neg (show ¬ (4:Int)=3 by decide),hz]
  by_cases h2:x.n=0
  ·cases h3:freshB x.a<;>simp [KF,params,f100,fn_refIn,fn_shape,fn_refFresh,h0,h,h2,h3,namedB]
  ·simp [KF,params,f100,fn_refIn,fn_shape,fn_refFresh,h0,h,h2,namedB]
 ·rw [h]
  simp only [if_neg (show ¬ (5:Int)=1 by decide),if_neg (show ¬ (5:Int)=2 by decide),if_neg (show ¬ (5:Int)=3 by decide),hz]
  by_cases h2:x.n=0
  ·cases h3:freshB x.a<;>simp [KF,params,f100,fn_refIn,fn_shape,fn_refFresh,h0,h,h2,h3,namedB]
  ·simp [KF,params,f100,fn_refIn,fn_shape,fn_refFresh,h0,h,h2,namedB]
theorem fn_jump (n:Int) (σ:List Ob) (lo tr:Nat):Fn fns 180 [vint n] σ lo tr=some (vbool (decide (shapeN n=3)),σ):=by
 refine fn_gen t180 rfl (σ1:=[]) rfl rfl ?_ σ lo tr
 have:decide (shapeN n=3)=(decide (14≤n) && decide (n≤26)):=by
  unfold shapeN
  by_cases h1:n=1
  ·simp [h1]
  by_cases h2:n=3∨n=4
  ·rcases h2 with h2 | h2<;>simp [h2]
  by_cases h3:14≤n∧n≤26
  ·simp [h1,h2,h3]
  have h3':(decide (14≤n) && decide (n≤26))=false:=by simp;omega
  rw [h3']
  simp only [if_neg h1,if_neg h2,if_neg h3]
  split
  ·rfl
  ·split<;>rfl
 rw [this]
 by_cases h:14≤n<;>simp [KF,params,f180,h]
theorem fn_num (n:Int) (σ:List Ob) (lo tr:Nat):Fn fns 162 [vint n] σ lo tr=some (.tup [vint (loN n),vint (hiN n),vbool (decide (1≤shapeN n) && decide (shapeN n≤3))],σ):=by
 refine fn_gen t162 rfl (σ1:=[]) rfl rfl ?_ σ lo tr
 have hj:=fn_jump n
 unfold loN hiN
 by_cases h1:n=1
 ·have:shapeN n=1:=by simp [shapeN,h1]
  rw [this]
  simp [KF,params,f162,h1]
 by_cases h2:n=3
 ·have:shapeN n=2:=by simp [shapeN,h2]
  rw [this]
  simp [KF,params,f162,h2]
 by_cases h3:n=4
 ·have:shapeN n=2:=by simp [shapeN,h3]
  rw [this]
  simp [KF,params,f162,h3]
 have n1:¬ shapeN n=1:=by
  unfold shapeN
  simp only [h1,h2,h3,or_self,if_false]
  split
  ·decide
  ·split
   ·decide
   ·split<;>decide
 have n2:¬ shapeN n=2:=by
  unfold shapeN
  simp only [h1,h2,h3,or_self,if_false]
  split
  ·decide
  ·split
   ·decide
   ·split<;>decide
 by_cases h4:shapeN n=3
 ·rw [h4] at hj ⊢
  simp [KF,params,f162,h1,h2,h3,hj]
 ·have e1:(decide (1≤shapeN n) && decide (shapeN n≤3))=false:=by
   rcases shape_cases n with h | h | h | h | h | h<;>simp_all
  rw [e1]
  simp only [h4,decide_false] at hj
  simp [KF,params,f162,h1,h2,h3,hj,n1,n2,h4]
theorem fn_names_ (n:Int):∃ m:Int,(∀ σ lo tr,Fn fns 164 [vint n] σ lo tr=some (vint m,σ))∧decide (0 < m)=decide (4≤shapeN n)∧decide (1 < m)=decide (5≤shapeN n):=by
 by_cases e1:n=27
 ·exact ⟨1,fun σ lo tr=>fn_gen t164 rfl (σ1:=[]) rfl rfl (by simp [KF,params,f164,e1]) σ lo tr,by simp [shapeN,e1],by simp [shapeN,e1]⟩
 by_cases e2:n=33
 ·exact ⟨1,fun σ lo tr=>fn_gen t164 rfl (σ1:=[]) rfl rfl (by simp [KF,params,f164,e2]) σ lo tr,by simp [shapeN,e2],by simp [shapeN,e2]⟩
 by_cases e3:n=37
 ·exact ⟨1,fun σ lo tr=>fn_gen t164 rfl (σ1:=[]) rfl rfl (by simp [KF,params,f164,e3]) σ lo tr,by simp [shapeN,e3],by simp [shapeN,e3]⟩
 by_cases e4:n=38
 ·exact ⟨1,fun σ lo tr=>fn_gen t164 rfl (σ1:=[]) rfl rfl (by simp [KF,params,f164,e4]) σ lo tr,by simp [shapeN,e4],by simp [shapeN,e4]⟩
 by_cases g1:n=28
 ·exact ⟨2,fun σ lo tr=>fn_gen t164 rfl (σ1:=[]) rfl rfl (by simp [KF,params,f164,g1]) σ lo tr,by simp [shapeN,g1],by simp [shapeN,g1]⟩
 by_cases g2:n=29
 ·exact ⟨2,fun σ lo tr=>fn_gen t164 rfl (σ1:=[]) rfl rfl (by simp [KF,params,f164,g2]) σ lo tr,by simp [shapeN,g2],by simp [shapeN,g2]⟩
 by_cases g3:n=30
 ·exact ⟨2,fun σ lo tr=>fn_gen t164 rfl (σ1:=[]) rfl rfl (by simp [KF,params,f164,g3]) σ lo tr,by simp [shapeN,g3],by simp [shapeN,g3]⟩
 by_cases g4:n=31
 ·exact ⟨2,fun σ lo tr=>fn_gen t164 rfl (σ1:=[]) rfl rfl (by simp [KF,params,f164,g4]) σ lo tr,by simp [shapeN,g4],by simp [shapeN,g4]⟩
 by_cases g5:n=39
 ·exact ⟨2,fun σ lo tr=>fn_gen t164 rfl (σ1:=[]) rfl rfl (by simp [KF,params,f164,g5]) σ lo tr,by simp [shapeN,g5],by simp [shapeN,g5]⟩
 by_cases g6:n=40
 ·exact ⟨2,fun σ lo tr=>fn_gen t164 rfl (σ1:=[]) rfl rfl (by simp [KF,params,f164,g6]) σ lo tr,by simp [shapeN,g6],by simp [shapeN,g6]⟩
 have hs:shapeN n < 4:=by
  unfold shapeN
  split
  ·decide
  ·split
   ·decide
   ·split
    ·decide
    ·rw [if_neg (by omega),if_neg (by omega)];decide
 exact ⟨0,fun σ lo tr=>fn_gen t164 rfl (σ1:=[]) rfl rfl (by simp [KF,params,f164,e1,e2,e3,e4,g1,g2,g3,g4,g5,g6]) σ lo tr,by simp;omega,by simp;omega⟩
theorem fn_named (s:ByteArray) (is:Bool) (σ:List Ob) (lo tr:Nat):Fn fns 163 [vstr s,vbool is] σ lo tr=some (vbool (namedB s is),σ):=by
 refine fn_gen t163 rfl (σ1:=[]) rfl rfl ?_ σ lo tr
 unfold namedB
 cases is
 ·simp [KF,params,f163]
 ·cases h:freshB s<;>simp [KF,params,f163,fn_fresh,h]
theorem fn_instr (x:GInstr) (σ:List Ob) (lo tr:Nat):Fn fns 140 [vInstr x] σ lo tr=some (vbool (instrB x),σ):=by
 refine fn_gen t140 rfl (σ1:=[]) rfl rfl ?_ σ lo tr
 obtain ⟨m,h1,h2,h3⟩:=fn_names_ x.op
 unfold instrB
 rw [← h2,← h3]
 cases c0:inB x.op 0 43
 ·simp [KF,params,f140,fn_num,fn_in,fn_named,h1,c0]
 cases c1:inB x.n (loN x.op) (hiN x.op)
 ·simp [KF,params,f140,fn_num,fn_in,fn_named,h1,c0,c1]
 cases c2:namedB x.a (decide (0 < m))
 ·simp [KF,params,f140,fn_num,fn_in,fn_named,h1,c0,c1,c2]
 simp [KF,params,f140,fn_num,fn_in,fn_named,h1,c0,c1,c2]
def catchB (c:GCatch):Bool:=freshB c.name && (inB c.from_ 0 48 && (inB c.to 0 48 && inB c.at_ 0 48))
theorem fn_catch (c:GCatch) (σ:List Ob) (lo tr:Nat):Fn fns 142 [vCatch c] σ lo tr=some (vbool (catchB c),σ):=by
 refine fn_gen t142 rfl (σ1:=[]) rfl rfl ?_ σ lo tr
 unfold catchB
 cases c0:freshB c.name
 ·simp [KF,params,f142,fn_in,fn_fresh,c0]
 cases c1:inB c.from_ 0 48
 ·simp [KF,params,f142,fn_in,fn_fresh,c0,c1]
 cases c2:inB c.to 0 48
 ·simp [KF,params,f142,fn_in,fn_fresh,c0,c1,c2]
 simp [KF,params,f142,fn_in,fn_fresh,c0,c1,c2]
def fieldB (f:GField):Bool:=freshB f.name && typedB f.type_
theorem fn_field (f:GField) (σ:List Ob) (lo tr:Nat):Fn fns 106 [vField f] σ lo tr=some (vbool (fieldB f),σ):=by
 refine fn_gen t106 rfl (σ1:=[]) rfl rfl ?_ σ lo tr
 unfold fieldB
 have h1:=fn_typed f.type_
 cases c0:freshB f.name<;>simp [KF,params,f106,fn_fresh,h1,c0]
def methodB (m:GMethod):Bool:=!(m.abstract_ && (!decide (m.locals=0) || decide (0 < m.code.length+m.catches.length))) && (freshB m.name && ((decide ((m.params.length:Int)≤4) && m.params.all typedB) && (typedB m.ret && (inB m.locals 0 8 && ((decide ((m.code.length:Int)≤48) && m.code.all instrB) && (decide ((m.catches.length:Int)≤4) && m.catches.all catchB))))))
theorem fn_method (m:GMethod) (h:OkM m) (σ:List Ob) (lo tr:Nat):Fn fns 108 [vMethod m] σ lo tr=some (vbool (methodB m),σ):=by
 refine fn_gen t108 rfl (σ1:=[]) rfl rfl ?_ σ lo tr
 unfold methodB
 have b1:=h.params
 have b2:=h.code
 have b3:=h.catches
 have hw:IntKind.i64.wrap ((m.code.length:Int)+(m.catches.length:Int))=((m.code.length+m.catches.length:Nat):Int):=by rw [wrap_nat (by omega) (by omega)];simp
 have hg:((0:Int) < (m.code.length:Int)+(m.catches.length:Int))=(0 < m.code.length+m.catches.length):=by apply propext;omega
 have h1:=fn_typed m.ret
 have h2:=fn_eachT m.params 4 134 typedB (by omega) (fun x _ σ lo tr=>fn_typed x σ lo tr)
 have h3:=fn_eachI m.code 48 140 instrB (by omega) (fun x _ σ lo tr=>fn_instr x σ lo tr)
 have h4:=fn_eachK m.catches 4 142 catchB (by omega) (fun x _ σ lo tr=>fn_catch x σ lo tr)
 cases a0:m.abstract_
 ·simp only [Bool.false_and,Bool.not_false,Bool.true_and]
  cases c0:freshB m.name
  ·simp [KF,params,f108,fn_in,fn_fresh,h1,h2,h3,h4,a0,c0]
  cases c1:(decide ((m.params.length:Int)≤4) && m.params.all typedB)
  ·simp [KF,params,f108,fn_in,fn_fresh,h1,h2,h3,h4,a0,c0,c1]
  cases c2:typedB m.ret
  ·simp [KF,params,f108,fn_in,fn_fresh,h1,h2,h3,h4,a0,c0,c1,c2]
  cases c3:inB m.locals 0 8
  ·simp [KF,params,f108,fn_in,fn_fresh,h1,h2,h3,h4,a0,c0,c1,c2,c3]
  cases c4:(decide ((m.code.length:Int)≤48) && m.code.all instrB)
  ·simp [KF,params,f108,fn_in,fn_fresh,h1,h2,h3,h4,a0,c0,c1,c2,c3,c4]
  simp [KF,params,f108,fn_in,fn_fresh,h1,h2,h3,h4,a0,c0,c1,c2,c3,c4]
 ·by_cases a1:m.locals=0
  ·by_cases a2:0 < m.code.length+m.catches.length
   ·simp [KF,params,f108,a0,a1,a2,hw,hg]
   ·have i0:inB 0 0 8=true:=rfl
    have e:(true && (!decide (m.locals=0) || decide (0 < m.code.length+m.catches.length)))=false:=by simp [a1,a2]
    rw [e]
    simp only [Bool.not_false,Bool.true_and]
    cases c0:freshB m.name
    ·simp [KF,params,f108,fn_in,fn_fresh,h1,h2,h3,h4,a0,a1,a2,hw,hg,i0,c0]
    cases c1:(decide ((m.params.length:Int)≤4) && m.params.all typedB)
    ·simp [KF,params,f108,fn_in,fn_fresh,h1,h2,h3,h4,a0,a1,a2,hw,hg,i0,c0,c1]
    cases c2:typedB m.ret
    ·simp [KF,params,f108,fn_in,fn_fresh,h1,h2,h3,h4,a0,a1,a2,hw,hg,i0,c0,c1,c2]
    cases c3:(decide ((m.code.length:Int)≤48) && m.code.all instrB)
    ·simp [KF,params,f108,fn_in,fn_fresh,h1,h2,h3,h4,a0,a1,a2,hw,hg,i0,c0,c1,c2,c3]
    simp [KF,params,f108,fn_in,fn_fresh,h1,h2,h3,h4,a0,a1,a2,hw,hg,i0,c0,c1,c2,c3]
  ·simp [KF,params,f108,a0,a1]
def classB (c:GClass):Bool:=freshB c.name && ((decide (c.super=⟨#[]⟩) || (!c.iface && freshB c.super)) && ((decide ((c.ifaces.length:Int)≤4) && c.ifaces.all freshB) && ((decide ((c.fields.length:Int)≤6) && c.fields.all fieldB) && (decide ((c.methods.length:Int)≤6) && c.methods.all methodB))))
theorem fn_class (c:GClass) (h:OkC c) (σ:List Ob) (lo tr:Nat):Fn fns 82 [vClass c] σ lo tr=some (vbool (classB c),σ):=by
 refine fn_gen t82 rfl (σ1:=[]) rfl rfl ?_ σ lo tr
 unfold classB
 have b1:=h.ifaces
 have b2:=h.fields
 have b3:=h.methods
 have h2:=fn_eachS c.ifaces 4 103 freshB (by omega) (fun x _ σ lo tr=>fn_fresh x σ lo tr)
 have h3:=fn_eachF c.fields 6 106 fieldB (by omega) (fun x _ σ lo tr=>fn_field x σ lo tr)
 have h4:=fn_eachM c.methods 6 108 methodB (by omega) (fun x hx σ lo tr=>fn_method x (h.ms x hx) σ lo tr)
 have fin:∀ z:Bool,(decide (c.super=⟨#[]⟩) || (!c.iface && freshB c.super))=z→True:=fun _ _=>trivial
 by_cases a0:c.super=⟨#[]⟩
 ·simp only [a0,decide_true,Bool.true_or,Bool.true_and]
  cases c0:freshB c.name
  ·simp [KF,params,f82,fn_fresh,h2,h3,h4,a0,c0]
  cases c1:(decide ((c.ifaces.length:Int)≤4) && c.ifaces.all freshB)
  ·simp [KF,params,f82,fn_fresh,h2,h3,h4,a0,c0,c1]
  cases c2:(decide ((c.fields.length:Int)≤6) && c.fields.all fieldB)
  ·simp [KF,params,f82,fn_fresh,h2,h3,h4,a0,c0,c1,c2]
  simp [KF,params,f82,fn_fresh,h2,h3,h4,a0,c0,c1,c2]
 ·cases a1:c.iface
  ·cases a2:freshB c.super
   ·simp only [a0,decide_false,Bool.not_false,Bool.and_false,Bool.or_false,Bool.false_and]
    cases c0:freshB c.name<;>simp [KF,params,f82,fn_fresh,h2,h3,h4,a0,a1,a2,c0]
   ·simp only [a0,decide_false,Bool.not_false,Bool.and_true,Bool.or_true,Bool.true_and]
    cases c0:freshB c.name
    ·simp [KF,params,f82,fn_fresh,h2,h3,h4,a0,a1,a2,c0]
    cases c1:(decide ((c.ifaces.length:Int)≤4) && c.ifaces.all freshB)
    ·simp [KF,params,f82,fn_fresh,h2,h3,h4,a0,a1,a2,c0,c1]
    cases c2:(decide ((c.fields.length:Int)≤6) && c.fields.all fieldB)
    ·simp [KF,params,f82,fn_fresh,h2,h3,h4,a0,a1,a2,c0,c1,c2]
    simp [KF,params,f82,fn_fresh,h2,h3,h4,a0,a1,a2,c0,c1,c2]
  ·simp only [a0,decide_false,Bool.not_true,Bool.false_and,Bool.or_false,Bool.and_false]
   cases c0:freshB c.name<;>simp [KF,params,f82,fn_fresh,h2,h3,h4,a0,a1,c0]
def progB (p:GProgram):Bool:=decide ((p.classes.length:Int)≤10) && p.classes.all classB
theorem fn_check0 (p:GProgram) (h:OkP p) (σ:List Ob) (lo tr:Nat):Fn fns 65 [vProgram p] σ lo tr=some (vint (bif progB p then 0 else 4),σ):=by
 refine fn_gen t65 rfl (σ1:=[]) rfl rfl ?_ σ lo tr
 unfold progB
 have h1:=fn_eachC p.classes 10 82 classB (by have:=h.len;omega) (fun x hx σ lo tr=>fn_class x (h.cs x hx) σ lo tr)
 cases c0:(decide ((p.classes.length:Int)≤10) && p.classes.all classB)<;>simp [KF,params,f65,h1,c0]
theorem h45_0 (k:AExit→St→Option (V × List Ob)) (m:GMethod) (hl:m.params.length≤1000000):K fns ⟨0,0⟩ f78_l0 ⟨[(1,vptr 0),(3,vint 0)],[cM m]⟩ k =
  if m.params.any (fun t=>!typedB t) then k .ret ⟨[(2,vbool false)],[cM m]⟩ else k (.exit 0) ⟨[(1,vptr 0)],[cM m]⟩ :=
 scan_any (l:=m.params) (p:=fun t=>!typedB t) (X:=fun i=>K fns ⟨0,0⟩ f78_l0 ⟨[(1,vptr 0),(3,vint i)],[cM m]⟩ k)
  (fun i hi=>by
   have hw:=wrap_succ (i:=i) (by omega)
   have ht:=fn_typeText m.params[i]
   have hn:=typeText_nil m.params[i]
   show K fns _ f78_l0 _ k=_
   rw [u78_l0]
   cases c0:typedB m.params[i]<;>simp [f78_b0,hi,hw,ht,hn,c0]
   )
  (by show K fns _ f78_l0 _ k=_;rw [u78_l0];simp [f78_b0])
theorem h45_1 (k:AExit→St→Option (V × List Ob)) (m:GMethod) (hl:m.code.length≤1000000):K fns ⟨0,0⟩ f78_l1 ⟨[(1,vptr 0),(4,vint 0)],[cM m]⟩ k =
  if m.code.any (fun t=>!instrB t) then k .ret ⟨[(2,vbool false)],[cM m]⟩ else k (.exit 2) ⟨[(1,vptr 0)],[cM m]⟩ :=
 scan_any (l:=m.code) (p:=fun t=>!instrB t) (X:=fun i=>K fns ⟨0,0⟩ f78_l1 ⟨[(1,vptr 0),(4,vint i)],[cM m]⟩ k)
  (fun i hi=>by
   have hw:=wrap_succ (i:=i) (by omega)
   have ht:=fn_refInstr m.code[i]
   show K fns _ f78_l1 _ k=_
   rw [u78_l1]
   cases c0:instrB m.code[i]<;>simp [f78_b1,hi,hw,ht,c0]
   )
  (by show K fns _ f78_l1 _ k=_;rw [u78_l1];simp [f78_b1])
theorem h45_2 (k:AExit→St→Option (V × List Ob)) (m:GMethod) (hl:m.catches.length≤1000000):K fns ⟨0,0⟩ f78_l2 ⟨[(1,vptr 0),(5,vint 0)],[cM m]⟩ k =
  if m.catches.any (fun t=>!catchB t) then k .ret ⟨[(2,vbool false)],[cM m]⟩ else k (.exit 4) ⟨[],[cM m]⟩ :=
 scan_any (l:=m.catches) (p:=fun t=>!catchB t) (X:=fun i=>K fns ⟨0,0⟩ f78_l2 ⟨[(1,vptr 0),(5,vint i)],[cM m]⟩ k)
  (fun i hi=>by
   have hw:=wrap_succ (i:=i) (by omega)
   have ht:=fn_refFresh
   have hr:=fn_refIn
   show K fns _ f78_l2 _ k=_
   rw [u78_l2]
   generalize hx:m.catches[i]=x
   cases c0:freshB x.name
   ·simp [f78_b2,hi,hw,ht,hr,hx,catchB,c0]
   cases c1:inB x.from_ 0 48
   ·simp [f78_b2,hi,hw,ht,hr,hx,catchB,c0,c1]
   cases c2:inB x.to 0 48
   ·simp [f78_b2,hi,hw,ht,hr,hx,catchB,c0,c1,c2]
   cases c3:inB x.at_ 0 48<;>simp [f78_b2,hi,hw,ht,hr,hx,catchB,c0,c1,c2,c3]
   )
  (by show K fns _ f78_l2 _ k=_;rw [u78_l2];simp [f78_b2])
theorem fn_refMethod (m:GMethod) (h:OkM m) (σ:List Ob) (lo tr:Nat):Fn fns 78 [vMethod m] σ lo tr=some (vbool (methodB m),σ):=by
 refine fn_gen t78 rfl (σ1:=[]) rfl rfl ?_ σ lo tr
 have b1:=h.params
 have b2:=h.code
 have b3:=h.catches
 have ht:=fn_typeText m.ret
 have hn:=typeText_nil m.ret
 by_cases c0:freshB m.name=true
 case neg =>
  simp [KF,params,f78,fn_refFresh,fn_refIn,ht,hn,methodB,c0]
 by_cases c1:m.params.length≤4
 case neg =>
  have q1_0:(4:Int) < m.params.length:=by omega
  have q1_1:¬ (m.params.length:Int)≤4:=by omega
  simp [KF,params,f78,fn_refFresh,fn_refIn,ht,hn,methodB,c0,c1,q1_0,q1_1]
 have q1_0:¬ (4:Int) < m.params.length:=by omega
 have q1_1:(m.params.length:Int)≤4:=by omega
 by_cases c2:typedB m.ret=true
 case neg =>
  simp [KF,params,f78,fn_refFresh,fn_refIn,ht,hn,methodB,c0,c1,q1_0,q1_1,c2]
 by_cases c3:m.code.length≤48
 case neg =>
  have q3_0:(48:Int) < m.code.length:=by omega
  have q3_1:¬ (m.code.length:Int)≤48:=by omega
  simp [KF,params,f78,fn_refFresh,fn_refIn,ht,hn,methodB,c0,c1,q1_0,q1_1,c2,c3,q3_0,q3_1]
 have q3_0:¬ (48:Int) < m.code.length:=by omega
 have q3_1:(m.code.length:Int)≤48:=by omega
 by_cases c4:m.catches.length≤4
 case neg =>
  have q4_0:(4:Int) < m.catches.length:=by omega
  have q4_1:¬ (m.catches.length:Int)≤4:=by omega
  simp [KF,params,f78,fn_refFresh,fn_refIn,ht,hn,methodB,c0,c1,q1_0,q1_1,c2,c3,q3_0,q3_1,c4,q4_0,q4_1]
 have q4_0:¬ (4:Int) < m.catches.length:=by omega
 have q4_1:(m.catches.length:Int)≤4:=by omega
 by_cases c5:inB m.locals 0 8=true
 case neg =>
  simp [KF,params,f78,fn_refFresh,fn_refIn,ht,hn,methodB,c0,c1,q1_0,q1_1,c2,c3,q3_0,q3_1,c4,q4_0,q4_1,c5]
 have hl:0≤m.locals∧m.locals≤8:=by simpa [inB] using c5
 have w1:IntKind.i64.wrap (m.locals+(m.code.length:Int))=m.locals+(m.code.length:Int):=wrap_nat (by omega) (by omega)
 have w2:IntKind.i64.wrap (m.locals+(m.code.length:Int)+(m.catches.length:Int))=m.locals+(m.code.length:Int)+(m.catches.length:Int):=wrap_nat (by omega) (by omega)
 have L0:=fun k=>h45_0 k m (by omega)
 have L1:=fun k=>h45_1 k m (by omega)
 have L2:=fun k=>h45_2 k m (by omega)
 have n0:(m.params.any fun t=>!typedB t) = !m.params.all typedB:=by simp [List.all_eq_not_any_not]
 have n1:(m.code.any fun t=>!instrB t) = !m.code.all instrB:=by simp [List.all_eq_not_any_not]
 have n2:(m.catches.any fun t=>!catchB t) = !m.catches.all catchB:=by simp [List.all_eq_not_any_not]
 rw [n0] at L0
 rw [n1] at L1
 rw [n2] at L2
 have mb:methodB m=(!(m.abstract_ && (!decide (m.locals=0) || decide (0 < m.code.length+m.catches.length))) && (m.params.all typedB && (m.code.all instrB && m.catches.all catchB))):=by
  simp [methodB,c0,c1,q1_0,q1_1,c2,c3,q3_0,q3_1,c4,q4_0,q4_1,c5]
 rw [mb]
 have fin:∀ F:Prop,F→F:=fun _ h=>h
 cases a0:m.abstract_<;>simp only [cM,a0] at L0 L1 L2
 ·simp only [Bool.false_and,Bool.not_false,Bool.true_and]
  cases d0:m.params.all typedB
  ·simp [KF,params,f78,fn_refFresh,fn_refIn,ht,hn,w1,w2,L0,L1,L2,a0,d0,c0,c1,q1_0,q1_1,c2,c3,q3_0,q3_1,c4,q4_0,q4_1,c5]
  cases d1:m.code.all instrB
  ·simp [KF,params,f78,fn_refFresh,fn_refIn,ht,hn,w1,w2,L0,L1,L2,a0,d0,d1,c0,c1,q1_0,q1_1,c2,c3,q3_0,q3_1,c4,q4_0,q4_1,c5]
  cases d2:m.catches.all catchB<;>simp [KF,params,f78,fn_refFresh,fn_refIn,ht,hn,w1,w2,L0,L1,L2,a0,d0,d1,d2,c0,c1,q1_0,q1_1,c2,c3,q3_0,q3_1,c4,q4_0,q4_1,c5]
 ·have e:(!decide (m.locals=0) || decide (0 < m.code.length+m.catches.length))=decide (0 < m.locals+(m.code.length:Int)+(m.catches.length:Int)):=by
   by_cases e1:m.locals=0
   ·simp only [e1,decide_true,Bool.not_true,Bool.false_or]
    exact decide_eq_decide.mpr (by omega)
   ·simp [e1];omega
  rw [e]
  by_cases e2:0 < m.locals+(m.code.length:Int)+(m.catches.length:Int)
  ·simp [KF,params,f78,fn_refFresh,fn_refIn,ht,hn,w1,w2,L0,L1,L2,a0,e2,c0,c1,q1_0,q1_1,c2,c3,q3_0,q3_1,c4,q4_0,q4_1,c5]
  simp only [e2,decide_false,Bool.and_false,Bool.not_false,Bool.true_and]
  cases d0:m.params.all typedB
  ·simp [KF,params,f78,fn_refFresh,fn_refIn,ht,hn,w1,w2,L0,L1,L2,a0,e2,d0,c0,c1,q1_0,q1_1,c2,c3,q3_0,q3_1,c4,q4_0,q4_1,c5]
  cases d1:m.code.all instrB
  ·simp [KF,params,f78,fn_refFresh,fn_refIn,ht,hn,w1,w2,L0,L1,L2,a0,e2,d0,d1,c0,c1,q1_0,q1_1,c2,c3,q3_0,q3_1,c4,q4_0,q4_1,c5]
  cases d2:m.catches.all catchB<;>simp [KF,params,f78,fn_refFresh,fn_refIn,ht,hn,w1,w2,L0,L1,L2,a0,e2,d0,d1,d2,c0,c1,q1_0,q1_1,c2,c3,q3_0,q3_1,c4,q4_0,q4_1,c5]
theorem h29_0 (k:AExit→St→Option (V × List Ob)) (n3:Int) (p:GProgram) (c:GClass) (hl:c.ifaces.length≤1000000):K fns ⟨0,0⟩ f57_l0 ⟨[(1,vptr 0),(3,vint n3),(4,vptr 1),(5,vint 0)],[cP p,cC c]⟩ k =
  if c.ifaces.any (fun t=>!freshB t) then k .ret ⟨[(2,vbool false)],[cP p,cC c]⟩ else k (.exit 2) ⟨[(1,vptr 0),(3,vint n3),(4,vptr 1)],[cP p,cC c]⟩ :=
 scan_any (l:=c.ifaces) (p:=fun t=>!freshB t) (X:=fun i=>K fns ⟨0,0⟩ f57_l0 ⟨[(1,vptr 0),(3,vint n3),(4,vptr 1),(5,vint i)],[cP p,cC c]⟩ k)
  (fun i hi=>by
   have hw:=wrap_succ (i:=i) (by omega)
   have ht:=fn_refFresh
   show K fns _ f57_l0 _ k=_
   rw [u57_l0]
   cases c0:freshB c.ifaces[i]<;>simp [f57_b0,hi,hw,ht,c0]
   )
  (by show K fns _ f57_l0 _ k=_;rw [u57_l0];simp [f57_b0])
theorem h29_1 (k:AExit→St→Option (V × List Ob)) (n3:Int) (p:GProgram) (c:GClass) (hl:c.fields.length≤1000000):K fns ⟨0,0⟩ f57_l1 ⟨[(1,vptr 0),(3,vint n3),(4,vptr 1),(6,vint 0)],[cP p,cC c]⟩ k =
  if c.fields.any (fun t=>!fieldB t) then k .ret ⟨[(2,vbool false)],[cP p,cC c]⟩ else k (.exit 4) ⟨[(1,vptr 0),(3,vint n3),(4,vptr 1)],[cP p,cC c]⟩ :=
 scan_any (l:=c.fields) (p:=fun t=>!fieldB t) (X:=fun i=>K fns ⟨0,0⟩ f57_l1 ⟨[(1,vptr 0),(3,vint n3),(4,vptr 1),(6,vint i)],[cP p,cC c]⟩ k)
  (fun i hi=>by
   have hw:=wrap_succ (i:=i) (by omega)
   have hf:=fn_refFresh
   show K fns _ f57_l1 _ k=_
   rw [u57_l1]
   generalize hx:c.fields[i]=x
   have ht:=fn_typeText x.type_
   have hn:=typeText_nil x.type_
   cases c0:freshB x.name
   ·simp [f57_b1,hi,hw,hf,hx,fieldB,c0]
   cases c1:typedB x.type_<;>simp [f57_b1,hi,hw,hf,hx,fieldB,c0,c1,ht,hn]
   )
  (by show K fns _ f57_l1 _ k=_;rw [u57_l1];simp [f57_b1])
theorem h29_2 (k:AExit→St→Option (V × List Ob)) (n3:Int) (p:GProgram) (c:GClass) (hm:∀ m ∈ c.methods,OkM m) (hl:c.methods.length≤1000000):K fns ⟨0,0⟩ f57_l2 ⟨[(1,vptr 0),(3,vint n3),(4,vptr 1),(7,vint 0)],[cP p,cC c]⟩ k =
  if c.methods.any (fun t=>!methodB t) then k .ret ⟨[(2,vbool false)],[cP p,cC c]⟩ else k (.exit 6) ⟨[(1,vptr 0),(3,vint n3)],[cP p,cC c]⟩ :=
 scan_any (l:=c.methods) (p:=fun t=>!methodB t) (X:=fun i=>K fns ⟨0,0⟩ f57_l2 ⟨[(1,vptr 0),(3,vint n3),(4,vptr 1),(7,vint i)],[cP p,cC c]⟩ k)
  (fun i hi=>by
   have hw:=wrap_succ (i:=i) (by omega)
   have ht:=fn_refMethod (c.methods[i]) (hm _ (List.getElem_mem hi))
   show K fns _ f57_l2 _ k=_
   rw [u57_l2]
   cases c0:methodB c.methods[i]<;>simp [f57_b2,hi,hw,ht,c0]
   )
  (by show K fns _ f57_l2 _ k=_;rw [u57_l2];simp [f57_b2])
set_option maxHeartbeats 4000000 in
theorem h29_3 (k:AExit→St→Option (V × List Ob)) (p:GProgram) (hp:OkP p):K fns ⟨0,0⟩ f57_l3 ⟨[(1,vptr 0),(3,vint 0)],[cP p]⟩ k =
  if p.classes.any (fun c=>!classB c) then k .ret ⟨[(2,vbool false)],[cP p]⟩ else k (.exit 0) ⟨[],[cP p]⟩ :=
 scan_any (l:=p.classes) (p:=fun c=>!classB c) (X:=fun i=>K fns ⟨0,0⟩ f57_l3 ⟨[(1,vptr 0),(3,vint i)],[cP p]⟩ k)
  (fun i hi=>by
   have hlen:=hp.len
   have hw:=wrap_succ (i:=i) (by omega)
   have hcs:=hp.cs _ (List.getElem_mem hi)
   generalize hx:p.classes[i]=c at hcs ⊢
   have b1:=hcs.ifaces
   have b2:=hcs.fields
   have b3:=hcs.methods
   have n0:(c.ifaces.any fun t=>!freshB t) = !c.ifaces.all freshB:=by simp [List.all_eq_not_any_not]
   have n1:(c.fields.any fun t=>!fieldB t) = !c.fields.all fieldB:=by simp [List.all_eq_not_any_not]
   have n2:(c.methods.any fun t=>!methodB t) = !c.methods.all methodB:=by simp [List.all_eq_not_any_not]
   show K fns _ f57_l3 _ k=_
   rw [u57_l3]
   by_cases a0:c.super=⟨#[]⟩
   ·by_cases c0:freshB c.name=true
    case neg =>
     simp [f57_b3,fn_refFresh,hi,hx,classB,a0,c0]
    by_cases c1:c.ifaces.length≤4
    case neg =>
     have q1_0:(4:Int) < c.ifaces.length:=by omega
     have q1_1:¬ (c.ifaces.length:Int)≤4:=by omega
     simp [f57_b3,fn_refFresh,hi,hx,classB,a0,c0,c1,q1_0,q1_1]
    have q1_0:¬ (4:Int) < c.ifaces.length:=by omega
    have q1_1:(c.ifaces.length:Int)≤4:=by omega
    by_cases c2:c.fields.length≤6
    case neg =>
     have q2_0:(6:Int) < c.fields.length:=by omega
     have q2_1:¬ (c.fields.length:Int)≤6:=by omega
     simp [f57_b3,fn_refFresh,hi,hx,classB,a0,c0,c1,q1_0,q1_1,c2,q2_0,q2_1]
    have q2_0:¬ (6:Int) < c.fields.length:=by omega
    have q2_1:(c.fields.length:Int)≤6:=by omega
    by_cases c3:c.methods.length≤6
    case neg =>
     have q3_0:(6:Int) < c.methods.length:=by omega
     have q3_1:¬ (c.methods.length:Int)≤6:=by omega
     simp [f57_b3,fn_refFresh,hi,hx,classB,a0,c0,c1,q1_0,q1_1,c2,q2_0,q2_1,c3,q3_0,q3_1]
    have q3_0:¬ (6:Int) < c.methods.length:=by omega
    have q3_1:(c.methods.length:Int)≤6:=by omega
    have L0:=fun k=>h29_0 k i p c (by omega)
    have L1:=fun k=>h29_1 k i p c (by omega)
    have L2:=fun k=>h29_2 k i p c hcs.ms (by omega)
    rw [n0] at L0
    rw [n1] at L1
    rw [n2] at L2
    simp only [cC,a0] at L0 L1 L2
    cases d0:c.ifaces.all freshB
    ·simp [f57_b3,fn_refFresh,hi,hx,classB,a0,L0,L1,L2,hw,c0,c1,q1_0,q1_1,c2,q2_0,q2_1,c3,q3_0,q3_1,d0]
    cases d1:c.fields.all fieldB
    ·simp [f57_b3,fn_refFresh,hi,hx,classB,a0,L0,L1,L2,hw,c0,c1,q1_0,q1_1,c2,q2_0,q2_1,c3,q3_0,q3_1,d0,d1]
    cases d2:c.methods.all methodB<;>simp [f57_b3,fn_refFresh,hi,hx,classB,a0,L0,L1,L2,hw,c0,c1,q1_0,q1_1,c2,q2_0,q2_1,c3,q3_0,q3_1,d0,d1,d2]
   ·cases a1:c.iface
    case true =>
     cases c0:freshB c.name<;>simp [f57_b3,fn_refFresh,hi,hx,classB,a0,a1,c0]
    cases a2:freshB c.super
    case false =>
     cases c0:freshB c.name<;>simp [f57_b3,fn_refFresh,hi,hx,classB,a0,a1,a2,c0]
    by_cases c0:freshB c.name=true
    case neg =>
     simp [f57_b3,fn_refFresh,hi,hx,classB,a0,a1,a2,c0]
    by_cases c1:c.ifaces.length≤4
    case neg =>
     have q1_0:(4:Int) < c.ifaces.length:=by omega
     have q1_1:¬ (c.ifaces.length:Int)≤4:=by omega
     simp [f57_b3,fn_refFresh,hi,hx,classB,a0,a1,a2,c0,c1,q1_0,q1_1]
    have q1_0:¬ (4:Int) < c.ifaces.length:=by omega
    have q1_1:(c.ifaces.length:Int)≤4:=by omega
    by_cases c2:c.fields.length≤6
    case neg =>
     have q2_0:(6:Int) < c.fields.length:=by omega
     have q2_1:¬ (c.fields.length:Int)≤6:=by omega
     simp [f57_b3,fn_refFresh,hi,hx,classB,a0,a1,a2,c0,c1,q1_0,q1_1,c2,q2_0,q2_1]
    have q2_0:¬ (6:Int) < c.fields.length:=by omega
    have q2_1:(c.fields.length:Int)≤6:=by omega
    by_cases c3:c.methods.length≤6
    case neg =>
     have q3_0:(6:Int) < c.methods.length:=by omega
     have q3_1:¬ (c.methods.length:Int)≤6:=by omega
     simp [f57_b3,fn_refFresh,hi,hx,classB,a0,a1,a2,c0,c1,q1_0,q1_1,c2,q2_0,q2_1,c3,q3_0,q3_1]
    have q3_0:¬ (6:Int) < c.methods.length:=by omega
    have q3_1:(c.methods.length:Int)≤6:=by omega
    have L0:=fun k=>h29_0 k i p c (by omega)
    have L1:=fun k=>h29_1 k i p c (by omega)
    have L2:=fun k=>h29_2 k i p c hcs.ms (by omega)
    rw [n0] at L0
    rw [n1] at L1
    rw [n2] at L2
    simp only [cC,a0,a1,a2] at L0 L1 L2
    cases d0:c.ifaces.all freshB
    ·simp [f57_b3,fn_refFresh,hi,hx,classB,a0,a1,a2,L0,L1,L2,hw,c0,c1,q1_0,q1_1,c2,q2_0,q2_1,c3,q3_0,q3_1,d0]
    cases d1:c.fields.all fieldB
    ·simp [f57_b3,fn_refFresh,hi,hx,classB,a0,a1,a2,L0,L1,L2,hw,c0,c1,q1_0,q1_1,c2,q2_0,q2_1,c3,q3_0,q3_1,d0,d1]
    cases d2:c.methods.all methodB<;>simp [f57_b3,fn_refFresh,hi,hx,classB,a0,a1,a2,L0,L1,L2,hw,c0,c1,q1_0,q1_1,c2,q2_0,q2_1,c3,q3_0,q3_1,d0,d1,d2]
   )
  (by show K fns _ f57_l3 _ k=_;rw [u57_l3];simp [f57_b3])
theorem fn_shown (p:GProgram) (h:OkP p) (σ:List Ob) (lo tr:Nat):Fn fns 57 [vProgram p] σ lo tr=some (vbool (progB p),σ):=by
 refine fn_gen t57 rfl (σ1:=[]) rfl rfl ?_ σ lo tr
 unfold progB
 have L:=fun k=>h29_3 k p h
 have n0:(p.classes.any fun t=>!classB t) = !p.classes.all classB:=by simp [List.all_eq_not_any_not]
 rw [n0] at L
 by_cases c0:p.classes.length≤10
 ·have q0:¬ (10:Int) < p.classes.length:=by omega
  have q1:(p.classes.length:Int)≤10:=by omega
  cases d0:p.classes.all classB<;>simp [KF,params,f57,c0,q0,q1,L,d0]
 ·have q0:(10:Int) < p.classes.length:=by omega
  have q1:¬ (p.classes.length:Int)≤10:=by omega
  simp [KF,params,f57,c0,q0,q1]
instance decMemB (s:ByteArray) (l:List ByteArray):Decidable (s ∈ l):=decidable_of_iff (l.any (fun x=>decide (x=s))=true) (by simp)
def atI (l:List GClass) (s:ByteArray):Int:=idxI (fun c:GClass=>decide (c.name=s)) l
theorem fn_at (l:List GClass) (s:ByteArray) (hs:l.length≤1000000) (σ:List Ob) (lo tr:Nat):Fn fns 20 [vsl l,vstr s] σ lo tr=some (vint (atI l s),σ):=by
 refine fn_gen t20 rfl (σ1:=[]) rfl rfl ?_ σ lo tr
 have L:∀ k:AExit→St→Option (V × List Ob),K fns ⟨0,0⟩ f20_l0 ⟨[(0,vsl l),(1,vstr s),(5,vint 0)],[]⟩ k=match l.findIdx? (fun c:GClass=>decide (c.name=s)) with | some i=>k .ret ⟨[(4,vint i)],[]⟩ | none=>k (.exit 0) ⟨[],[]⟩:=fun k =>
  scan_find (l:=l) (p:=fun c:GClass=>decide (c.name=s)) (X:=fun i=>K fns ⟨0,0⟩ f20_l0 ⟨[(0,vsl l),(1,vstr s),(5,vint i)],[]⟩ k)
   (r:=fun i=>k .ret ⟨[(4,vint i)],[]⟩)
   (fun i hi=>by
    have hw:=wrap_succ (i:=i) (by omega)
    show K fns _ f20_l0 _ k=_
    rw [u20_l0]
    by_cases hc:l[i].name=s<;>simp [f20_b0,hi,hc,hw])
   (by show K fns _ f20_l0 _ k=_;rw [u20_l0];simp [f20_b0])
 unfold atI idxI
 cases hf:l.findIdx? (fun c:GClass=>decide (c.name=s))<;>simp [KF,params,f20,L,hf]
theorem fn_has (l:List ByteArray) (s:ByteArray) (hs:l.length≤1000000) (σ:List Ob) (lo tr:Nat):Fn fns 44 [vsl l,vstr s] σ lo tr=some (vbool (decide (s ∈ l)),σ):=by
 refine fn_gen t44 rfl (σ1:=[]) rfl rfl ?_ σ lo tr
 have L:∀ k:AExit→St→Option (V × List Ob),K fns ⟨0,0⟩ f44_l0 ⟨[(0,vsl l),(1,vstr s),(5,vint 0)],[]⟩ k=if l.any (fun x=>decide (x=s)) then k .ret ⟨[(4,vbool true)],[]⟩ else k (.exit 0) ⟨[],[]⟩:=fun k =>
  scan_any (l:=l) (p:=fun x=>decide (x=s)) (X:=fun i=>K fns ⟨0,0⟩ f44_l0 ⟨[(0,vsl l),(1,vstr s),(5,vint i)],[]⟩ k)
   (fun i hi=>by
    have hw:=wrap_succ (i:=i) (by omega)
    show K fns _ f44_l0 _ k=_
    rw [u44_l0]
    by_cases hc:l[i]=s<;>simp [f44_b0,hi,hc,hw])
   (by show K fns _ f44_l0 _ k=_;rw [u44_l0];simp [f44_b0])
 have ha:(l.any fun x=>decide (x=s))=decide (s ∈ l):=by
  by_cases h:s ∈ l
  ·rw [decide_eq_true h];exact List.any_eq_true.mpr ⟨s,h,by simp⟩
  ·rw [decide_eq_false h,List.any_eq_false];intro x hx hxs;simp only [decide_eq_true_eq] at hxs;exact h (hxs ▸ hx)
 rw [ha] at L
 by_cases hd:s ∈ l<;>simp [KF,params,f44,L,hd]
def superL (c:GClass):ByteArray:=if c.iface=true∨c.name=sObject then ⟨#[]⟩ else if c.super=⟨#[]⟩ then sObject else c.super
theorem fn_superOf (c:GClass) (σ:List Ob) (lo tr:Nat):Fn fns 58 [vClass c] σ lo tr=some (vstr (superL c),σ):=by
 refine fn_gen t58 rfl (σ1:=[]) rfl rfl ?_ σ lo tr
 unfold superL
 cases h1:c.iface
 ·by_cases h2:c.name=sObject
  ·simp [KF,params,f58,h1,h2]
  ·by_cases h3:c.super=⟨#[]⟩<;>simp [KF,params,f58,h1,h2,h3]
 ·simp [KF,params,f58,h1]
def aboveL (c:GClass):List ByteArray:=(if superL c=⟨#[]⟩ then [] else [superL c]) ++ c.ifaces
theorem fn_above (c:GClass) (h:OkC c) (σ:List Ob) (lo tr:Nat):Fn fns 59 [vClass c] σ lo tr=some (.c (.osl 1 (rows (aboveL c))),σ):=by
 refine fn_gen t59 rfl (σ1:=[]) rfl rfl ?_ σ lo tr
 unfold aboveL
 have hs:=fn_superOf c
 have b:=h.ifaces
 have q1:c.ifaces.length≤70368744177664:=by omega
 have q2:c.ifaces.length * 16≤70368744177664:=by omega
 have q3:1+c.ifaces.length≤70368744177664:=by omega
 have q4:(1+c.ifaces.length) * 16≤70368744177664:=by omega
 have q5:c.ifaces.length+1≤70368744177664:=by omega
 have q6:(c.ifaces.length+1) * 16≤70368744177664:=by omega
 have hn:([]:List (List D))=rows ([]:List ByteArray):=rfl
 have hr:∀ (x:ByteArray) (l:List ByteArray),[D.str x] :: rows l=rows (x :: l):=fun _ _=>rfl
 by_cases h1:superL c=⟨#[]⟩
 ·simp [KF,params,f59,hs,h1,q1,q2]
 ·simp [KF,params,f59,hs,h1,q1,q2,q3,q4,q5,q6,hr]
def addNew (out next:List ByteArray):List ByteArray:=next.foldl (fun o x=>if x ∈ o then o else o ++ [x]) out
def nextL (l:List GClass) (s:ByteArray):List ByteArray:=match l.find? (fun c:GClass=>decide (c.name=s)) with
 | some c=>aboveL c
 | none=>[]
def bfs (l:List GClass):Nat→Nat→List ByteArray→List ByteArray
 | 0,_,out=>out
 | n+1,i,out=>match out[i]? with
  | some s=>bfs l n (i+1) (addNew out (nextL l s))
  | none=>out
def reachL (l:List GClass) (s:ByteArray):List ByteArray:=bfs l 3000 0 [s]
def poolL (l:List GClass) (s:ByteArray):List ByteArray:=s :: l.flatMap aboveL
theorem addNew_cons (o:List ByteArray) (x:ByteArray) (t:List ByteArray):addNew o (x :: t)=addNew (if x ∈ o then o else o ++ [x]) t:=rfl
theorem addNew_mem {x:ByteArray}:∀ {next out:List ByteArray},x ∈ addNew out next↔x ∈ out∨x ∈ next
 | [],out=>by simp [addNew]
 | y :: t,out=>by
  rw [addNew_cons,addNew_mem]
  by_cases h:y ∈ out
  ·simp only [h,if_true,List.mem_cons]
   constructor
   ·rintro (a | a)<;>simp [a]
   ·rintro (a | rfl | a)
    ·exact Or.inl a
    ·exact Or.inl h
    ·exact Or.inr a
  ·simp [h,or_assoc]
theorem addNew_nodup:∀ {next out:List ByteArray},out.Nodup→(addNew out next).Nodup
 | [],_,h=>h
 | y :: t,out,h=>by
  rw [addNew_cons]
  refine addNew_nodup ?_
  by_cases hy:y ∈ out
  ·simpa [hy] using h
  ·simp only [hy,if_false]
   rw [List.nodup_append]
   exact ⟨h,by simp,by rintro a ha b hb rfl;simp at hb;exact hy (hb ▸ ha)⟩
theorem addNew_pre:∀ {next out:List ByteArray},out <+: addNew out next
 | [],out=>List.prefix_refl _
 | y :: t,out=>by
  rw [addNew_cons]
  refine List.IsPrefix.trans ?_ addNew_pre
  by_cases hy:y ∈ out<;>simp [hy]
theorem find_mem {l:List GClass} {s:ByteArray} {c:GClass} (h:l.find? (fun c:GClass=>decide (c.name=s))=some c):c ∈ l∧c.name=s:=⟨List.mem_of_find?_eq_some h,by simpa using List.find?_some h⟩
theorem next_pool {l:List GClass} {s x t:ByteArray} (h:x ∈ nextL l t):x ∈ poolL l s:=by
 unfold nextL at h
 split at h
 ·rename_i c hc
  exact List.mem_cons_of_mem _ (List.mem_flatMap.mpr ⟨c,(find_mem hc).1,h⟩)
 ·cases h
theorem pool_len {l:List GClass} (hl:l.length≤100) (hc:∀ c ∈ l,OkC c) (s:ByteArray):(poolL l s).length≤1101:=by
 have key:∀ l:List GClass,(∀ c ∈ l,OkC c)→(l.flatMap aboveL).length≤11 * l.length:=by
  intro l
  induction l with
  | nil=>simp
  | cons c t ih =>
   intro h
   have h1:=ih fun c hc=>h c (List.mem_cons_of_mem _ hc)
   have h2:=(h c List.mem_cons_self).ifaces
   have h3:(aboveL c).length≤11:=by
    unfold aboveL
    by_cases hs:superL c=⟨#[]⟩<;>simp [hs]<;>omega
   rw [List.flatMap_cons,List.length_append,List.length_cons];omega
 have:=key l hc
 unfold poolL;rw [List.length_cons];omega
theorem nodup_sub {α:Type} [DecidableEq α] {a b:List α} (h:a.Nodup) (hs:∀ x ∈ a,x ∈ b):a.length≤b.length:=by
 induction a generalizing b with
 | nil=>simp
 | cons x t ih =>
  rw [List.nodup_cons] at h
  have hx:=hs x List.mem_cons_self
  have h1:=ih (b:=b.erase x) h.2 (fun y hy=>by
   have hne:y≠x:=fun e=>h.1 (by rw [← e];exact hy)
   rw [List.mem_erase_of_ne hne]
   exact hs y (List.mem_cons_of_mem _ hy))
  have h2:=List.length_erase_of_mem hx
  have h3:0 < b.length:=List.length_pos_of_mem hx
  simp;omega
structure Bf (l:List GClass) (s:ByteArray) (out:List ByteArray):Prop where
 nd:out.Nodup
 sub:∀ x ∈ out,x ∈ poolL l s
theorem Bf.add {l:List GClass} {s t:ByteArray} {out:List ByteArray} (h:Bf l s out):Bf l s (addNew out (nextL l t)) where
 nd:=addNew_nodup h.nd
 sub x hx:=by
  rcases addNew_mem.mp hx with a | a
  ·exact h.sub x a
  ·exact next_pool a
theorem Bf.len {l:List GClass} {s:ByteArray} {out:List ByteArray} (h:Bf l s out) (hl:l.length≤100) (hc:∀ c ∈ l,OkC c):out.length≤1101 :=
 Nat.le_trans (nodup_sub h.nd h.sub) (pool_len hl hc s)
theorem bf_one (l:List GClass) (s:ByteArray):Bf l s [s]:=⟨by simp,by simp [poolL]⟩
theorem bfs_bf {l:List GClass} {s:ByteArray}:∀ (n i:Nat) (out:List ByteArray),Bf l s out→Bf l s (bfs l n i out)
 | 0,_,_,h=>h
 | n+1,i,out,h=>by
  unfold bfs
  split
  ·exact bfs_bf n (i+1) _ h.add
  ·exact h
theorem at_find {l:List GClass} {s:ByteArray}:(l.find? (fun c:GClass=>decide (c.name=s))=none∧atI l s = -1)∨∃ (i:Nat) (h:i < l.length),atI l s=i∧l.find? (fun c:GClass=>decide (c.name=s))=some l[i]∧l[i].name=s∧∀ j (hj:j < i),l[j].name≠s:=by
 unfold atI idxI
 cases h:l.findIdx? (fun c:GClass=>decide (c.name=s)) with
 | none =>
  left
  rw [List.findIdx?_eq_none_iff] at h
  exact ⟨List.find?_eq_none.mpr fun x hx=>by simp [h x hx],rfl⟩
 | some i =>
  right
  rw [List.findIdx?_eq_some_iff_getElem] at h
  obtain ⟨h1,h2,h3⟩:=h
  refine ⟨i,h1,rfl,?_,by simpa using h2,fun j hj=>by simpa using h3 j hj⟩
  rw [List.find?_eq_some_iff_getElem]
  exact ⟨h2,i,h1,rfl,fun j hj=>by simpa using h3 j hj⟩
theorem h32_0 (k:AExit→St→Option (V × List Ob)) (l:List GClass) (out next:List ByteArray) (i:Int) (ho:out.length≤2000) (hn:next.length≤2000) :
  K fns ⟨0,0⟩ f45_l0 ⟨[(0,vsl l),(5,.c (.osl 1 (rows out))),(6,vint i),(8,vsl next),(9,vint 0)],[]⟩ k=k (.exit 2) ⟨[(0,vsl l),(5,.c (.osl 1 (rows (addNew out next)))),(6,vint i)],[]⟩ :=
 scan_fold (l:=next) (f:=fun o x=>if x ∈ o then o else o ++ [x]) (I:=fun j c=>c.length≤2000+j) (X:=fun j c=>K fns ⟨0,0⟩ f45_l0 ⟨[(0,vsl l),(5,.c (.osl 1 (rows c))),(6,vint i),(8,vsl next),(9,vint j)],[]⟩ k)
  (e:=fun c=>k (.exit 2) ⟨[(0,vsl l),(5,.c (.osl 1 (rows c))),(6,vint i)],[]⟩)
  (fun j c hj hI=>by
   have hw:=wrap_succ (i:=j) (by omega)
   have hh:=fn_has c next[j] (by omega)
   have q1:c.length+1≤70368744177664:=by omega
   have q2:(c.length+1) * 16≤70368744177664:=by omega
   refine ⟨?_,by by_cases hm:next[j] ∈ c<;>simp [hm]<;>omega⟩
   show K fns _ f45_l0 _ k=_
   rw [u45_l0]
   by_cases hm:next[j] ∈ c<;>simp only [hm,decide_true,decide_false] at hh<;>simp [f45_b0,hj,hw,hh,hm,q1,q2])
  (fun c hI=>by show K fns _ f45_l0 _ k=_;rw [u45_l0];simp [f45_b0])
  (by omega)
theorem next_len {l:List GClass} (hc:∀ c ∈ l,OkC c) (s:ByteArray):(nextL l s).length≤11:=by
 unfold nextL
 split
 ·rename_i c h
  have:=(hc c (find_mem h).1).ifaces
  unfold aboveL
  by_cases hs:superL c=⟨#[]⟩<;>simp [hs]<;>omega
 ·simp
theorem h32_1 (k:AExit→St→Option (V × List Ob)) (l:List GClass) (s:ByteArray) (hl:l.length≤100) (hc:∀ c ∈ l,OkC c):∀ (n i:Nat) (out:List ByteArray),Bf l s out→i≤out.length→1102≤i+n →
  K fns ⟨0,0⟩ f45_l1 ⟨[(0,vsl l),(5,.c (.osl 1 (rows out))),(6,vint i)],[]⟩ k=k (.exit 0) ⟨[(5,.c (.osl 1 (rows (bfs l n i out))))],[]⟩:=by
 intro n
 induction n with
 | zero =>
  intro i out hb hi hn
  have:=hb.len hl hc
  omega
 | succ n ih =>
  intro i out hb hi hn
  have hlen:=hb.len hl hc
  have hw:=wrap_succ (i:=i) (by omega)
  unfold bfs
  by_cases hlt:i < out.length
  ·rw [List.getElem?_eq_getElem hlt]
   dsimp only
   have hb2:=hb.add (t:=out[i])
   have hpre:out.length≤(addNew out (nextL l out[i])).length:=(addNew_pre (next:=nextL l out[i]) (out:=out)).length_le
   rw [← ih (i+1) _ hb2 (by omega) (by omega)]
   rw [u45_l1]
   have hat:=fn_at l out[i] (by omega)
   rcases at_find (l:=l) (s:=out[i]) with ⟨h1,h2⟩ | ⟨j,hj,h1,h2,_,_⟩
   ·have hz:addNew out (nextL l out[i])=out:=by simp [nextL,h1,addNew]
    rw [h2] at hat
    rw [hz]
    simp [f45_b1,hlt,hat,hw]
   ·have ha:=fn_above l[j] (hc _ (List.getElem_mem hj))
    have hz:nextL l out[i]=aboveL l[j]:=by simp [nextL,h2]
    have hnl:=next_len hc out[i]
    rw [hz] at hnl ⊢
    rw [h1] at hat
    have L:=fun k=>h32_0 k l out (aboveL l[j]) i (by omega) (by omega)
    have hj':¬ ((j:Int) < 0):=by omega
    simp [f45_b1,hlt,hat,hw,hj,hj',ha,L]
  ·have:out[i]?=none:=List.getElem?_eq_none_iff.mpr (by omega)
   rw [this]
   dsimp only
   rw [u45_l1]
   have hlt':¬ ((i:Int) < out.length):=by omega
   simp [f45_b1,hlt,hlt']
theorem fn_reach (l:List GClass) (s:ByteArray) (hl:l.length≤100) (hc:∀ c ∈ l,OkC c) (σ:List Ob) (lo tr:Nat):Fn fns 45 [vsl l,vstr s] σ lo tr=some (.c (.osl 1 (rows (reachL l s))),σ):=by
 refine fn_gen t45 rfl (σ1:=[]) rfl rfl ?_ σ lo tr
 have L:=fun k=>h32_1 k l s hl hc 3000 0 [s] (bf_one l s) (by simp) (by omega)
 have hr:rows [s]=[[D.str s]]:=rfl
 rw [hr] at L
 unfold reachL
 generalize bfs l 3000 0 [s]=r at L
 simp only [Int.natCast_zero] at L
 simp [KF,params,f45,L]
theorem reach_len {l:List GClass} (s:ByteArray) (hl:l.length≤100) (hc:∀ c ∈ l,OkC c):(reachL l s).length≤1101:=(bfs_bf 3000 0 [s] (bf_one l s)).len hl hc
def lostB (l:List GClass) (c:GClass):Bool:=(!decide (superL c=⟨#[]⟩) && (match l.find? (fun x:GClass=>decide (x.name=superL c)) with | some x=>x.iface | none=>true)) || c.ifaces.any fun s=>match l.find? (fun x:GClass=>decide (x.name=s)) with | some x=>!x.iface | none=>true
def ringB (l:List GClass) (c:GClass):Bool:=(aboveL c).any fun s=>decide (c.name ∈ reachL l s)
def twiceB (l:List GClass):Bool:=l.zipIdx.any fun x=>!decide (atI l x.1.name=(x.2:Int))
def hierE (p:GProgram):Int:=bif progB p then (bif twiceB (allL p) then 6 else bif (allL p).any (lostB (allL p)) then 5 else bif (allL p).any (ringB (allL p)) then 7 else 0) else 4
theorem h10_0 (k:AExit→St→Option (V × List Ob)) (p:GProgram) (l:List GClass) (hl:l.length≤100):K fns ⟨0,0⟩ f38_l0 ⟨[(3,vsl l),(4,vint 0)],[cP p]⟩ k =
  if twiceB l then k .ret ⟨[(2,vint 6)],[cP p]⟩ else k (.exit 0) ⟨[(3,vsl l)],[cP p]⟩:=by
 have:=scan_any (l:=l.zipIdx) (p:=fun x=>!decide (atI l x.1.name=(x.2:Int))) (X:=fun i=>K fns ⟨0,0⟩ f38_l0 ⟨[(3,vsl l),(4,vint i)],[cP p]⟩ k) (r:=k .ret ⟨[(2,vint 6)],[cP p]⟩) (e:=k (.exit 0) ⟨[(3,vsl l)],[cP p]⟩)
  (fun i hi=>by
   have hi':i < l.length:=by simpa using hi
   have hw:=wrap_succ (i:=i) (by omega)
   have hat:=fn_at l l[i].name (by omega)
   have hz:l.zipIdx[i]=(l[i],i):=by simp
   rw [hz]
   show K fns _ f38_l0 _ k=_
   rw [u38_l0]
   by_cases hq:atI l l[i].name=(i:Int)
   ·rw [hq] at hat
    simp [f38_b0,hi',hw,hat,hq]
   ·simp [f38_b0,hi',hw,hat,hq])
  (by show K fns _ f38_l0 _ k=_;rw [u38_l0];simp [f38_b0])
 exact this
def noIf (l:List GClass) (s:ByteArray):Bool:=match l.find? (fun x:GClass=>decide (x.name=s)) with | some x=>!x.iface | none=>true
def noSup (l:List GClass) (s:ByteArray):Bool:=match l.find? (fun x:GClass=>decide (x.name=s)) with | some x=>x.iface | none=>true
theorem lostB_eq (l:List GClass) (c:GClass):lostB l c=((!decide (superL c=⟨#[]⟩) && noSup l (superL c)) || c.ifaces.any (noIf l)):=rfl
theorem h10_1 (k:AExit→St→Option (V × List Ob)) (p:GProgram) (l:List GClass) (i:Nat) (hi:i < l.length) (hl:l.length≤100) (hc:∀ c ∈ l,OkC c):K fns ⟨0,0⟩ f38_l1 ⟨[(3,vsl l),(5,vint i),(7,vint 0)],[cP p]⟩ k =
  if l[i].ifaces.any (noIf l) then k .ret ⟨[(2,vint 5)],[cP p]⟩ else k (.exit 4) ⟨[(3,vsl l),(5,vint i)],[cP p]⟩ :=
 scan_any (l:=l[i].ifaces) (p:=noIf l) (X:=fun j=>K fns ⟨0,0⟩ f38_l1 ⟨[(3,vsl l),(5,vint i),(7,vint j)],[cP p]⟩ k)
  (fun j hj=>by
   have hb:=(hc _ (List.getElem_mem hi)).ifaces
   have hw:=wrap_succ (i:=j) (by omega)
   have hat:=fn_at l l[i].ifaces[j] (by omega)
   show K fns _ f38_l1 _ k=_
   rw [u38_l1]
   rcases at_find (l:=l) (s:=l[i].ifaces[j]) with ⟨h1,h2⟩ | ⟨m,hm,h1,h2,_,_⟩
   ·have hz:noIf l l[i].ifaces[j]=true:=by simp [noIf,h1]
    rw [h2] at hat
    simp [f38_b1,hi,hj,hw,hat,hz]
   ·have hz:noIf l l[i].ifaces[j] = !l[m].iface:=by simp [noIf,h2]
    rw [h1] at hat
    have hm':¬ ((m:Int) < 0):=by omega
    cases hq:l[m].iface<;>simp [f38_b1,hi,hj,hw,hat,hz,hm,hm',hq])
  (by show K fns _ f38_l1 _ k=_;rw [u38_l1];simp [f38_b1,hi])
theorem h10_2 (k:AExit→St→Option (V × List Ob)) (p:GProgram) (l:List GClass) (hl:l.length≤100) (hc:∀ c ∈ l,OkC c):K fns ⟨0,0⟩ f38_l2 ⟨[(3,vsl l),(5,vint 0)],[cP p]⟩ k =
  if l.any (lostB l) then k .ret ⟨[(2,vint 5)],[cP p]⟩ else k (.exit 2) ⟨[(3,vsl l)],[cP p]⟩ :=
 scan_any (l:=l) (p:=lostB l) (X:=fun i=>K fns ⟨0,0⟩ f38_l2 ⟨[(3,vsl l),(5,vint i)],[cP p]⟩ k)
  (fun i hi=>by
   have hw:=wrap_succ (i:=i) (by omega)
   have hs:=fn_superOf l[i]
   have L:=fun k=>h10_1 k p l i hi hl hc
   have hat:=fn_at l (superL l[i]) (by omega)
   rw [lostB_eq]
   show K fns _ f38_l2 _ k=_
   rw [u38_l2]
   generalize superL l[i]=su at hs hat ⊢
   cases hif:l[i].ifaces.any (noIf l)<;>simp only [hif,if_true,if_false,Bool.false_eq_true] at L
   ·by_cases hn:su=⟨#[]⟩
    ·simp [f38_b2,hi,hw,hs,hn,L]
    ·rcases at_find (l:=l) (s:=su) with ⟨h1,h2⟩ | ⟨m,hm,h1,h2,_,_⟩
     ·have hz:noSup l su=true:=by simp [noSup,h1]
      rw [h2] at hat
      simp [f38_b2,hi,hw,hs,hn,hat,hz]
     ·have hz:noSup l su=l[m].iface:=by simp [noSup,h2]
      rw [h1] at hat
      have hm':¬ ((m:Int) < 0):=by omega
      cases hq:l[m].iface<;>simp [f38_b2,hi,hw,hs,hn,hat,hz,hm,hm',hq,L]
   ·by_cases hn:su=⟨#[]⟩
    ·simp [f38_b2,hi,hw,hs,hn,L]
    ·rcases at_find (l:=l) (s:=su) with ⟨h1,h2⟩ | ⟨m,hm,h1,h2,_,_⟩
     ·have hz:noSup l su=true:=by simp [noSup,h1]
      rw [h2] at hat
      simp [f38_b2,hi,hw,hs,hn,hat,hz]
     ·have hz:noSup l su=l[m].iface:=by simp [noSup,h2]
      rw [h1] at hat
      have hm':¬ ((m:Int) < 0):=by omega
      cases hq:l[m].iface<;>simp [f38_b2,hi,hw,hs,hn,hat,hz,hm,hm',hq,L])
  (by show K fns _ f38_l2 _ k=_;rw [u38_l2];simp [f38_b2])
theorem h10_3 (k:AExit→St→Option (V × List Ob)) (p:GProgram) (l:List GClass) (i:Nat) (hi:i < l.length) (hl:l.length≤100) (hc:∀ c ∈ l,OkC c):K fns ⟨0,0⟩ f38_l3 ⟨[(3,vsl l),(9,vint i),(10,vsl (aboveL l[i])),(11,vint 0)],[cP p]⟩ k =
  if ringB l l[i] then k .ret ⟨[(2,vint 7)],[cP p]⟩ else k (.exit 8) ⟨[(3,vsl l),(9,vint i)],[cP p]⟩ :=
 scan_any (l:=aboveL l[i]) (p:=fun s=>decide (l[i].name ∈ reachL l s)) (X:=fun j=>K fns ⟨0,0⟩ f38_l3 ⟨[(3,vsl l),(9,vint i),(10,vsl (aboveL l[i])),(11,vint j)],[cP p]⟩ k)
  (fun j hj=>by
   have hb:=(hc _ (List.getElem_mem hi)).ifaces
   have hal:(aboveL l[i]).length≤11:=by
    unfold aboveL
    by_cases hs:superL l[i]=⟨#[]⟩<;>simp [hs]<;>omega
   have hw:=wrap_succ (i:=j) (by omega)
   have hr:=fn_reach l (aboveL l[i])[j] hl hc
   have hrl:=reach_len (l:=l) (aboveL l[i])[j] hl hc
   have hh:=fn_has (reachL l (aboveL l[i])[j]) l[i].name (by omega)
   generalize aboveL l[i]=ab at *
   generalize reachL l ab[j]=rr at *
   show K fns _ f38_l3 _ k=_
   rw [u38_l3]
   by_cases hq:l[i].name ∈ rr<;>simp only [hq,decide_true,decide_false] at hh<;>simp [f38_b3,hi,hj,hw,hr,hh,hq])
  (by show K fns _ f38_l3 _ k=_;rw [u38_l3];simp [f38_b3,hi])
theorem h10_4 (k:AExit→St→Option (V × List Ob)) (p:GProgram) (l:List GClass) (hl:l.length≤100) (hc:∀ c ∈ l,OkC c):K fns ⟨0,0⟩ f38_l4 ⟨[(3,vsl l),(9,vint 0)],[cP p]⟩ k =
  if l.any (ringB l) then k .ret ⟨[(2,vint 7)],[cP p]⟩ else k (.exit 6) ⟨[],[cP p]⟩ :=
 scan_any (l:=l) (p:=ringB l) (X:=fun i=>K fns ⟨0,0⟩ f38_l4 ⟨[(3,vsl l),(9,vint i)],[cP p]⟩ k)
  (fun i hi=>by
   have hw:=wrap_succ (i:=i) (by omega)
   have ha:=fn_above l[i] (hc _ (List.getElem_mem hi))
   have L:=fun k=>h10_3 k p l i hi hl hc
   generalize aboveL l[i]=ab at *
   show K fns _ f38_l4 _ k=_
   rw [u38_l4]
   cases hq:ringB l l[i]<;>simp only [hq,if_true,if_false,Bool.false_eq_true] at L<;>simp [f38_b4,hi,hw,ha,L])
  (by show K fns _ f38_l4 _ k=_;rw [u38_l4];simp [f38_b4])
theorem base_ok:∀ c ∈ baseL,OkC c:=by
 intro c hc
 have:bigC c=false:=by
  have:baseL.all (fun c=>!bigC c)=true:=by decide
  simpa using List.all_eq_true.mp this c hc
 exact okC this
theorem allL_ok {p:GProgram} (h:OkP p):∀ c ∈ allL p,OkC c:=by
 intro c hc
 rcases List.mem_append.mp hc with a | a
 ·exact base_ok c a
 ·exact h.cs c a
theorem fn_hier (p:GProgram) (h:OkP p) (σ:List Ob) (lo tr:Nat):Fn fns 38 [vProgram p] σ lo tr=some (vint (hierE p),σ):=by
 refine fn_gen t38 rfl (σ1:=[]) rfl rfl ?_ σ lo tr
 unfold hierE
 have hs:=fn_shown p h
 have ha:=fn_refAll p h
 have hl:=all_len h
 have hc:=allL_ok h
 generalize allL p=l at *
 have L0:=fun k=>h10_0 k p l hl
 have L2:=fun k=>h10_2 k p l hl hc
 have L4:=fun k=>h10_4 k p l hl hc
 cases c0:progB p
 ·simp [KF,params,f38,hs,c0]
 cases c1:twiceB l<;>simp only [c1,if_true,if_false,Bool.false_eq_true] at L0
 case true=>simp [KF,params,f38,hs,c0,ha,L0]
 cases c2:l.any (lostB l)<;>simp only [c2,if_true,if_false,Bool.false_eq_true] at L2
 case true=>simp [KF,params,f38,hs,c0,ha,L0,L2]
 cases c3:l.any (ringB l)<;>simp only [c3,if_true,if_false,Bool.false_eq_true] at L4<;>simp [KF,params,f38,hs,c0,ha,L0,L2,L4]
def entC (l:List GClass):List (V × V):=l.map fun c=>(vstr c.name,vClass c)
def findC (l:List GClass) (s:ByteArray):Option GClass:=l.find? fun c:GClass=>decide (c.name=s)
theorem find_key {α:Type} (f:α→ByteArray) (g:α→V) (s:ByteArray):∀ (l:List α) (i:Nat),findKey [2] (vstr s) (l.map fun c=>(vstr (f c),g c)) i=some ((l.findIdx? fun c=>decide (f c=s)).bind fun j=>(l[j]?).map fun c=>(i+j,g c))
 | [],i=>rfl
 | c :: l,i=>by
  have ih:=find_key f g s l (i+1)
  rw [List.map_cons,findKey]
  have he:eqKey [2] (vstr s) (vstr (f c))=some (decide (s=f c)):=by simp [eqKey,sames,D.same,str_eq]
  rw [he,List.findIdx?_cons]
  by_cases h:f c=s
  ·have h':s=f c:=h.symm
   simp [h']
  ·have h':¬ s=f c:=fun e=>h e.symm
   simp only [h,h',decide_false,Bool.false_eq_true,if_false]
   rw [ih]
   cases hq:l.findIdx? fun c=>decide (f c=s) with
   | none=>simp
   | some j=>simp;congr;funext c;congr 1;omega
theorem find_keyC (l:List GClass) (s:ByteArray):∃ r,findKey [2] (vstr s) (entC l) 0=some r∧r.map (·.2)=(findC l s).map fun c=>vClass c:=by
 refine ⟨_,find_key (fun c:GClass=>c.name) (fun c=>vClass c) s l 0,?_⟩
 unfold findC
 rcases at_find (l:=l) (s:=s) with ⟨h1,h2⟩ | ⟨i,hi,h1,h2,h3,h4⟩
 ·have:l.findIdx? (fun c:GClass=>decide (c.name=s))=none:=by
   rw [List.findIdx?_eq_none_iff];intro x hx;simpa using List.find?_eq_none.mp h1 x hx
  rw [this,h1];rfl
 ·have:l.findIdx? (fun c:GClass=>decide (c.name=s))=some i:=by
   rw [List.findIdx?_eq_some_iff_getElem]
   exact ⟨hi,by simpa using h3,fun j hj=>by simpa using h4 j hj⟩
  rw [this,h2];simp [hi]
abbrev z6v:V:=.agg [.b (.d (.str ⟨#[]⟩)),.b (.d (.bool false)),.b (.d (.str ⟨#[]⟩)),.b (.d (.sl [])),.b (.d (.sl [])),.b (.d (.sl []))]
def noC:GClass:=⟨⟨#[]⟩,false,⟨#[]⟩,[],[],[]⟩
theorem got_C (l:List GClass) (s:ByteArray):∃ r,findKey [2] (vstr s) (entC l) 0=some r∧got z6v r=vClass ((findC l s).getD noC)∧r.isSome=(findC l s).isSome:=by
 obtain ⟨r,h1,h2⟩:=find_keyC l s
 refine ⟨r,h1,?_,?_⟩
 ·cases r with
  | none =>
   cases hf:findC l s with
   | none=>rfl
   | some c=>rw [hf] at h2;cases h2
  | some x =>
   cases hf:findC l s with
   | none=>rw [hf] at h2;cases h2
   | some c =>
    rw [hf] at h2
    simp only [Option.map_some,Option.some.injEq] at h2
    obtain ⟨i,v⟩:=x
    simp only at h2
    subst h2
    simp [got,V.down,C.down]
 ·have:=congrArg Option.isSome h2
  simpa using this
structure TreeAt (σ:List Ob) (T A M:Nat) (own E:Int) (names:List ByteArray) (l:List GClass):Prop where
 t:σ[T]?=some (.cells [.b (.d (.int .i64 own)),.osl 1 (rows names),.b (.d (.int .i64 E)),.b (.map A),.b (.map M)])
 a:σ[A]?=some (.map (entC l))
theorem get_lt {α:Type} {l:List α} {i:Nat} {x:α} (h:l[i]?=some x):i < l.length:=(List.getElem?_eq_some_iff.mp h).1
theorem fn_super (c:GClass) (T:Nat) (σ:List Ob) (lo tr:Nat) (hlo:lo≤σ.length) (hσ:σ.all (Ob.closed σ.length)=true):Fn fns 85 [vptr T,vClass c] σ lo tr=some (.tup [vstr (superL c),vbool (!decide (superL c=⟨#[]⟩))],σ):=by
 rw [fn_eq t85 rfl rfl]
 have hm:max lo σ.length=σ.length:=by omega
 have n1:¬ ((⟨#[79,98,106,101,99,116]⟩:ByteArray)=⟨#[]⟩):=by decide
 unfold superL
 cases h1:c.iface
 ·by_cases h2:c.name=sObject
  ·simp [KF,params,f85,hm,h1,h2]
  ·by_cases h3:c.super=⟨#[]⟩<;>simp [KF,params,f85,hm,h1,h2,h3,n1]
 ·simp [KF,params,f85,hm,h1]
def nextP (c:GClass):List ByteArray:=c.ifaces ++ (if superL c=⟨#[]⟩ then [] else [superL c])
theorem fn_next {σ:List Ob} {T A M:Nat} {own E:Int} {names:List ByteArray} {l:List GClass} (h:TreeAt σ T A M own E names l) (hc:∀ c ∈ l,OkC c) (s:ByteArray) (lo tr:Nat) (hlo:lo≤σ.length) (hσ:∀ k,σ.all (Ob.closed (σ.length+k))=true):Fn fns 88 [vptr T,vstr s] σ lo tr=some (.c (.osl 1 (rows (nextP ((findC l s).getD noC)))),σ):=by
 rw [fn_eq t88 rfl rfl]
 obtain ⟨r,h1,h2,h3⟩:=got_C l s
 have hT:=get_lt h.t
 have hA:=get_lt h.a
 have ht:=(List.getElem?_eq_some_iff.mp h.t).2
 have ha:=(List.getElem?_eq_some_iff.mp h.a).2
 generalize hcc:(findC l s).getD noC=c at h2 ⊢
 have hok:OkC c:=by
  subst hcc
  cases hf:findC l s with
  | none=>exact okC (by decide)
  | some c=>exact hc c (find_mem hf).1
 have hi:=hok.ifaces
 have hcl:=fn_cloneS c.ifaces (by omega)
 have hs:=fun σ lo tr hlo hσ=>fn_super c T σ lo tr hlo hσ
 have hm:max lo σ.length=σ.length:=by omega
 have q1:c.ifaces.length+1≤70368744177664:=by omega
 have q2:(c.ifaces.length+1) * 16≤70368744177664:=by omega
 unfold nextP
 by_cases hn:superL c=⟨#[]⟩
 ·simp [KF,params,f88,List.getElem?_append_left,List.getElem?_append_right,hT,hA,ht,ha,h1,h2,mapOf,keyShape,hcl,hs,hσ,hn,hm]
 ·simp [KF,params,f88,List.getElem?_append_left,List.getElem?_append_right,hT,hA,ht,ha,h1,h2,mapOf,keyShape,hcl,hs,hσ,hn,hm,q1,q2]
theorem get_app {α:Type} {l:List α} {i:Nat} {x:α} (h:l[i]?=some x) (X:List α):(l ++ X)[i]?=some x:=by
 rw [List.getElem?_append_left (get_lt h)];exact h
theorem TreeAt.app {σ:List Ob} {T A M:Nat} {own E:Int} {names:List ByteArray} {l:List GClass} (h:TreeAt σ T A M own E names l) (X:List Ob):TreeAt (σ ++ X) T A M own E names l:=⟨get_app h.t X,get_app h.a X⟩
theorem fn_lost1 {σ:List Ob} {T A M q:Nat} {own E:Int} {names:List ByteArray} {l:List GClass} (h:TreeAt σ T A M own E names l) (hq:σ[q]?=some (.cells [.b (.ptr T 0)])) (s:ByteArray) (lo tr:Nat) (hlo:lo≤σ.length):Fn fns 86 [vstr s,vptr q] σ lo tr=some (vbool (noIf l s),σ):=by
 rw [fn_eq t86 rfl rfl]
 have hm:max lo σ.length=σ.length:=by omega
 obtain ⟨r,h1,h2,h3⟩:=got_C l s
 have hT:=get_lt h.t
 have hA:=get_lt h.a
 have hQ:=get_lt hq
 have ht:=(List.getElem?_eq_some_iff.mp h.t).2
 have ha:=(List.getElem?_eq_some_iff.mp h.a).2
 have hq:=(List.getElem?_eq_some_iff.mp hq).2
 have hn:noIf l s=match findC l s with | some x=>!x.iface | none=>true:=rfl
 rw [hn]
 cases hf:findC l s with
 | none =>
  rw [hf] at h2 h3
  simp [KF,params,f86,List.getElem?_append_left,List.getElem?_append_right,hT,hA,hQ,ht,ha,hq,h1,h2,h3,mapOf,keyShape,hm]
 | some c =>
  rw [hf] at h2 h3
  cases hi:c.iface<;>simp [KF,params,f86,List.getElem?_append_left,List.getElem?_append_right,hT,hA,hQ,ht,ha,hq,h1,h2,h3,mapOf,keyShape,hm,hi]
theorem fn_lost {σ:List Ob} {T A M:Nat} {own E:Int} {names:List ByteArray} {l:List GClass} (h:TreeAt σ T A M own E names l) (c:GClass) (hok:OkC c) (lo tr:Nat) (hlo:lo≤σ.length) (hσ:∀ k,σ.all (Ob.closed (σ.length+k))=true):Fn fns 68 [vptr T,vClass c] σ lo tr=some (vbool (lostB l c),σ):=by
 rw [fn_eq t68 rfl rfl,lostB_eq]
 have hi:=hok.ifaces
 have hT:=get_lt h.t
 have hA:=get_lt h.a
 have ht:=(List.getElem?_eq_some_iff.mp h.t).2
 have ha:=(List.getElem?_eq_some_iff.mp h.a).2
 have hm:max lo σ.length=σ.length:=by omega
 have hs:=fun σ lo tr hlo hσ=>fn_super c T σ lo tr hlo hσ
 have hTk:∀ k,T < σ.length+k:=fun k=>by omega
 have hcont:∀ (X:List Ob) (lo' tr':Nat),lo'≤σ.length→X.all (Ob.closed (σ.length+(1+X.length)))=true→Fn fns 69 [vsl c.ifaces,.c (.fn 86 [] [.ptr σ.length 0])] (σ ++ .cells [.b (.ptr T 0)] :: X) lo' tr'=some (vbool (c.ifaces.any (noIf l)),σ ++ .cells [.b (.ptr T 0)] :: X):=by
  intro X lo' tr' hlo' hX
  have hlen:(σ ++ Ob.cells [.b (.ptr T 0)] :: X).length=σ.length+(1+X.length):=by simp;omega
  refine fn_contS c.ifaces 86 [] [.ptr σ.length 0] _ lo' tr' (by rw [hlen];omega) (by simp [C.closed,B.closed]) (by rw [hlen];simp [C.closed,B.closed];omega) ?_ (by omega) (noIf l) (fun i hi tr''=>?_)
  ·rw [hlen];simp only [List.all_append,List.all_cons,hσ,hX,Bool.true_and,Bool.and_true];simp [Ob.closed,C.closed,B.closed];omega
  ·exact fn_lost1 (q:=σ.length) (h.app _) (by simp) _ _ _ (Nat.le_refl _)
 by_cases hn:superL c=⟨#[]⟩
 ·simp [KF,params,f68,List.getElem?_append_left,List.getElem?_append_right,hT,hA,ht,ha,mapOf,keyShape,hs,hσ,hn,hm,bsOf,hTk,hcont]
 ·obtain ⟨r,h1,h2,h3⟩:=got_C l (superL c)
  have hN:noSup l (superL c)=match findC l (superL c) with | some x=>x.iface | none=>true:=rfl
  rw [hN]
  cases hf:findC l (superL c) with
  | none =>
   rw [hf] at h2 h3
   simp [KF,params,f68,List.getElem?_append_left,List.getElem?_append_right,hT,hA,ht,ha,mapOf,keyShape,hs,hσ,hn,hm,bsOf,hTk,hcont,h1,h2,h3]
  | some d =>
   rw [hf] at h2 h3
   cases hd:d.iface<;>simp [KF,params,f68,List.getElem?_append_left,List.getElem?_append_right,hT,hA,ht,ha,mapOf,keyShape,hs,hσ,hn,hm,bsOf,hTk,hcont,h1,h2,h3,hd]
def nx (l:List GClass) (s:ByteArray):List ByteArray:=nextP ((findC l s).getD noC)
def namesOf (l:List GClass):List ByteArray:=l.map (·.name)
def Whole (l:List GClass):Prop:=∀ s ∈ namesOf l,∀ x ∈ nx l s,x ∈ namesOf l
def dfs (l:List GClass):Nat→List ByteArray→ByteArray→List ByteArray
 | 0,ns,_=>ns
 | n+1,ns,s=>(nx l s).foldl (fun acc x=>if x ∈ acc then acc else dfs l n acc x) (if s ∈ ns then ns else ns ++ [s])
structure Met (l:List GClass) (ns:List ByteArray):Prop where
 nd:ns.Nodup
 sub:∀ x ∈ ns,x ∈ namesOf l
theorem Met.add {l:List GClass} {ns:List ByteArray} (h:Met l ns) {s:ByteArray} (hs:s ∈ namesOf l):Met l (if s ∈ ns then ns else ns ++ [s]):=by
 by_cases hy:s ∈ ns
 ·simpa [hy] using h
 ·simp only [hy,if_false]
  refine ⟨?_,?_⟩
  ·rw [List.nodup_append]
   exact ⟨h.nd,by simp,by rintro a ha b hb rfl;simp at hb;exact hy (hb ▸ ha)⟩
  ·intro x hx
   rcases List.mem_append.mp hx with a | a
   ·exact h.sub x a
   ·simp at a;subst a;exact hs
theorem Met.len {l:List GClass} {ns:List ByteArray} (h:Met l ns):ns.length≤l.length:=by
 have:=nodup_sub h.nd h.sub
 simpa [namesOf] using this
theorem dfs_met {l:List GClass} (hw:Whole l):∀ (n:Nat) (ns:List ByteArray) (s:ByteArray),Met l ns→s ∈ namesOf l→Met l (dfs l n ns s)∧ns.length≤(dfs l n ns s).length∧∀ x ∈ ns,x ∈ dfs l n ns s:=by
 intro n
 induction n with
 | zero=>intro ns s h _;exact ⟨h,Nat.le_refl _,fun x hx=>hx⟩
 | succ n ih =>
  intro ns s h hs
  have key:∀ (L:List ByteArray) (acc:List ByteArray),(∀ x ∈ L,x ∈ namesOf l)→Met l acc→Met l (L.foldl (fun acc x=>if x ∈ acc then acc else dfs l n acc x) acc)∧acc.length≤(L.foldl (fun acc x=>if x ∈ acc then acc else dfs l n acc x) acc).length∧∀ x ∈ acc,x ∈ L.foldl (fun acc x=>if x ∈ acc then acc else dfs l n acc x) acc:=by
   intro L
   induction L with
   | nil=>intro acc _ h;exact ⟨h,Nat.le_refl _,fun x hx=>hx⟩
   | cons y t iht =>
    intro acc hL hacc
    rw [List.foldl_cons]
    by_cases hy:y ∈ acc
    ·simp only [hy,if_true]
     exact iht acc (fun x hx=>hL x (List.mem_cons_of_mem _ hx)) hacc
    ·simp only [hy,if_false]
     obtain ⟨a,b,c⟩:=ih acc y hacc (hL y List.mem_cons_self)
     obtain ⟨a',b',c'⟩:=iht _ (fun x hx=>hL x (List.mem_cons_of_mem _ hx)) a
     exact ⟨a',Nat.le_trans b b',fun x hx=>c' x (c x hx)⟩
  obtain ⟨a,b,c⟩:=key (nx l s) _ (hw s hs) (h.add hs)
  refine ⟨a,Nat.le_trans ?_ b,fun x hx=>c x ?_⟩
  ·by_cases hy:s ∈ ns<;>simp [hy]
  ·by_cases hy:s ∈ ns<;>simp [hy,hx]
def entS (ns:List ByteArray):List (V × V):=ns.map fun s=>(vstr s,vbool true)
theorem got_S (ns:List ByteArray) (s:ByteArray):∃ r,findKey [2] (vstr s) (entS ns) 0=some r∧got (vbool false) r=vbool (decide (s ∈ ns))∧((r=none∧s ∉ ns)∨∃ i v,r=some (i,v)∧s ∈ ns∧(entS ns).set i (vstr s,vbool true)=entS ns):=by
 refine ⟨_,find_key (fun s:ByteArray=>s) (fun _=>vbool true) s ns 0,?_⟩
 cases hq:ns.findIdx? (fun c=>decide (c=s)) with
 | none =>
  have hn:s ∉ ns:=by
   rw [List.findIdx?_eq_none_iff] at hq
   intro h;simpa using hq s h
  exact ⟨by simp [got,hn],Or.inl ⟨rfl,hn⟩⟩
 | some i =>
  rw [List.findIdx?_eq_some_iff_getElem] at hq
  obtain ⟨h1,h2,_⟩:=hq
  have h3:ns[i]=s:=by simpa using h2
  have hs:s ∈ ns:=h3 ▸ List.getElem_mem h1
  refine ⟨by simp [got,hs,h1,V.down,C.down],Or.inr ⟨i,vbool true,by simp [h1],hs,?_⟩⟩
  apply List.ext_getElem?
  intro j
  by_cases hj:i=j
  ·subst hj
   rw [List.getElem?_set_self (by simpa [entS] using h1)]
   simp [entS,h1,h3]
  ·rw [List.getElem?_set_ne hj]
theorem entS_closed (ns:List ByteArray) (n:Nat):Ob.closed n (.map (entS ns))=true:=by
 simp [Ob.closed,entS,V.closed1,C.closed,B.closed]
theorem all_set {σ:List Ob} {m:Nat} {x:Ob} {p:Ob→Bool} (h:σ.all p=true) (hx:p x=true):(σ.set m x).all p=true:=by
 rw [List.all_eq_true] at h ⊢
 intro y hy
 rcases List.mem_or_eq_of_mem_set hy with a | a
 ·exact h y a
 ·subst a;exact hx
section
variable {σ:List Ob} {T A M m:Nat} {own E:Int} {names:List ByteArray} {l:List GClass}
theorem TreeAt.set (h:TreeAt σ T A M own E names l) (h1:T≠m) (h2:A≠m) (x:Ob):TreeAt (σ.set m x) T A M own E names l :=
 ⟨by rw [List.getElem?_set_ne (Ne.symm h1)];exact h.t,by rw [List.getElem?_set_ne (Ne.symm h2)];exact h.a⟩
theorem fn_climb (h:TreeAt σ T A M own E names l) (h1:T≠m) (h2:A≠m) (hm:m < σ.length) (hl:l.length≤100) (hc:∀ c ∈ l,OkC c) (hw:Whole l) (hσ:∀ k,σ.all (Ob.closed (σ.length+k))=true) :
  ∀ (n:Nat) (ns:List ByteArray) (s:ByteArray) (lo tr:Nat),Met l ns→s ∈ namesOf l→l.length+(if s ∈ ns then 1 else 0) < n+ns.length→lo≤m→Fn fns 71 [vptr T,vstr s,.c (.b (.map m))] (σ.set m (.map (entS ns))) lo tr=some (.tup [],σ.set m (.map (entS (dfs l n ns s)))):=by
 intro n
 induction n with
 | zero =>
  intro ns s lo tr hm _ hf
  have:=hm.len
  omega
 | succ n ih =>
  intro ns s lo tr hmet hs hf hlo
  have hT:=get_lt h.t
  have hls:lo≤σ.length:=by omega
  have hset:∀ k ns,(σ.set m (.map (entS ns))).all (Ob.closed (σ.length+k))=true:=fun k ns=>all_set (hσ k) (entS_closed ns _)
  have hset0:∀ ns,(σ.set m (.map (entS ns))).all (Ob.closed σ.length)=true:=fun ns=>hset 0 ns
  rw [fn_eq t71 rfl rfl]
  have htk:∀ x:Ob,List.take σ.length (σ.set m x)=σ.set m x:=fun x=>List.take_of_length_le (by simp)
  obtain ⟨r,g1,g2,g3⟩:=got_S ns s
  have hnext:=fun ns lo tr hlo=>fn_next (h.set h1 h2 (.map (entS ns))) hc s lo tr hlo (by simpa using fun k=>hset k ns)
  have hnx:nextP ((findC l s).getD noC)=nx l s:=rfl
  have hms:=hmet.add hs
  have hin:=hw s hs
  rw [hnx] at hnext
  have hnl:(nx l s).length≤11:=by
   unfold nx nextP
   cases hf:findC l s with
   | none=>decide
   | some c =>
    have:=(hc c (find_mem hf).1).ifaces
    by_cases hz:superL c=⟨#[]⟩<;>simp [hz]<;>omega
  have L:∀ (tr':Nat) (k:AExit→St→Option (V × List Ob)) (acc:List ByteArray),Met l acc→l.length < n+acc.length→K fns ⟨lo,tr'⟩ f71_l0 ⟨[(0,vptr T),(2,.c (.b (.map m))),(12,.c (.osl 1 (rows (nx l s)))),(13,vint (nx l s).length),(14,vint 0)],σ.set m (.map (entS acc))⟩ k=k (.exit 0) ⟨[],σ.set m (.map (entS ((nx l s).foldl (fun acc x=>if x ∈ acc then acc else dfs l n acc x) acc)))⟩:=fun tr' k acc ha1 ha2 =>
   scan_fold (l:=nx l s) (f:=fun acc x=>if x ∈ acc then acc else dfs l n acc x) (I:=fun _ c=>Met l c∧l.length < n+c.length)
    (X:=fun i c=>K fns ⟨lo,tr'⟩ f71_l0 ⟨[(0,vptr T),(2,.c (.b (.map m))),(12,.c (.osl 1 (rows (nx l s)))),(13,vint (nx l s).length),(14,vint i)],σ.set m (.map (entS c))⟩ k)
    (e:=fun c=>k (.exit 0) ⟨[],σ.set m (.map (entS c))⟩)
    (fun i c hi hI=>by
     have hw1:=wrap_succ (i:=i) (by omega)
     obtain ⟨r,g1,g2,g3⟩:=got_S c (nx l s)[i]
     have hy:(nx l s)[i] ∈ namesOf l:=hin _ (List.getElem_mem hi)
     refine ⟨?_,?_⟩
     ·show K fns _ f71_l0 _ k=_
      rw [u71_l0]
      by_cases hx:(nx l s)[i] ∈ c
      ·simp only [hx,decide_true] at g2
       simp [f71_b0,hi,hw1,hx,g1,g2,mapOf,keyShape,hm,hT,htk,hset0]
      ·simp only [hx,decide_false] at g2
       have hcall:=fun tr'=>ih c (nx l s)[i] lo tr' hI.1 hy (by simpa [hx] using hI.2) hlo
       simp [f71_b0,hi,hw1,hx,g1,g2,mapOf,keyShape,hm,hT,htk,hset0,hcall]
     ·by_cases hx:(nx l s)[i] ∈ c
      ·simpa [hx] using hI
      ·simp only [hx,if_false]
       obtain ⟨a,b,_⟩:=dfs_met hw n c _ hI.1 hy
       exact ⟨a,by have:=hI.2;omega⟩)
    (fun c hI=>by
     show K fns _ f71_l0 _ k=_
     rw [u71_l0];simp [f71_b0,hm,hT,htk,hset0])
    ⟨ha1,ha2⟩
  have hd:dfs l (n+1) ns s=(nx l s).foldl (fun acc x=>if x ∈ acc then acc else dfs l n acc x) (if s ∈ ns then ns else ns ++ [s]):=rfl
  rw [hd]
  rcases g3 with ⟨g4,g5⟩ | ⟨i,v,g4,g5,g6⟩
  ·simp only [g5,if_false] at hf hms ⊢
   have L1:=fun tr' k=>L tr' k (ns ++ [s]) hms (by simp;omega)
   have he:entS ns ++ [(vstr s,vbool true)]=entS (ns ++ [s]):=by simp [entS]
   subst g4
   simp [KF,params,f71,hm,hT,htk,hset0,mapOf,keyShape,g1,he,hnext,hlo,hls,L1]
  ·simp only [g5,if_true] at hf hms ⊢
   have L1:=fun tr' k=>L tr' k ns hms (by omega)
   subst g4
   simp [KF,params,f71,hm,hT,htk,hset0,mapOf,keyShape,g1,g6,hnext,hlo,hls,L1]
def ringP (l:List GClass) (s:ByteArray):Bool:=decide (s ∈ (nx l s).foldl (fun acc x=>if x ∈ acc then acc else dfs l 200 acc x) [])
theorem nx_len (hc:∀ c ∈ l,OkC c) (s:ByteArray):(nx l s).length≤11:=by
 unfold nx nextP
 cases hf:findC l s with
 | none=>decide
 | some c =>
  have:=(hc c (find_mem hf).1).ifaces
  by_cases hz:superL c=⟨#[]⟩<;>simp [hz]<;>omega
theorem fn_ring (h:TreeAt σ T A M own E names l) (hl:l.length≤100) (hc:∀ c ∈ l,OkC c) (hw:Whole l) (hσ:∀ k,σ.all (Ob.closed (σ.length+k))=true) (s:ByteArray) (hs:s ∈ namesOf l) (lo tr:Nat) (hlo:lo≤σ.length) :
  Fn fns 70 [vptr T,vstr s] σ lo tr=some (vbool (ringP l s),σ):=by
 rw [fn_eq t70 rfl rfl]
 have hT:=get_lt h.t
 have hA:=get_lt h.a
 have hm:max lo σ.length=σ.length:=by omega
 have hTk:∀ k,T < σ.length+k:=fun k=>by omega
 have hcall:∀ (ns:List ByteArray) (x:ByteArray) (tr':Nat),Met l ns→x ∈ namesOf l→Fn fns 71 [vptr T,vstr x,.c (.b (.map σ.length))] (σ ++ [Ob.map (entS ns)]) σ.length tr'=some (.tup [],σ ++ [Ob.map (entS (dfs l 200 ns x))]):=by
  intro ns x tr' hmet hx
  have hset:∀ y:Ob,(σ ++ [Ob.map []]).set σ.length y=σ ++ [y]:=fun y=>by rw [List.set_append_right _ _ (Nat.le_refl _)];simp
  have:=fn_climb (m:=σ.length) (h.app [Ob.map []]) (by omega) (by omega) (by simp) hl hc hw (fun k=>by
   have:=hσ (k+1)
   rw [List.all_append,List.length_append,List.length_singleton,Nat.add_assoc,Nat.add_comm 1 k,this];rfl) 200 ns x σ.length tr' hmet hx (by split<;>omega) (Nat.le_refl _)
  rwa [hset,hset] at this
 have hnext:=fun ns lo tr hlo=>fn_next (h.app [Ob.map (entS ns)]) hc s lo tr hlo (fun k=>by
   have:=hσ (k+1)
   rw [List.all_append,List.length_append,List.length_singleton,Nat.add_assoc,Nat.add_comm 1 k,this];simp only [Bool.true_and,List.all_cons,List.all_nil,Bool.and_true];exact entS_closed _ _)
 have hnx:nextP ((findC l s).getD noC)=nx l s:=rfl
 rw [hnx] at hnext
 have hnl:=nx_len (l:=l) hc s
 have hin:=hw s hs
 have htk:∀ x:Ob,List.take (σ.length+1) (σ ++ [x])=σ ++ [x]:=fun x=>List.take_of_length_le (by simp)
 have hcl:∀ ns,(σ ++ [Ob.map (entS ns)]).all (Ob.closed (σ.length+1))=true:=fun ns=>by
  rw [List.all_append,hσ 1];simp only [Bool.true_and,List.all_cons,List.all_nil,Bool.and_true];exact entS_closed _ _
 have L:∀ (tr':Nat) (k:AExit→St→Option (V × List Ob)),K fns ⟨σ.length,tr'⟩ f70_l0 ⟨[(0,vptr T),(1,vstr s),(5,.c (.b (.map σ.length))),(11,.c (.osl 1 (rows (nx l s)))),(12,vint (nx l s).length),(13,vint 0)],σ ++ [Ob.map (entS [])]⟩ k=k (.exit 0) ⟨[(1,vstr s),(5,.c (.b (.map σ.length)))],σ ++ [Ob.map (entS ((nx l s).foldl (fun acc x=>if x ∈ acc then acc else dfs l 200 acc x) []))]⟩:=fun tr' k =>
  scan_fold (l:=nx l s) (f:=fun acc x=>if x ∈ acc then acc else dfs l 200 acc x) (I:=fun _ c=>Met l c)
   (X:=fun i c=>K fns ⟨σ.length,tr'⟩ f70_l0 ⟨[(0,vptr T),(1,vstr s),(5,.c (.b (.map σ.length))),(11,.c (.osl 1 (rows (nx l s)))),(12,vint (nx l s).length),(13,vint i)],σ ++ [Ob.map (entS c)]⟩ k)
   (e:=fun c=>k (.exit 0) ⟨[(1,vstr s),(5,.c (.b (.map σ.length)))],σ ++ [Ob.map (entS c)]⟩)
   (fun i c hi hI=>by
    have hw1:=wrap_succ (i:=i) (by omega)
    obtain ⟨r,g1,g2,g3⟩:=got_S c (nx l s)[i]
    have hy:(nx l s)[i] ∈ namesOf l:=hin _ (List.getElem_mem hi)
    refine ⟨?_,?_⟩
    ·show K fns _ f70_l0 _ k=_
     rw [u70_l0]
     by_cases hx:(nx l s)[i] ∈ c
     ·simp only [hx,decide_true] at g2
      simp [f70_b0,List.getElem?_append_right,hi,hw1,hx,g1,g2,mapOf,keyShape,hTk,htk,hcl]
     ·simp only [hx,decide_false] at g2
      have hcall:=fun tr'=>hcall c (nx l s)[i] tr' hI hy
      simp [f70_b0,List.getElem?_append_right,hi,hw1,hx,g1,g2,mapOf,keyShape,hTk,htk,hcl,hcall]
    ·by_cases hx:(nx l s)[i] ∈ c
     ·simpa [hx] using hI
     ·simp only [hx,if_false]
      exact (dfs_met hw 200 c _ hI hy).1)
   (fun c hI=>by
    show K fns _ f70_l0 _ k=_
    rw [u70_l0];simp [f70_b0,List.getElem?_append_right,hTk,htk,hcl])
   ⟨by simp,by simp⟩
 unfold ringP
 generalize (nx l s).foldl (fun acc x=>if x ∈ acc then acc else dfs l 200 acc x) []=ns at L ⊢
 obtain ⟨r,g1,g2,g3⟩:=got_S ns s
 have hnext0:=fun lo tr hlo=>hnext [] lo tr hlo
 simp only [show entS []=[] from rfl] at L hnext0
 simp [KF,params,f70,List.getElem?_append_right,hm,mapOf,keyShape,hTk,hnext0,L,g1,g2]
end
end
end Go.Proofs.YteeofkbhopioiaaGreatDoor.Am
