/- Lemmas that the rows' proofs rest on; each states its own conditions. -/
import Derived.Test.YteeofkbhopioiaaGreatDoorFns
import Derived.Test.YteeofkbhopioiaaGreatDoorMachF
namespace Go.Proofs.YteeofkbhopioiaaGreatDoor.Am
set_option linter.unusedSimpArgs false
set_option linter.unusedVariables false
set_option linter.unusedSectionVars false
open Go
section
attribute [local simp ↓] K_seq K_cond K_block K_region K_skip K_exit K_ret K_wrap KA_nil KA_none KA_some str_eq
attribute [local simp] beq_int bne_int dec_eqN dec_ltN dec_leN stepOp St.rd St.raw St.set St.took get_cons V.down C.down Env.keep binV unV arith isShift strs intOf optInt wrapEnd keptAt andK endOf frzV frz1 frzC frzCs frz1s resOf resOne resAll V.closed V.closed1 C.closed B.closed Ob.closed V.cells partsIn rep chunk datas C.data rowsOf getCells put_nil put_zero put_succ mayWrite C.plain eqV_bool eqV_agg eqV_pnn eqV_pnp eqV_ppn eqV_mnn eqV_mmn eqV_snn eqV_sen eqV_san eqV_sdn rs_len rs_getE rs_app rs_take rs_drop rs_all rs_each row_len str_nilP str_nilE str_nilB vagg row_Int row_Bool row_Str k_Int k_Bool k_Str snoc_Int snoc_Bool snoc_Str row_Type k_Type snoc_Type eta_Type sames_Type row_Field k_Field snoc_Field eta_Field sames_Field row_Instr k_Instr snoc_Instr eta_Instr sames_Instr row_Catch k_Catch snoc_Catch eta_Catch sames_Catch row_Method k_Method snoc_Method row_Class k_Class snoc_Class row_Program k_Program snoc_Program row_Slot k_Slot snoc_Slot eta_Slot sames_Slot row_Way k_Way snoc_Way eta_Way sames_Way
structure OkM (m:GMethod):Prop where
 name:m.name.size≤60
 params:m.params.length≤10
 code:m.code.length≤60
 catches:m.catches.length≤10
 ret:m.ret.name.size≤60
 ps:∀ t ∈ m.params,t.name.size≤60
 is:∀ x ∈ m.code,x.a.size≤60∧x.b.size≤60
 cs:∀ c ∈ m.catches,c.name.size≤60
structure OkC (c:GClass):Prop where
 name:c.name.size≤60
 super:c.super.size≤60
 ifaces:c.ifaces.length≤10
 fields:c.fields.length≤14
 methods:c.methods.length≤14
 fs:∀ f ∈ c.fields,f.name.size≤60∧f.type_.name.size≤60
 is:∀ s ∈ c.ifaces,s.size≤60
 ms:∀ m ∈ c.methods,OkM m
structure OkP (p:GProgram):Prop where
 len:p.classes.length≤30
 cs:∀ c ∈ p.classes,OkC c
def bigF (f:GField):Bool:=decide (60 < f.name.size) || decide (60 < f.type_.name.size)
def bigS (s:ByteArray):Bool:=decide (60 < s.size)
def bigI (x:GInstr):Bool:=decide (60 < x.a.size) || decide (60 < x.b.size)
def bigT (t:GType):Bool:=decide (60 < t.name.size)
def bigK (c:GCatch):Bool:=decide (60 < c.name.size)
def bigM (m:GMethod):Bool:=decide (60 < m.name.size) || decide (10 < m.params.length) || decide (60 < m.code.length) || decide (10 < m.catches.length) || decide (60 < m.ret.name.size) || m.code.any bigI || m.params.any bigT || m.catches.any bigK
def bigC (c:GClass):Bool:=decide (14 < c.fields.length) || decide (14 < c.methods.length) || decide (10 < c.ifaces.length) || decide (60 < c.name.size) || decide (60 < c.super.size) || c.fields.any bigF || c.ifaces.any bigS || c.methods.any bigM
def heavy (p:GProgram):Bool:=decide (14 < p.classes.length) || p.classes.any bigC
theorem okM {m:GMethod} (h:bigM m=false):OkM m:=by
 simp only [bigM,Bool.or_eq_false_iff,decide_eq_false_iff_not,List.any_eq_false,bigI,bigT,bigK,Bool.or_eq_true,decide_eq_true_eq,not_or] at h
 obtain ⟨⟨⟨⟨⟨⟨⟨a,b⟩,c⟩,d⟩,e⟩,f⟩,g⟩,i⟩:=h
 exact ⟨by omega,by omega,by omega,by omega,by omega,fun t ht=>by have:=g t ht;omega,fun t ht=>by have:=f t ht;omega,fun t ht=>by have:=i t ht;omega⟩
theorem okC {c:GClass} (h:bigC c=false):OkC c:=by
 simp only [bigC,Bool.or_eq_false_iff,decide_eq_false_iff_not,List.any_eq_false,bigF,bigS,Bool.or_eq_true,decide_eq_true_eq,not_or] at h
 obtain ⟨⟨⟨⟨⟨⟨⟨a,b⟩,c⟩,d⟩,e⟩,f⟩,g⟩,i⟩:=h
 exact ⟨by omega,by omega,by omega,by omega,by omega,fun t ht=>by have:=f t ht;omega,fun t ht=>by have:=g t ht;omega,fun t ht=>okM (by simpa using i t ht)⟩
theorem okP {p:GProgram} (h:heavy p=false):OkP p:=by
 simp only [heavy,Bool.or_eq_false_iff,decide_eq_false_iff_not,List.any_eq_false] at h
 exact ⟨by omega,fun c hc=>okC (by simpa using h.2 c hc)⟩
abbrev cP (p:GProgram):Ob:=.cells [.b (.d (.sl (rows p.classes)))]
abbrev cC (x:GClass):Ob:=.cells [.b (.d (.str x.name)),.b (.d (.bool x.iface)),.b (.d (.str x.super)),.b (.d (.sl (rows x.ifaces))),.b (.d (.sl (rows x.fields))),.b (.d (.sl (rows x.methods)))]
abbrev cM (x:GMethod):Ob:=.cells [.b (.d (.str x.name)),.b (.d (.bool x.static_)),.b (.d (.bool x.abstract_)),.b (.d (.sl (rows x.params))),.b (.d (.int .i64 x.ret.kind)),.b (.d (.str x.ret.name)),.b (.d (.int .i64 x.locals)),.b (.d (.sl (rows x.code))),.b (.d (.sl (rows x.catches)))]
abbrev vptr (l:Nat):V:=.c (.b (.ptr l 0))
section
variable (k:AExit→St→Option (V × List Ob)) (n3 n7:Int) (p:GProgram) (c:GClass) (m:GMethod)
theorem h9_0 (hl:c.fields.length < 1000000):K fns ⟨0,0⟩ f9_l0 ⟨[(1,vptr 0),(3,vint n3),(4,vptr 1),(5,vint 0)],[cP p,cC c]⟩ k =
  if c.fields.any bigF then k .ret ⟨[(2,vbool true)],[cP p,cC c]⟩ else k (.exit 2) ⟨[(1,vptr 0),(3,vint n3),(4,vptr 1)],[cP p,cC c]⟩ :=
 scan_any (l:=c.fields) (p:=bigF) (X:=fun i=>K fns ⟨0,0⟩ f9_l0 ⟨[(1,vptr 0),(3,vint n3),(4,vptr 1),(5,vint i)],[cP p,cC c]⟩ k)
  (fun i hi=>by
   have hw:=wrap_succ (i:=i) (by omega)
   show K fns _ f9_l0 _ k=_
   rw [u9_l0]
   by_cases d0:60 < c.fields[i].name.size
   ·have d0':(60:Int) < c.fields[i].name.size:=by omega
    simp [f9_b0,hi,bigF,d0,d0']
   have d0':¬ (60:Int) < c.fields[i].name.size:=by omega
   by_cases d1:60 < c.fields[i].type_.name.size
   ·have d1':(60:Int) < c.fields[i].type_.name.size:=by omega
    simp [f9_b0,hi,bigF,d0,d0',d1,d1']
   have d1':¬ (60:Int) < c.fields[i].type_.name.size:=by omega
   simp [f9_b0,hi,hw,bigF,d0,d0',d1,d1'])
  (by show K fns _ f9_l0 _ k=_;rw [u9_l0];simp [f9_b0])
theorem h9_1 (hl:c.ifaces.length < 1000000):K fns ⟨0,0⟩ f9_l1 ⟨[(1,vptr 0),(3,vint n3),(4,vptr 1),(6,vint 0)],[cP p,cC c]⟩ k =
  if c.ifaces.any bigS then k .ret ⟨[(2,vbool true)],[cP p,cC c]⟩ else k (.exit 4) ⟨[(1,vptr 0),(3,vint n3),(4,vptr 1)],[cP p,cC c]⟩ :=
 scan_any (l:=c.ifaces) (p:=bigS) (X:=fun i=>K fns ⟨0,0⟩ f9_l1 ⟨[(1,vptr 0),(3,vint n3),(4,vptr 1),(6,vint i)],[cP p,cC c]⟩ k)
  (fun i hi=>by
   have hw:=wrap_succ (i:=i) (by omega)
   show K fns _ f9_l1 _ k=_
   rw [u9_l1]
   by_cases d0:60 < c.ifaces[i].size
   ·have d0':(60:Int) < c.ifaces[i].size:=by omega
    simp [f9_b1,hi,bigS,d0,d0']
   have d0':¬ (60:Int) < c.ifaces[i].size:=by omega
   simp [f9_b1,hi,hw,bigS,d0,d0'])
  (by show K fns _ f9_l1 _ k=_;rw [u9_l1];simp [f9_b1])
theorem h9_2 (hl:m.code.length < 1000000):K fns ⟨0,0⟩ f9_l2 ⟨[(1,vptr 0),(3,vint n3),(4,vptr 1),(7,vint n7),(8,vptr 2),(9,vint 0)],[cP p,cC c,cM m]⟩ k =
  if m.code.any bigI then k .ret ⟨[(2,vbool true)],[cP p,cC c,cM m]⟩ else k (.exit 8) ⟨[(1,vptr 0),(3,vint n3),(4,vptr 1),(7,vint n7),(8,vptr 2)],[cP p,cC c,cM m]⟩ :=
 scan_any (l:=m.code) (p:=bigI) (X:=fun i=>K fns ⟨0,0⟩ f9_l2 ⟨[(1,vptr 0),(3,vint n3),(4,vptr 1),(7,vint n7),(8,vptr 2),(9,vint i)],[cP p,cC c,cM m]⟩ k)
  (fun i hi=>by
   have hw:=wrap_succ (i:=i) (by omega)
   show K fns _ f9_l2 _ k=_
   rw [u9_l2]
   by_cases d0:60 < m.code[i].a.size
   ·have d0':(60:Int) < m.code[i].a.size:=by omega
    simp [f9_b2,hi,bigI,d0,d0']
   have d0':¬ (60:Int) < m.code[i].a.size:=by omega
   by_cases d1:60 < m.code[i].b.size
   ·have d1':(60:Int) < m.code[i].b.size:=by omega
    simp [f9_b2,hi,bigI,d0,d0',d1,d1']
   have d1':¬ (60:Int) < m.code[i].b.size:=by omega
   simp [f9_b2,hi,hw,bigI,d0,d0',d1,d1'])
  (by show K fns _ f9_l2 _ k=_;rw [u9_l2];simp [f9_b2])
theorem h9_3 (hl:m.params.length < 1000000):K fns ⟨0,0⟩ f9_l3 ⟨[(1,vptr 0),(3,vint n3),(4,vptr 1),(7,vint n7),(8,vptr 2),(10,vint 0)],[cP p,cC c,cM m]⟩ k =
  if m.params.any bigT then k .ret ⟨[(2,vbool true)],[cP p,cC c,cM m]⟩ else k (.exit 10) ⟨[(1,vptr 0),(3,vint n3),(4,vptr 1),(7,vint n7),(8,vptr 2)],[cP p,cC c,cM m]⟩ :=
 scan_any (l:=m.params) (p:=bigT) (X:=fun i=>K fns ⟨0,0⟩ f9_l3 ⟨[(1,vptr 0),(3,vint n3),(4,vptr 1),(7,vint n7),(8,vptr 2),(10,vint i)],[cP p,cC c,cM m]⟩ k)
  (fun i hi=>by
   have hw:=wrap_succ (i:=i) (by omega)
   show K fns _ f9_l3 _ k=_
   rw [u9_l3]
   by_cases d0:60 < m.params[i].name.size
   ·have d0':(60:Int) < m.params[i].name.size:=by omega
    simp [f9_b3,hi,bigT,d0,d0']
   have d0':¬ (60:Int) < m.params[i].name.size:=by omega
   simp [f9_b3,hi,hw,bigT,d0,d0'])
  (by show K fns _ f9_l3 _ k=_;rw [u9_l3];simp [f9_b3])
theorem h9_4 (hl:m.catches.length < 1000000):K fns ⟨0,0⟩ f9_l4 ⟨[(1,vptr 0),(3,vint n3),(4,vptr 1),(7,vint n7),(8,vptr 2),(11,vint 0)],[cP p,cC c,cM m]⟩ k =
  if m.catches.any bigK then k .ret ⟨[(2,vbool true)],[cP p,cC c,cM m]⟩ else k (.exit 12) ⟨[(1,vptr 0),(3,vint n3),(4,vptr 1),(7,vint n7)],[cP p,cC c,cM m]⟩ :=
 scan_any (l:=m.catches) (p:=bigK) (X:=fun i=>K fns ⟨0,0⟩ f9_l4 ⟨[(1,vptr 0),(3,vint n3),(4,vptr 1),(7,vint n7),(8,vptr 2),(11,vint i)],[cP p,cC c,cM m]⟩ k)
  (fun i hi=>by
   have hw:=wrap_succ (i:=i) (by omega)
   show K fns _ f9_l4 _ k=_
   rw [u9_l4]
   by_cases d0:60 < m.catches[i].name.size
   ·have d0':(60:Int) < m.catches[i].name.size:=by omega
    simp [f9_b4,hi,bigK,d0,d0']
   have d0':¬ (60:Int) < m.catches[i].name.size:=by omega
   simp [f9_b4,hi,hw,bigK,d0,d0'])
  (by show K fns _ f9_l4 _ k=_;rw [u9_l4];simp [f9_b4])
theorem h9_5 (hl:c.methods.length < 1000000):K fns ⟨0,0⟩ f9_l5 ⟨[(1,vptr 0),(3,vint n3),(4,vptr 1),(7,vint 0)],[cP p,cC c]⟩ k =
  if c.methods.any bigM then k .ret ⟨[(2,vbool true)],[cP p,cC c]⟩ else k (.exit 6) ⟨[(1,vptr 0),(3,vint n3)],[cP p,cC c]⟩ :=
 scan_any (l:=c.methods) (p:=bigM) (X:=fun i=>K fns ⟨0,0⟩ f9_l5 ⟨[(1,vptr 0),(3,vint n3),(4,vptr 1),(7,vint i)],[cP p,cC c]⟩ k)
  (fun i hi=>by
   have hw:=wrap_succ (i:=i) (by omega)
   show K fns _ f9_l5 _ k=_
   rw [u9_l5]
   generalize hm:c.methods[i]=m
   by_cases d0:60 < m.name.size
   ·have d0':(60:Int) < m.name.size:=by omega
    simp [f9_b5,hi,hm,bigM,d0,d0']
   have d0':¬ (60:Int) < m.name.size:=by omega
   by_cases d1:10 < m.params.length
   ·have d1':(10:Int) < m.params.length:=by omega
    simp [f9_b5,hi,hm,bigM,d0,d0',d1,d1']
   have d1':¬ (10:Int) < m.params.length:=by omega
   by_cases d2:60 < m.code.length
   ·have d2':(60:Int) < m.code.length:=by omega
    simp [f9_b5,hi,hm,bigM,d0,d0',d1,d1',d2,d2']
   have d2':¬ (60:Int) < m.code.length:=by omega
   by_cases d3:10 < m.catches.length
   ·have d3':(10:Int) < m.catches.length:=by omega
    simp [f9_b5,hi,hm,bigM,d0,d0',d1,d1',d2,d2',d3,d3']
   have d3':¬ (10:Int) < m.catches.length:=by omega
   by_cases d4:60 < m.ret.name.size
   ·have d4':(60:Int) < m.ret.name.size:=by omega
    simp [f9_b5,hi,hm,bigM,d0,d0',d1,d1',d2,d2',d3,d3',d4,d4']
   have d4':¬ (60:Int) < m.ret.name.size:=by omega
   have hp:bigM m=(m.code.any bigI || m.params.any bigT || m.catches.any bigK):=by simp [bigM,d0,d1,d2,d3,d4]
   rw [hp]
   have L2:=fun k=>h9_2 k n3 i p c m (by omega)
   have L3:=fun k=>h9_3 k n3 i p c m (by omega)
   have L4:=fun k=>h9_4 k n3 i p c m (by omega)
   cases b2:m.code.any bigI
   case true=>simp [f9_b5,hi,hm,d0',d1',d2',d3',d4',L2,b2]
   cases b3:m.params.any bigT
   case true=>simp [f9_b5,hi,hm,d0',d1',d2',d3',d4',L2,b2,L3,b3]
   cases b4:m.catches.any bigK
   case true=>simp [f9_b5,hi,hm,d0',d1',d2',d3',d4',L2,b2,L3,b3,L4,b4]
   simp [f9_b5,hi,hm,hw,d0',d1',d2',d3',d4',L2,b2,L3,b3,L4,b4])
  (by show K fns _ f9_l5 _ k=_;rw [u9_l5];simp [f9_b5])
theorem h9_6 (hl:p.classes.length < 1000000):K fns ⟨0,0⟩ f9_l6 ⟨[(1,vptr 0),(3,vint 0)],[cP p]⟩ k =
  if p.classes.any bigC then k .ret ⟨[(2,vbool true)],[cP p]⟩ else k (.exit 0) ⟨[],[cP p]⟩ :=
 scan_any (l:=p.classes) (p:=bigC) (X:=fun i=>K fns ⟨0,0⟩ f9_l6 ⟨[(1,vptr 0),(3,vint i)],[cP p]⟩ k)
  (fun i hi=>by
   have hw:=wrap_succ (i:=i) (by omega)
   show K fns _ f9_l6 _ k=_
   rw [u9_l6]
   generalize hm:p.classes[i]=c
   by_cases d0:14 < c.fields.length
   ·have d0':(14:Int) < c.fields.length:=by omega
    simp [f9_b6,hi,hm,bigC,d0,d0']
   have d0':¬ (14:Int) < c.fields.length:=by omega
   by_cases d1:14 < c.methods.length
   ·have d1':(14:Int) < c.methods.length:=by omega
    simp [f9_b6,hi,hm,bigC,d0,d0',d1,d1']
   have d1':¬ (14:Int) < c.methods.length:=by omega
   by_cases d2:10 < c.ifaces.length
   ·have d2':(10:Int) < c.ifaces.length:=by omega
    simp [f9_b6,hi,hm,bigC,d0,d0',d1,d1',d2,d2']
   have d2':¬ (10:Int) < c.ifaces.length:=by omega
   by_cases d3:60 < c.name.size
   ·have d3':(60:Int) < c.name.size:=by omega
    simp [f9_b6,hi,hm,bigC,d0,d0',d1,d1',d2,d2',d3,d3']
   have d3':¬ (60:Int) < c.name.size:=by omega
   by_cases d4:60 < c.super.size
   ·have d4':(60:Int) < c.super.size:=by omega
    simp [f9_b6,hi,hm,bigC,d0,d0',d1,d1',d2,d2',d3,d3',d4,d4']
   have d4':¬ (60:Int) < c.super.size:=by omega
   have hp:bigC c=(c.fields.any bigF || c.ifaces.any bigS || c.methods.any bigM):=by simp [bigC,d0,d1,d2,d3,d4]
   rw [hp]
   have L2:=fun k=>h9_0 k i p c (by omega)
   have L3:=fun k=>h9_1 k i p c (by omega)
   have L4:=fun k=>h9_5 k i p c (by omega)
   cases b2:c.fields.any bigF
   case true=>simp [f9_b6,hi,hm,d0',d1',d2',d3',d4',L2,b2]
   cases b3:c.ifaces.any bigS
   case true=>simp [f9_b6,hi,hm,d0',d1',d2',d3',d4',L2,b2,L3,b3]
   cases b4:c.methods.any bigM
   case true=>simp [f9_b6,hi,hm,d0',d1',d2',d3',d4',L2,b2,L3,b3,L4,b4]
   simp [f9_b6,hi,hm,hw,d0',d1',d2',d3',d4',L2,b2,L3,b3,L4,b4])
  (by show K fns _ f9_l6 _ k=_;rw [u9_l6];simp [f9_b6])
end
theorem fn_heavy (p:GProgram) (σ:List Ob) (lo tr:Nat):Fn fns 9 [vProgram p] σ lo tr=some (vbool (heavy p),σ):=by
 refine fn_gen t9 rfl (σ1:=[]) rfl rfl ?_ σ lo tr
 by_cases c1:14 < p.classes.length
 ·have c1':(14:Int) < p.classes.length:=by omega
  simp [KF,params,f9,heavy,c1,c1']
 have c1':¬ (14:Int) < p.classes.length:=by omega
 have L:=fun k=>h9_6 k p (by omega)
 have hc:heavy p=p.classes.any bigC:=by simp [heavy,c1]
 rw [hc]
 cases hb:p.classes.any bigC<;>simp [KF,params,f9,c1',L,hb]
abbrev sObject:ByteArray:=⟨#[79,98,106,101,99,116]⟩
abbrev sError:ByteArray:=⟨#[69,114,114,111,114]⟩
abbrev sNullError:ByteArray:=⟨#[78,117,108,108,69,114,114,111,114]⟩
abbrev sRangeError:ByteArray:=⟨#[82,97,110,103,101,69,114,114,111,114]⟩
abbrev sCastError:ByteArray:=⟨#[67,97,115,116,69,114,114,111,114]⟩
abbrev sNumError:ByteArray:=⟨#[78,117,109,69,114,114,111,114]⟩
abbrev sSizeError:ByteArray:=⟨#[83,105,122,101,69,114,114,111,114]⟩
abbrev sDepthError:ByteArray:=⟨#[68,101,112,116,104,69,114,114,111,114]⟩
abbrev cls (n s:ByteArray):GClass:=⟨n,false,s,[],[],[]⟩
def baseL:List GClass:=[cls sObject ⟨#[]⟩,cls sError sObject,cls sNullError sError,cls sRangeError sError,cls sCastError sError,cls sNumError sError,cls sSizeError sError,cls sDepthError sError]
theorem base_run:evf fns 40 40 [] [] 0 0=some (.c (.osl 6 (rows baseL)),[]):=by kernel_rfl
theorem fn_base (σ:List Ob) (lo tr:Nat):Fn fns 40 [] σ lo tr=some (.c (.osl 6 (rows baseL)),σ):=fn_run t40 rfl rfl base_run σ lo tr
theorem always_run:evf fns 200 66 [] [] 0 0=some (.c (.osl 6 (rows baseL)),[]):=by kernel_rfl
theorem fn_always (σ:List Ob) (lo tr:Nat):Fn fns 66 [] σ lo tr=some (.c (.osl 6 (rows baseL)),σ):=fn_run t66 rfl rfl always_run σ lo tr
theorem fn_twinTypes (l:List GType) (hs:l.length≤1000000) (σ:List Ob) (lo tr:Nat):Fn fns 101 [vsl l] σ lo tr=some (.c (.osl 2 (rows l)),σ):=by
 refine fn_gen t101 rfl (σ1:=[]) rfl rfl ?_ σ lo tr
 have h5:l.length≤70368744177664:=by omega
 have h6:l.length * 24≤70368744177664:=by omega
 simp [KF,params,f101,h5,h6]
theorem fn_cloneS (l:List ByteArray) (hs:l.length≤1000000) (σ:List Ob) (lo tr:Nat):Fn fns 111 [vsl l] σ lo tr=some (.c (.osl 1 (rows l)),σ):=by
 cases l with
 | nil=>exact fn_split t111 rfl rfl (v:=.c (.osl 1 [])) (σ1:=[]) (σ2:=[]) (by simp [KF,params,f111]) (by simp [KF,params,f111,rs_nil]) rfl σ lo tr
 | cons v l =>
  have h5:l.length+1≤70368744177664:=by simp at hs;omega
  have h6:(l.length+1) * 16≤70368744177664:=by simp at hs;omega
  refine fn_gen t111 rfl (σ1:=[]) rfl rfl ?_ σ lo tr
  have hr:rows (v :: l)=Rec.row v :: rows l:=rfl
  simp [KF,params,f111,hr,h5,h6]
theorem fn_twinMethod (m:GMethod) (h:OkM m) (σ:List Ob) (lo tr:Nat):Fn fns 80 [vMethod m] σ lo tr=some (vMethod m,σ):=by
 refine fn_gen t80 rfl (σ1:=[]) rfl rfl ?_ σ lo tr
 have a:=h.code
 have b:=h.catches
 have h1:=fn_twinTypes m.params (by have:=h.params;omega)
 have q1:m.code.length≤70368744177664:=by omega
 have q2:m.code.length * 48≤70368744177664:=by omega
 have q3:m.catches.length≤70368744177664:=by omega
 have q4:m.catches.length * 40≤70368744177664:=by omega
 simp [KF,params,f80,h1,q1,q2,q3,q4]
abbrev cQ (x:GClass):Ob:=.cells [.b (.d (.str x.name)),.b (.d (.bool x.iface)),.b (.d (.str x.super)),.osl 1 (rows x.ifaces),.osl 4 (rows x.fields),.b (.d (.sl (rows x.methods)))]
abbrev z6:Ob:=.cells [.b (.d (.str ⟨#[]⟩)),.b (.d (.bool false)),.b (.d (.str ⟨#[]⟩)),.osl 1 [],.osl 4 [],.osl 9 []]
theorem fn_twinClass (c:GClass) (h:OkC c) (σ:List Ob) (lo tr:Nat):Fn fns 79 [vClass c] σ lo tr=some (vClass c,σ):=by
 refine fn_gen t79 rfl (σ1:=[]) rfl rfl ?_ σ lo tr
 have a:=h.ifaces
 have b:=h.fields
 have d:=h.methods
 have q1:c.ifaces.length≤70368744177664:=by omega
 have q2:c.ifaces.length * 16≤70368744177664:=by omega
 have q3:c.fields.length≤70368744177664:=by omega
 have q4:c.fields.length * 48≤70368744177664:=by omega
 have L:∀ (k:AExit→St→Option (V × List Ob)),K fns ⟨0,0⟩ f79_l0 ⟨[(1,vptr 0),(2,vptr 1),(5,.c (.osl 9 [])),(6,vint 0)],[cQ c,z6]⟩ k=k (.exit 0) ⟨[(1,vptr 0),(2,vptr 1),(5,.c (.osl 9 (rows c.methods)))],[cQ c,z6]⟩:=fun k=>by
  have:=scan_map (l:=c.methods) (f:=fun o=>o) (X:=fun i x=>K fns ⟨0,0⟩ f79_l0 ⟨[(1,vptr 0),(2,vptr 1),(5,.c (.osl 9 (rows x))),(6,vint i)],[cQ c,z6]⟩ k) (e:=fun x=>k (.exit 0) ⟨[(1,vptr 0),(2,vptr 1),(5,.c (.osl 9 (rows x)))],[cQ c,z6]⟩)
   (fun i x hi hc=>by
    have hw:=wrap_succ (i:=i) (by omega)
    have hf:=fn_twinMethod (c.methods[i]) (h.ms _ (List.getElem_mem hi))
    have hcl:x.length=i:=by rw [hc];simp;omega
    have q1:x.length+1≤70368744177664:=by omega
    have q2:(x.length+1) * 128≤70368744177664:=by omega
    show K fns _ f79_l0 _ k=_
    rw [u79_l0]
    simp [f79_b0,hi,hw,hf,q1,q2])
   (fun x hc=>by
    show K fns _ f79_l0 _ k=_
    rw [u79_l0]
    simp [f79_b0])
  simpa [rs_nil] using this
 simp [KF,params,f79,L,q1,q2,q3,q4]
theorem fn_twinProgram (p:GProgram) (h:OkP p) (σ:List Ob) (lo tr:Nat):Fn fns 60 [vProgram p] σ lo tr=some (vProgram p,σ):=by
 refine fn_gen t60 rfl (σ1:=[]) rfl rfl ?_ σ lo tr
 have d:=h.len
 have L:∀ (k:AExit→St→Option (V × List Ob)),K fns ⟨0,0⟩ f60_l0 ⟨[(1,vptr 0),(2,vptr 1),(3,vptr 2),(4,vint 0)],[cP p,.cells [.osl 6 []],.cells [.osl 6 []]]⟩ k=k (.exit 0) ⟨[(2,vptr 1),(3,vptr 2)],[cP p,.cells [.osl 6 []],.cells [.osl 6 (rows p.classes)]]⟩:=fun k=>by
  have:=scan_map (l:=p.classes) (f:=fun o=>o) (X:=fun i x=>K fns ⟨0,0⟩ f60_l0 ⟨[(1,vptr 0),(2,vptr 1),(3,vptr 2),(4,vint i)],[cP p,.cells [.osl 6 []],.cells [.osl 6 (rows x)]]⟩ k) (e:=fun x=>k (.exit 0) ⟨[(2,vptr 1),(3,vptr 2)],[cP p,.cells [.osl 6 []],.cells [.osl 6 (rows x)]]⟩)
   (fun i x hi hc=>by
    have hw:=wrap_succ (i:=i) (by omega)
    have hf:=fn_twinClass (p.classes[i]) (h.cs _ (List.getElem_mem hi))
    have hcl:x.length=i:=by rw [hc];simp;omega
    have q1:x.length+1≤70368744177664:=by omega
    have q2:(x.length+1) * 112≤70368744177664:=by omega
    show K fns _ f60_l0 _ k=_
    rw [u60_l0]
    simp [f60_b0,hi,hw,q1,q2,hf])
   (fun x hc=>by
    show K fns _ f60_l0 _ k=_
    rw [u60_l0]
    simp [f60_b0])
  simpa [rs_nil] using this
 simp [KF,params,f60,L]
def allL (p:GProgram):List GClass:=baseL ++ p.classes
theorem fn_refAll (p:GProgram) (h:OkP p) (σ:List Ob) (lo tr:Nat):Fn fns 39 [vProgram p] σ lo tr=some (.c (.osl 6 (rows (allL p))),σ):=by
 refine fn_gen t39 rfl (σ1:=[]) rfl rfl ?_ σ lo tr
 have d:=h.len
 have hb:baseL.length=8:=rfl
 have q1:8+p.classes.length≤70368744177664:=by omega
 have q2:(8+p.classes.length) * 112≤70368744177664:=by omega
 simp [KF,params,f39,fn_base,fn_twinProgram p h,q1,q2,hb,allL]
theorem all_len {p:GProgram} (h:OkP p):(allL p).length≤100:=by
 have:=h.len
 have hb:baseL.length=8:=rfl
 simp [allL,hb];omega
def isB (b:Bool):Option (V × List Ob)→Bool
 | some (.c (.b (.d (.bool c))),[])=>c == b
 | _=>false
theorem isB_eq {b:Bool} {x:Option (V × List Ob)} (h:isB b x=true):x=some (vbool b,[]):=by
 unfold isB at h
 split at h
 ·simp at h;subst h;rfl
 ·cases h
def letterN (n:Nat):Bool:=(Nat.ble 97 n && Nat.ble n 122) || (Nat.ble 65 n && Nat.ble n 90) || Nat.beq n 95
def digitN (n:Nat):Bool:=Nat.ble 48 n && Nat.ble n 57
def okN (b:UInt8):Bool:=letterN b.toNat || digitN b.toNat
theorem refLetter_run:(List.range 256).all (fun n=>isB (letterN n) (evf fns 20 126 [.c (.b (.d (.int .u8 n)))] [] 0 0))=true:=by kernel_rfl
theorem fn_refLetter (b:UInt8) (σ:List Ob) (lo tr:Nat):Fn fns 126 [.c (.b (.d (.int .u8 b.toNat)))] σ lo tr=some (vbool (letterN b.toNat),σ) :=
 fn_run t126 rfl rfl (isB_eq (List.all_eq_true.mp refLetter_run b.toNat (List.mem_range.mpr (by have:=b.toNat_lt;omega)))) σ lo tr
theorem refDigit_run:(List.range 256).all (fun n=>isB (digitN n) (evf fns 20 127 [.c (.b (.d (.int .u8 n)))] [] 0 0))=true:=by kernel_rfl
theorem fn_refDigit (b:UInt8) (σ:List Ob) (lo tr:Nat):Fn fns 127 [.c (.b (.d (.int .u8 b.toNat)))] σ lo tr=some (vbool (digitN b.toNat),σ) :=
 fn_run t127 rfl rfl (isB_eq (List.all_eq_true.mp refDigit_run b.toNat (List.mem_range.mpr (by have:=b.toNat_lt;omega)))) σ lo tr
theorem letter_run:(List.range 256).all (fun n=>isB (letterN n) (evf fns 20 155 [.c (.b (.d (.int .u8 n)))] [] 0 0))=true:=by kernel_rfl
theorem fn_letter (b:UInt8) (σ:List Ob) (lo tr:Nat):Fn fns 155 [.c (.b (.d (.int .u8 b.toNat)))] σ lo tr=some (vbool (letterN b.toNat),σ) :=
 fn_run t155 rfl rfl (isB_eq (List.all_eq_true.mp letter_run b.toNat (List.mem_range.mpr (by have:=b.toNat_lt;omega)))) σ lo tr
theorem digit_run:(List.range 256).all (fun n=>isB (digitN n) (evf fns 20 156 [.c (.b (.d (.int .u8 n)))] [] 0 0))=true:=by kernel_rfl
theorem fn_digit (b:UInt8) (σ:List Ob) (lo tr:Nat):Fn fns 156 [.c (.b (.d (.int .u8 b.toNat)))] σ lo tr=some (vbool (digitN b.toNat),σ) :=
 fn_run t156 rfl rfl (isB_eq (List.all_eq_true.mp digit_run b.toNat (List.mem_range.mpr (by have:=b.toNat_lt;omega)))) σ lo tr
abbrev byL (s:ByteArray):List UInt8:=s.data.toList
theorem by_len (s:ByteArray):(byL s).length=s.size:=rfl
theorem by_get {s:ByteArray} {i:Nat} (h:i < s.size):s[i]?=some ((byL s)[i]'(by rw [by_len];exact h)):=by
 rw [getElem?_pos s i h];rfl
theorem by_getE {s:ByteArray} {i:Nat} (h:i < s.size):s[i]=(byL s)[i]'(by rw [by_len];exact h):=rfl
theorem by_nil (s:ByteArray):s=⟨#[]⟩↔s.size=0:=by
 constructor
 ·rintro rfl;rfl
 ·intro h
  cases s with
  | mk d =>
   have:d = #[]:=Array.eq_empty_of_size_eq_zero h
   subst this;rfl
def nameB (s:ByteArray):Bool:=match byL s with
 | []=>false
 | b :: t=>decide (t.length < 20) && (letterN b.toNat && t.all okN)
theorem scan_find {α β:Type} {l:List α} {p:α→Bool} {X:Nat→β} {r:Nat→β} {e:β} (h:∀ i (hi:i < l.length),X i=if p l[i] then r i else X (i+1)) (he:X l.length=e):X 0=match l.findIdx? p with | some i=>r i | none=>e:=by
 have key:∀ n i,i+n=l.length→X i=match (l.drop i).findIdx? p with | some j=>r (i+j) | none=>e:=by
  intro n
  induction n with
  | zero =>
   intro i hi
   have:l.drop i=[]:=List.drop_eq_nil_iff.mpr (by omega)
   rw [this]
   have:i=l.length:=by omega
   subst this;exact he
  | succ n ih =>
   intro i hi
   have hi':i < l.length:=by omega
   rw [h i hi',List.drop_eq_getElem_cons hi',List.findIdx?_cons]
   cases hp:p l[i]
   ·simp only [Bool.false_eq_true,if_false]
    rw [ih (i+1) (by omega)]
    cases hq:(l.drop (i+1)).findIdx? p with
    | none=>simp
    | some j=>simp;congr 1;omega
   ·simp
 have:=key l.length 0 (by omega)
 simpa using this
def idxI {α:Type} (p:α→Bool) (l:List α):Int:=match l.findIdx? p with
 | some i=>(i:Int)
 | none=>-1
theorem idxI_ge {α:Type} (p:α→Bool) (l:List α):decide (0≤idxI p l)=l.any p:=by
 unfold idxI
 cases h:l.findIdx? p with
 | none =>
  have:l.any p=false:=by
   rw [List.findIdx?_eq_none_iff] at h
   rw [List.any_eq_false]
   intro x hx;simp [h x hx]
  rw [this];rfl
 | some i =>
  have:l.any p=true:=by
   rw [List.findIdx?_eq_some_iff_getElem] at h
   obtain ⟨h1,h2,_⟩:=h
   exact List.any_eq_true.mpr ⟨_,List.getElem_mem h1,h2⟩
  rw [this];simp
theorem fn_refName (s:ByteArray) (σ:List Ob) (lo tr:Nat):Fn fns 97 [vstr s] σ lo tr=some (vbool (nameB s),σ):=by
 refine fn_gen t97 rfl (σ1:=[]) rfl rfl ?_ σ lo tr
 cases hb:byL s with
 | nil =>
  have h0:s.size=0:=by rw [← by_len,hb];rfl
  simp [KF,params,f97,h0,nameB,hb]
 | cons b t =>
  have h0:s.size=t.length+1:=by rw [← by_len,hb];rfl
  have gE:∀ h:0 < s.size,s[0]=b:=fun h=>by rw [by_getE h];simp [hb]
  have g0:s[0]?=some b:=by rw [by_get (by omega)];simp [hb]
  have c0:¬ ((t.length:Int)+1 < 1):=by omega
  by_cases c1:t.length < 20
  ·have c1':¬ (20 < (t.length:Int)+1):=by omega
   cases c2:letterN b.toNat
   ·simp [KF,params,f97,h0,nameB,hb,c0,c1,c1',g0,gE,fn_refLetter,c2]
   ·have L:∀ k:AExit→St→Option (V × List Ob),K fns ⟨0,0⟩ f97_l0 ⟨[(0,vstr s),(3,vint 1)],[]⟩ k=if t.any (fun b=>!okN b) then k .ret ⟨[(2,vbool false)],[]⟩ else k (.exit 0) ⟨[],[]⟩:=fun k =>
     scan_any (l:=t) (p:=fun b=>!okN b) (X:=fun i=>K fns ⟨0,0⟩ f97_l0 ⟨[(0,vstr s),(3,vint ((i+1:Nat):Int))],[]⟩ k)
      (fun i hi=>by
       have hw:=wrap_succ (i:=i+1) (by omega)
       have gi:s[i+1]?=some t[i]:=by rw [by_get (by omega)];simp [hb]
       have gE:∀ h:i+1 < s.size,s[i+1]=t[i]:=fun h=>by rw [by_getE h];simp [hb]
       have hi':(i:Int)+1 < (t.length:Int)+1:=by omega
       have hi2:(0:Int)≤(i:Int)+1:=by omega
       have hi3:((i:Int)+1).toNat=i+1:=by omega
       simp only [Int.natCast_add,Int.natCast_one] at hw ⊢
       show K fns _ f97_l0 _ k=_
       rw [u97_l0]
       cases d1:letterN t[i].toNat<;>cases d2:digitN t[i].toNat<;>simp [f97_b0,h0,hi,hi',hi2,hi3,gi,gE,fn_refLetter,fn_refDigit,d1,d2,okN,hw])
      (by
       show K fns _ f97_l0 _ k=_
       rw [u97_l0]
       simp [f97_b0,h0])
    have ha:t.any (fun b=>!okN b) = !t.all okN:=by simp [List.all_eq_not_any_not]
    simp only [ha] at L
    cases d3:t.all okN<;>simp [KF,params,f97,h0,nameB,hb,c0,c1,c1',g0,gE,fn_refLetter,c2,L,d3]
  ·have c1':20 < (t.length:Int)+1:=by omega
   simp [KF,params,f97,h0,nameB,hb,c0,c1,c1']
theorem fn_name (s:ByteArray) (σ:List Ob) (lo tr:Nat):Fn fns 129 [vstr s] σ lo tr=some (vbool (nameB s),σ):=by
 refine fn_gen t129 rfl (σ1:=[]) rfl rfl ?_ σ lo tr
 cases hb:byL s with
 | nil =>
  have h0:s=⟨#[]⟩:=(by_nil s).mpr (by rw [← by_len,hb];rfl)
  simp [KF,params,f129,h0,nameB,hb]
 | cons b t =>
  have h0:s.size=t.length+1:=by rw [← by_len,hb];rfl
  have hs:s≠⟨#[]⟩:=fun h=>by rw [by_nil] at h;omega
  have gE:∀ h:0 < s.size,s[0]=b:=fun h=>by rw [by_getE h];simp [hb]
  have g0:s[0]?=some b:=by rw [by_get (by omega)];simp [hb]
  by_cases c1:t.length < 20
  ·have c1':¬ (20 < (t.length:Int)+1):=by omega
   cases c2:letterN b.toNat
   ·simp [KF,params,f129,h0,hs,nameB,hb,c1,c1',g0,gE,fn_letter,c2]
   ·have L:∀ k:AExit→St→Option (V × List Ob),K fns ⟨0,0⟩ f129_l0 ⟨[(0,vstr s),(18,vint ((t.length:Int)+1)),(19,vint 0)],[]⟩ k=if (b :: t).any (fun b=>!okN b) then k .ret ⟨[(2,vbool false)],[]⟩ else k (.exit 0) ⟨[],[]⟩:=fun k =>
     scan_any (l:=b :: t) (p:=fun b=>!okN b) (X:=fun i=>K fns ⟨0,0⟩ f129_l0 ⟨[(0,vstr s),(18,vint ((t.length:Int)+1)),(19,vint i)],[]⟩ k)
      (fun i hi=>by
       have hw:=wrap_succ (i:=i) (by simp at hi;omega)
       have gi:s[i]?=some (b :: t)[i]:=by rw [by_get (by simp at hi;omega)];simp [hb]
       have gE:∀ h:i < s.size,s[i]=(b :: t)[i]:=fun h=>by rw [by_getE h];simp [hb]
       have hi':(i:Int) < (t.length:Int)+1:=by simp at hi;omega
       generalize (b :: t)[i]=x at gi gE ⊢
       show K fns _ f129_l0 _ k=_
       rw [u129_l0]
       cases d1:letterN x.toNat<;>cases d2:digitN x.toNat<;>simp [f129_b0,h0,hi',gi,gE,fn_letter,fn_digit,d1,d2,okN,hw])
      (by
       show K fns _ f129_l0 _ k=_
       rw [u129_l0]
       simp [f129_b0,h0])
    have ha:(b :: t).any (fun b=>!okN b) = !t.all okN:=by simp [List.all_eq_not_any_not,okN,c2]
    simp only [ha] at L
    cases d3:t.all okN<;>simp [KF,params,f129,h0,hs,nameB,hb,c1,c1',g0,gE,fn_letter,c2,L,d3]
  ·have c1':20 < (t.length:Int)+1:=by omega
   simp [KF,params,f129,h0,hs,nameB,hb,c1,c1']
abbrev keptL:List ByteArray:=[⟨#[99,108,97,115,115]⟩,⟨#[105,110,116,101,114,102,97,99,101]⟩,⟨#[101,120,116,101,110,100,115]⟩,⟨#[105,109,112,108,101,109,101,110,116,115]⟩,⟨#[102,105,101,108,100]⟩,⟨#[115,116,97,116,105,99]⟩,⟨#[109,101,116,104,111,100]⟩,⟨#[102,117,110,99,116,105,111,110]⟩,⟨#[108,111,99,97,108,115]⟩,⟨#[99,97,116,99,104]⟩,⟨#[105,110,116]⟩,⟨#[118,111,105,100]⟩]
def keptB (s:ByteArray):Bool:=keptL.any fun x=>decide (x=s)
def freshB (s:ByteArray):Bool:=nameB s && !keptB s
theorem fields_run:evf fns 300 83 [vstr ⟨#[99,108,97,115,115,32,105,110,116,101,114,102,97,99,101,32,101,120,116,101,110,100,115,32,105,109,112,108,101,109,101,110,116,115,32,102,105,101,108,100,32,115,116,97,116,105,99,32,109,101,116,104,111,100,32,102,117,110,99,116,105,111,110,32,108,111,99,97,108,115,32,99,97,116,99,104,32,105,110,116,32,118,111,105,100]⟩] [] 0 0=some (vsl keptL,[]):=by kernel_rfl
theorem fn_fields (σ:List Ob) (lo tr:Nat):Fn fns 83 [vstr ⟨#[99,108,97,115,115,32,105,110,116,101,114,102,97,99,101,32,101,120,116,101,110,100,115,32,105,109,112,108,101,109,101,110,116,115,32,102,105,101,108,100,32,115,116,97,116,105,99,32,109,101,116,104,111,100,32,102,117,110,99,116,105,111,110,32,108,111,99,97,108,115,32,99,97,116,99,104,32,105,110,116,32,118,111,105,100]⟩] σ lo tr=some (vsl keptL,σ):=fn_run t83 rfl rfl fields_run σ lo tr
theorem fn_index (l:List ByteArray) (s:ByteArray) (hs:l.length≤1000000) (σ:List Ob) (lo tr:Nat):Fn fns 54 [vsl l,vstr s] σ lo tr=some (vint (idxI (fun x=>decide (s=x)) l),σ):=by
 refine fn_gen t54 rfl (σ1:=[]) rfl rfl ?_ σ lo tr
 have L:∀ k:AExit→St→Option (V × List Ob),K fns ⟨0,0⟩ f54_l0 ⟨[(0,vsl l),(1,vstr s),(7,vint l.length),(8,vint 0)],[]⟩ k=match l.findIdx? (fun x=>decide (s=x)) with | some i=>k .ret ⟨[(4,vint i)],[]⟩ | none=>k (.exit 0) ⟨[],[]⟩:=fun k =>
  scan_find (l:=l) (p:=fun x=>decide (s=x)) (X:=fun i=>K fns ⟨0,0⟩ f54_l0 ⟨[(0,vsl l),(1,vstr s),(7,vint l.length),(8,vint i)],[]⟩ k)
   (r:=fun i=>k .ret ⟨[(4,vint i)],[]⟩)
   (fun i hi=>by
    have hw:=wrap_succ (i:=i) (by omega)
    show K fns _ f54_l0 _ k=_
    rw [u54_l0]
    by_cases hc:s=l[i]<;>simp [f54_b0,hi,hc,hw])
   (by show K fns _ f54_l0 _ k=_;rw [u54_l0];simp [f54_b0])
 unfold idxI
 cases hf:l.findIdx? (fun x=>decide (s=x))<;>simp [KF,params,f54,L,hf]
theorem fn_contains (l:List ByteArray) (s:ByteArray) (hs:l.length≤1000000) (σ:List Ob) (lo tr:Nat):Fn fns 33 [vsl l,vstr s] σ lo tr=some (vbool (l.any fun x=>decide (s=x)),σ):=by
 refine fn_gen t33 rfl (σ1:=[]) rfl rfl ?_ σ lo tr
 rw [← idxI_ge]
 simp [KF,params,f33,fn_index l s hs]
theorem fn_kept (s:ByteArray) (σ:List Ob) (lo tr:Nat):Fn fns 130 [vstr s] σ lo tr=some (vbool (keptB s),σ):=by
 refine fn_gen t130 rfl (σ1:=[]) rfl rfl ?_ σ lo tr
 have h1:=fn_contains keptL s (by simp)
 have h2:keptB s=keptL.any fun x=>decide (s=x):=by
  unfold keptB
  congr 1;funext x
  exact decide_eq_decide.mpr eq_comm
 rw [h2]
 have h3:=fn_fields
 generalize keptL=l at h1 h3
 simp only [KF,params,f130]
 simp [h3,h1]
theorem fn_fresh (s:ByteArray) (σ:List Ob) (lo tr:Nat):Fn fns 103 [vstr s] σ lo tr=some (vbool (freshB s),σ):=by
 refine fn_gen t103 rfl (σ1:=[]) rfl rfl ?_ σ lo tr
 unfold freshB
 cases h:nameB s<;>simp [KF,params,f103,fn_name,fn_kept,h]
theorem fn_refKept (s:ByteArray) (σ:List Ob) (lo tr:Nat):Fn fns 98 [vstr s] σ lo tr=some (vbool (keptB s),σ):=by
 refine fn_gen t98 rfl (σ1:=[]) rfl rfl ?_ σ lo tr
 have L:∀ (l:List ByteArray),l.length≤1000→∀ k:AExit→St→Option (V × List Ob),K fns ⟨0,0⟩ f98_l0 ⟨[(0,vstr s),(3,vsl l),(4,vint 0)],[]⟩ k=if l.any (fun x=>decide (x=s)) then k .ret ⟨[(2,vbool true)],[]⟩ else k (.exit 0) ⟨[],[]⟩:=fun l hl k =>
  scan_any (l:=l) (p:=fun x=>decide (x=s)) (X:=fun i=>K fns ⟨0,0⟩ f98_l0 ⟨[(0,vstr s),(3,vsl l),(4,vint i)],[]⟩ k)
   (fun i hi=>by
    have hw:=wrap_succ (i:=i) (by omega)
    show K fns _ f98_l0 _ k=_
    rw [u98_l0]
    by_cases hc:l[i]=s<;>simp [f98_b0,hi,hc,hw])
   (by show K fns _ f98_l0 _ k=_;rw [u98_l0];simp [f98_b0])
 have L1:=L keptL (by simp)
 have hr:rows keptL=keptL.map fun s=>[D.str s]:=rfl
 simp only [vsl,hr,keptL,List.map_cons,List.map_nil] at L1
 unfold keptB
 cases hk:keptL.any (fun x=>decide (x=s))<;>simp only [hk,if_true,if_false,Bool.false_eq_true] at L1<;>simp [KF,params,f98,L1]
theorem fn_refFresh (s:ByteArray) (σ:List Ob) (lo tr:Nat):Fn fns 76 [vstr s] σ lo tr=some (vbool (freshB s),σ):=by
 refine fn_gen t76 rfl (σ1:=[]) rfl rfl ?_ σ lo tr
 unfold freshB
 cases h:nameB s<;>simp [KF,params,f76,fn_refName,fn_refKept,h]
def inB (n lo hi:Int):Bool:=decide (lo≤n) && decide (n≤hi)
theorem fn_refIn (n a b:Int) (σ:List Ob) (lo tr:Nat):Fn fns 99 [vint n,vint a,vint b] σ lo tr=some (vbool (inB n a b),σ):=by
 refine fn_gen t99 rfl (σ1:=[]) rfl rfl ?_ σ lo tr
 unfold inB
 by_cases h:a≤n<;>simp [KF,params,f99,h]
theorem fn_in (n a b:Int) (σ:List Ob) (lo tr:Nat):Fn fns 138 [vint n,vint a,vint b] σ lo tr=some (vbool (inB n a b),σ):=by
 refine fn_gen t138 rfl (σ1:=[]) rfl rfl ?_ σ lo tr
 unfold inB
 by_cases h:a≤n<;>simp [KF,params,f138,h]
def typedB (t:GType):Bool:=if t.kind=1∨t.kind=2∨t.kind=4 then decide (t.name=⟨#[]⟩) else if t.kind=3∨t.kind=5 then freshB t.name else false
theorem fn_typed (t:GType) (σ:List Ob) (lo tr:Nat):Fn fns 134 [vType t] σ lo tr=some (vbool (typedB t),σ):=by
 refine fn_gen t134 rfl (σ1:=[]) rfl rfl ?_ σ lo tr
 unfold typedB
 by_cases h1:t.kind=1
 ·simp [KF,params,f134,h1]
 by_cases h2:t.kind=2
 ·simp [KF,params,f134,h1,h2]
 by_cases h4:t.kind=4
 ·simp [KF,params,f134,h1,h2,h4]
 by_cases h3:t.kind=3
 ·simp [KF,params,f134,h1,h2,h4,h3,fn_fresh]
 by_cases h5:t.kind=5
 ·simp [KF,params,f134,h1,h2,h4,h3,h5,fn_fresh]
 simp [KF,params,f134,h1,h2,h4,h3,h5]
theorem name_size {s:ByteArray} (h:nameB s=true):s.size≤20:=by
 unfold nameB at h
 rw [← by_len]
 cases hb:byL s with
 | nil=>simp
 | cons b t=>rw [hb] at h;simp at h;simp;omega
theorem fresh_size {s:ByteArray} (h:freshB s=true):s.size≤20:=by
 unfold freshB at h
 simp at h
 exact name_size h.1
theorem fresh_ne {s:ByteArray} (h:freshB s=true):s≠⟨#[]⟩:=by
 rintro rfl
 revert h;decide
def typeText (t:GType):ByteArray:=if t.kind=1∧t.name=⟨#[]⟩ then ⟨#[118,111,105,100]⟩ else if t.kind=2∧t.name=⟨#[]⟩ then ⟨#[105,110,116]⟩ else if t.kind=4∧t.name=⟨#[]⟩ then ⟨#[105,110,116,91,93]⟩ else if t.kind=3∧freshB t.name=true then t.name else if t.kind=5∧freshB t.name=true then t.name ++ ⟨#[91,93]⟩ else ⟨#[]⟩
theorem typeText_nil (t:GType):decide (typeText t=⟨#[]⟩) = !typedB t:=by
 have n1:¬ ((⟨#[118,111,105,100]⟩:ByteArray)=⟨#[]⟩):=by decide
 have n2:¬ ((⟨#[105,110,116]⟩:ByteArray)=⟨#[]⟩):=by decide
 have n3:¬ ((⟨#[105,110,116,91,93]⟩:ByteArray)=⟨#[]⟩):=by decide
 have n4:∀ s:ByteArray,¬ (s ++ ⟨#[91,93]⟩=⟨#[]⟩):=fun s h=>by
  have:=congrArg ByteArray.size h
  rw [ByteArray.size_append] at this
  have e:(⟨#[91,93]⟩:ByteArray).size=2:=rfl
  have e2:(⟨#[]⟩:ByteArray).size=0:=rfl
  omega
 unfold typeText typedB
 by_cases h1:t.kind=1
 ·by_cases hn:t.name=⟨#[]⟩<;>simp [h1,hn,n1]
 by_cases h2:t.kind=2
 ·by_cases hn:t.name=⟨#[]⟩<;>simp [h2,hn,n2]
 by_cases h4:t.kind=4
 ·by_cases hn:t.name=⟨#[]⟩<;>simp [h4,hn,n3]
 by_cases h3:t.kind=3
 ·cases hf:freshB t.name
  ·simp [h3,hf]
  ·simp [h3,hf,fresh_ne hf]
 by_cases h5:t.kind=5
 ·cases hf:freshB t.name<;>simp [h5,hf,n4]
 simp [h1,h2,h3,h4,h5]
theorem fn_typeText (t:GType) (σ:List Ob) (lo tr:Nat):Fn fns 77 [vType t] σ lo tr=some (vstr (typeText t),σ):=by
 refine fn_gen t77 rfl (σ1:=[]) rfl rfl ?_ σ lo tr
 unfold typeText
 by_cases h1:t.kind=1
 ·by_cases hn:t.name=⟨#[]⟩<;>simp [KF,params,f77,h1,hn]
 by_cases h2:t.kind=2
 ·by_cases hn:t.name=⟨#[]⟩<;>simp [KF,params,f77,h1,h2,hn]
 by_cases h4:t.kind=4
 ·by_cases hn:t.name=⟨#[]⟩<;>simp [KF,params,f77,h1,h2,h4,hn]
 by_cases h3:t.kind=3
 ·cases hf:freshB t.name<;>simp [KF,params,f77,h1,h2,h4,h3,hf,fn_refFresh]
 by_cases h5:t.kind=5
 ·cases hf:freshB t.name
  ·simp [KF,params,f77,h1,h2,h4,h3,h5,hf,fn_refFresh]
  have hz:=fresh_size hf
  have e2:(⟨#[91,93]⟩:ByteArray).size=2:=rfl
  have em:IntKind.i64.max=9223372036854775807:=by decide
  have hz':¬ (9223372036854775807 < (t.name.size:Int)+2):=by omega
  simp [KF,params,f77,h1,h2,h4,h3,h5,hf,fn_refFresh,e2,em,hz']
 simp [KF,params,f77,h1,h2,h4,h3,h5]
theorem fn_idxC (l:List GClass) (g:Nat) (fst cap:List B) (σ:List Ob) (lo tr:Nat) (hlo:lo≤σ.length) (hc:(C.fn g fst cap).closed 0=false) (hf:(C.fn g fst cap).closed σ.length=true) (hσ:σ.all (Ob.closed σ.length)=true) (hs:l.length≤1000000) (p:GClass→Bool)
  (hp:∀ i (h:i < l.length),∀ tr',Fn fns g (fst.map (fun b=>.c (.b b)) ++ [vClass l[i]] ++ cap.map (fun b=>.c (.b b))) σ σ.length tr'=some (vbool (p l[i]),σ)):Fn fns 84 [vsl l,.c (.fn g fst cap)] σ lo tr=some (vint (idxI p l),σ):=by
 rw [fn_eq t84 rfl (by simp only [blindOk,List.all_cons,List.all_nil,V.closed,V.closed1,hc,Bool.false_and,Bool.and_false])]
 have hm:max lo σ.length=σ.length:=by omega
 have L:∀ (t:Nat) (k:AExit→St→Option (V × List Ob)),K fns ⟨σ.length,t⟩ f84_l0 ⟨[(0,vsl l),(1,.c (.fn g fst cap)),(7,vint l.length),(8,vint 0)],σ⟩ k=match l.findIdx? p with | some i=>k .ret ⟨[(4,vint i)],σ⟩ | none=>k (.exit 0) ⟨[],σ⟩:=fun t k =>
  scan_find (l:=l) (p:=p) (X:=fun i=>K fns ⟨σ.length,t⟩ f84_l0 ⟨[(0,vsl l),(1,.c (.fn g fst cap)),(7,vint l.length),(8,vint i)],σ⟩ k)
   (r:=fun i=>k .ret ⟨[(4,vint i)],σ⟩)
   (fun i hi=>by
    have hw:=wrap_succ (i:=i) (by omega)
    have h1:=hp i hi
    simp only [C.closed] at hf
    simp only [List.append_assoc,List.singleton_append] at h1
    show K fns _ f84_l0 _ k=_
    rw [u84_l0]
    cases hq:p l[i]<;>simp only [hq] at h1<;>simp [f84_b0,hi,hw,h1,hf,hσ])
   (by
    simp only [C.closed] at hf
    show K fns _ f84_l0 _ k=_;rw [u84_l0];simp [f84_b0,hσ])
 unfold idxI
 cases hq:l.findIdx? p<;>simp [KF,params,f84,hm,L,hq]
theorem fn_contC (l:List GClass) (g:Nat) (fst cap:List B) (σ:List Ob) (lo tr:Nat) (hlo:lo≤σ.length) (hc:(C.fn g fst cap).closed 0=false) (hf:(C.fn g fst cap).closed σ.length=true) (hσ:σ.all (Ob.closed σ.length)=true) (hs:l.length≤1000000) (p:GClass→Bool)
  (hp:∀ i (h:i < l.length),∀ tr',Fn fns g (fst.map (fun b=>.c (.b b)) ++ [vClass l[i]] ++ cap.map (fun b=>.c (.b b))) σ σ.length tr'=some (vbool (p l[i]),σ)):Fn fns 67 [vsl l,.c (.fn g fst cap)] σ lo tr=some (vbool (l.any p),σ):=by
 rw [fn_eq t67 rfl (by simp only [blindOk,List.all_cons,List.all_nil,V.closed,V.closed1,hc,Bool.false_and,Bool.and_false])]
 rw [← idxI_ge]
 have h1:=fun lo tr hlo=>fn_idxC l g fst cap σ lo tr hlo hc hf hσ hs p hp
 have hm:max lo σ.length=σ.length:=by omega
 simp [KF,params,f67,hm,h1]
theorem fn_eachdC (x:GClass) (g:Nat) (b:Bool) (lo tr:Nat) (h:∀ σ lo tr,Fn fns g [vClass x] σ lo tr=some (vbool b,σ)):Fn fns 102 [vClass x,vptr 0] [.cells [.fn g [] []]] lo tr=some (vbool (!b),[.cells [.fn g [] []]]):=by
 rw [fn_eq t102 rfl rfl]
 simp [KF,params,f102,h]
theorem fn_eachC (l:List GClass) (n:Int) (g:Nat) (p:GClass→Bool) (hs:l.length≤1000000) (h:∀ x ∈ l,∀ σ lo tr,Fn fns g [vClass x] σ lo tr=some (vbool (p x),σ)) (σ:List Ob) (lo tr:Nat):Fn fns 81 [vsl l,vint n,.c (.fn g [] [])] σ lo tr=some (vbool (decide ((l.length:Int)≤n) && l.all p),σ):=by
 refine fn_gen t81 rfl (σ1:=[]) rfl rfl ?_ σ lo tr
 have h1:=fun lo tr hlo=>fn_contC l 102 [] [.ptr 0 0] [.cells [.fn g [] []]] lo tr hlo rfl rfl rfl hs (fun x=>!p x) (fun i hi tr'=>fn_eachdC l[i] g (p l[i]) _ tr' (h _ (List.getElem_mem hi)))
 have ha:(l.any fun x=>!p x) = !l.all p:=by simp [List.all_eq_not_any_not]
 rw [ha] at h1
 by_cases hn:(l.length:Int)≤n
 ·simp [KF,params,f81,hn,bsOf,h1]
 ·simp [KF,params,f81,hn,bsOf]
theorem fn_idxS (l:List ByteArray) (g:Nat) (fst cap:List B) (σ:List Ob) (lo tr:Nat) (hlo:lo≤σ.length) (hc:(C.fn g fst cap).closed 0=false) (hf:(C.fn g fst cap).closed σ.length=true) (hσ:σ.all (Ob.closed σ.length)=true) (hs:l.length≤1000000) (p:ByteArray→Bool)
  (hp:∀ i (h:i < l.length),∀ tr',Fn fns g (fst.map (fun b=>.c (.b b)) ++ [vstr l[i]] ++ cap.map (fun b=>.c (.b b))) σ σ.length tr'=some (vbool (p l[i]),σ)):Fn fns 87 [vsl l,.c (.fn g fst cap)] σ lo tr=some (vint (idxI p l),σ):=by
 rw [fn_eq t87 rfl (by simp only [blindOk,List.all_cons,List.all_nil,V.closed,V.closed1,hc,Bool.false_and,Bool.and_false])]
 have hm:max lo σ.length=σ.length:=by omega
 have L:∀ (t:Nat) (k:AExit→St→Option (V × List Ob)),K fns ⟨σ.length,t⟩ f87_l0 ⟨[(0,vsl l),(1,.c (.fn g fst cap)),(7,vint l.length),(8,vint 0)],σ⟩ k=match l.findIdx? p with | some i=>k .ret ⟨[(4,vint i)],σ⟩ | none=>k (.exit 0) ⟨[],σ⟩:=fun t k =>
  scan_find (l:=l) (p:=p) (X:=fun i=>K fns ⟨σ.length,t⟩ f87_l0 ⟨[(0,vsl l),(1,.c (.fn g fst cap)),(7,vint l.length),(8,vint i)],σ⟩ k)
   (r:=fun i=>k .ret ⟨[(4,vint i)],σ⟩)
   (fun i hi=>by
    have hw:=wrap_succ (i:=i) (by omega)
    have h1:=hp i hi
    simp only [C.closed] at hf
    simp only [List.append_assoc,List.singleton_append] at h1
    show K fns _ f87_l0 _ k=_
    rw [u87_l0]
    cases hq:p l[i]<;>simp only [hq] at h1<;>simp [f87_b0,hi,hw,h1,hf,hσ])
   (by
    simp only [C.closed] at hf
    show K fns _ f87_l0 _ k=_;rw [u87_l0];simp [f87_b0,hσ])
 unfold idxI
 cases hq:l.findIdx? p<;>simp [KF,params,f87,hm,L,hq]
theorem fn_contS (l:List ByteArray) (g:Nat) (fst cap:List B) (σ:List Ob) (lo tr:Nat) (hlo:lo≤σ.length) (hc:(C.fn g fst cap).closed 0=false) (hf:(C.fn g fst cap).closed σ.length=true) (hσ:σ.all (Ob.closed σ.length)=true) (hs:l.length≤1000000) (p:ByteArray→Bool)
  (hp:∀ i (h:i < l.length),∀ tr',Fn fns g (fst.map (fun b=>.c (.b b)) ++ [vstr l[i]] ++ cap.map (fun b=>.c (.b b))) σ σ.length tr'=some (vbool (p l[i]),σ)):Fn fns 69 [vsl l,.c (.fn g fst cap)] σ lo tr=some (vbool (l.any p),σ):=by
 rw [fn_eq t69 rfl (by simp only [blindOk,List.all_cons,List.all_nil,V.closed,V.closed1,hc,Bool.false_and,Bool.and_false])]
 rw [← idxI_ge]
 have h1:=fun lo tr hlo=>fn_idxS l g fst cap σ lo tr hlo hc hf hσ hs p hp
 have hm:max lo σ.length=σ.length:=by omega
 simp [KF,params,f69,hm,h1]
theorem fn_eachdS (x:ByteArray) (g:Nat) (b:Bool) (lo tr:Nat) (h:∀ σ lo tr,Fn fns g [vstr x] σ lo tr=some (vbool b,σ)):Fn fns 131 [vstr x,vptr 0] [.cells [.fn g [] []]] lo tr=some (vbool (!b),[.cells [.fn g [] []]]):=by
 rw [fn_eq t131 rfl rfl]
 simp [KF,params,f131,h]
theorem fn_eachS (l:List ByteArray) (n:Int) (g:Nat) (p:ByteArray→Bool) (hs:l.length≤1000000) (h:∀ x ∈ l,∀ σ lo tr,Fn fns g [vstr x] σ lo tr=some (vbool (p x),σ)) (σ:List Ob) (lo tr:Nat):Fn fns 104 [vsl l,vint n,.c (.fn g [] [])] σ lo tr=some (vbool (decide ((l.length:Int)≤n) && l.all p),σ):=by
 refine fn_gen t104 rfl (σ1:=[]) rfl rfl ?_ σ lo tr
 have h1:=fun lo tr hlo=>fn_contS l 131 [] [.ptr 0 0] [.cells [.fn g [] []]] lo tr hlo rfl rfl rfl hs (fun x=>!p x) (fun i hi tr'=>fn_eachdS l[i] g (p l[i]) _ tr' (h _ (List.getElem_mem hi)))
 have ha:(l.any fun x=>!p x) = !l.all p:=by simp [List.all_eq_not_any_not]
 rw [ha] at h1
 by_cases hn:(l.length:Int)≤n
 ·simp [KF,params,f104,hn,bsOf,h1]
 ·simp [KF,params,f104,hn,bsOf]
theorem fn_idxF (l:List GField) (g:Nat) (fst cap:List B) (σ:List Ob) (lo tr:Nat) (hlo:lo≤σ.length) (hc:(C.fn g fst cap).closed 0=false) (hf:(C.fn g fst cap).closed σ.length=true) (hσ:σ.all (Ob.closed σ.length)=true) (hs:l.length≤1000000) (p:GField→Bool)
  (hp:∀ i (h:i < l.length),∀ tr',Fn fns g (fst.map (fun b=>.c (.b b)) ++ [vField l[i]] ++ cap.map (fun b=>.c (.b b))) σ σ.length tr'=some (vbool (p l[i]),σ)):Fn fns 157 [vsl l,.c (.fn g fst cap)] σ lo tr=some (vint (idxI p l),σ):=by
 rw [fn_eq t157 rfl (by simp only [blindOk,List.all_cons,List.all_nil,V.closed,V.closed1,hc,Bool.false_and,Bool.and_false])]
 have hm:max lo σ.length=σ.length:=by omega
 have L:∀ (t:Nat) (k:AExit→St→Option (V × List Ob)),K fns ⟨σ.length,t⟩ f157_l0 ⟨[(0,vsl l),(1,.c (.fn g fst cap)),(7,vint l.length),(8,vint 0)],σ⟩ k=match l.findIdx? p with | some i=>k .ret ⟨[(4,vint i)],σ⟩ | none=>k (.exit 0) ⟨[],σ⟩:=fun t k =>
  scan_find (l:=l) (p:=p) (X:=fun i=>K fns ⟨σ.length,t⟩ f157_l0 ⟨[(0,vsl l),(1,.c (.fn g fst cap)),(7,vint l.length),(8,vint i)],σ⟩ k)
   (r:=fun i=>k .ret ⟨[(4,vint i)],σ⟩)
   (fun i hi=>by
    have hw:=wrap_succ (i:=i) (by omega)
    have h1:=hp i hi
    simp only [C.closed] at hf
    simp only [List.append_assoc,List.singleton_append] at h1
    show K fns _ f157_l0 _ k=_
    rw [u157_l0]
    cases hq:p l[i]<;>simp only [hq] at h1<;>simp [f157_b0,hi,hw,h1,hf,hσ])
   (by
    simp only [C.closed] at hf
    show K fns _ f157_l0 _ k=_;rw [u157_l0];simp [f157_b0,hσ])
 unfold idxI
 cases hq:l.findIdx? p<;>simp [KF,params,f157,hm,L,hq]
theorem fn_contF (l:List GField) (g:Nat) (fst cap:List B) (σ:List Ob) (lo tr:Nat) (hlo:lo≤σ.length) (hc:(C.fn g fst cap).closed 0=false) (hf:(C.fn g fst cap).closed σ.length=true) (hσ:σ.all (Ob.closed σ.length)=true) (hs:l.length≤1000000) (p:GField→Bool)
  (hp:∀ i (h:i < l.length),∀ tr',Fn fns g (fst.map (fun b=>.c (.b b)) ++ [vField l[i]] ++ cap.map (fun b=>.c (.b b))) σ σ.length tr'=some (vbool (p l[i]),σ)):Fn fns 132 [vsl l,.c (.fn g fst cap)] σ lo tr=some (vbool (l.any p),σ):=by
 rw [fn_eq t132 rfl (by simp only [blindOk,List.all_cons,List.all_nil,V.closed,V.closed1,hc,Bool.false_and,Bool.and_false])]
 rw [← idxI_ge]
 have h1:=fun lo tr hlo=>fn_idxF l g fst cap σ lo tr hlo hc hf hσ hs p hp
 have hm:max lo σ.length=σ.length:=by omega
 simp [KF,params,f132,hm,h1]
theorem fn_eachdF (x:GField) (g:Nat) (b:Bool) (lo tr:Nat) (h:∀ σ lo tr,Fn fns g [vField x] σ lo tr=some (vbool b,σ)):Fn fns 133 [vField x,vptr 0] [.cells [.fn g [] []]] lo tr=some (vbool (!b),[.cells [.fn g [] []]]):=by
 rw [fn_eq t133 rfl rfl]
 simp [KF,params,f133,h]
theorem fn_eachF (l:List GField) (n:Int) (g:Nat) (p:GField→Bool) (hs:l.length≤1000000) (h:∀ x ∈ l,∀ σ lo tr,Fn fns g [vField x] σ lo tr=some (vbool (p x),σ)) (σ:List Ob) (lo tr:Nat):Fn fns 105 [vsl l,vint n,.c (.fn g [] [])] σ lo tr=some (vbool (decide ((l.length:Int)≤n) && l.all p),σ):=by
 refine fn_gen t105 rfl (σ1:=[]) rfl rfl ?_ σ lo tr
 have h1:=fun lo tr hlo=>fn_contF l 133 [] [.ptr 0 0] [.cells [.fn g [] []]] lo tr hlo rfl rfl rfl hs (fun x=>!p x) (fun i hi tr'=>fn_eachdF l[i] g (p l[i]) _ tr' (h _ (List.getElem_mem hi)))
 have ha:(l.any fun x=>!p x) = !l.all p:=by simp [List.all_eq_not_any_not]
 rw [ha] at h1
 by_cases hn:(l.length:Int)≤n
 ·simp [KF,params,f105,hn,bsOf,h1]
 ·simp [KF,params,f105,hn,bsOf]
theorem fn_idxM (l:List GMethod) (g:Nat) (fst cap:List B) (σ:List Ob) (lo tr:Nat) (hlo:lo≤σ.length) (hc:(C.fn g fst cap).closed 0=false) (hf:(C.fn g fst cap).closed σ.length=true) (hσ:σ.all (Ob.closed σ.length)=true) (hs:l.length≤1000000) (p:GMethod→Bool)
  (hp:∀ i (h:i < l.length),∀ tr',Fn fns g (fst.map (fun b=>.c (.b b)) ++ [vMethod l[i]] ++ cap.map (fun b=>.c (.b b))) σ σ.length tr'=some (vbool (p l[i]),σ)):Fn fns 158 [vsl l,.c (.fn g fst cap)] σ lo tr=some (vint (idxI p l),σ):=by
 rw [fn_eq t158 rfl (by simp only [blindOk,List.all_cons,List.all_nil,V.closed,V.closed1,hc,Bool.false_and,Bool.and_false])]
 have hm:max lo σ.length=σ.length:=by omega
 have L:∀ (t:Nat) (k:AExit→St→Option (V × List Ob)),K fns ⟨σ.length,t⟩ f158_l0 ⟨[(0,vsl l),(1,.c (.fn g fst cap)),(7,vint l.length),(8,vint 0)],σ⟩ k=match l.findIdx? p with | some i=>k .ret ⟨[(4,vint i)],σ⟩ | none=>k (.exit 0) ⟨[],σ⟩:=fun t k =>
  scan_find (l:=l) (p:=p) (X:=fun i=>K fns ⟨σ.length,t⟩ f158_l0 ⟨[(0,vsl l),(1,.c (.fn g fst cap)),(7,vint l.length),(8,vint i)],σ⟩ k)
   (r:=fun i=>k .ret ⟨[(4,vint i)],σ⟩)
   (fun i hi=>by
    have hw:=wrap_succ (i:=i) (by omega)
    have h1:=hp i hi
    simp only [C.closed] at hf
    simp only [List.append_assoc,List.singleton_append] at h1
    show K fns _ f158_l0 _ k=_
    rw [u158_l0]
    cases hq:p l[i]<;>simp only [hq] at h1<;>simp [f158_b0,hi,hw,h1,hf,hσ])
   (by
    simp only [C.closed] at hf
    show K fns _ f158_l0 _ k=_;rw [u158_l0];simp [f158_b0,hσ])
 unfold idxI
 cases hq:l.findIdx? p<;>simp [KF,params,f158,hm,L,hq]
theorem fn_contM (l:List GMethod) (g:Nat) (fst cap:List B) (σ:List Ob) (lo tr:Nat) (hlo:lo≤σ.length) (hc:(C.fn g fst cap).closed 0=false) (hf:(C.fn g fst cap).closed σ.length=true) (hσ:σ.all (Ob.closed σ.length)=true) (hs:l.length≤1000000) (p:GMethod→Bool)
  (hp:∀ i (h:i < l.length),∀ tr',Fn fns g (fst.map (fun b=>.c (.b b)) ++ [vMethod l[i]] ++ cap.map (fun b=>.c (.b b))) σ σ.length tr'=some (vbool (p l[i]),σ)):Fn fns 135 [vsl l,.c (.fn g fst cap)] σ lo tr=some (vbool (l.any p),σ):=by
 rw [fn_eq t135 rfl (by simp only [blindOk,List.all_cons,List.all_nil,V.closed,V.closed1,hc,Bool.false_and,Bool.and_false])]
 rw [← idxI_ge]
 have h1:=fun lo tr hlo=>fn_idxM l g fst cap σ lo tr hlo hc hf hσ hs p hp
 have hm:max lo σ.length=σ.length:=by omega
 simp [KF,params,f135,hm,h1]
theorem fn_eachdM (x:GMethod) (g:Nat) (b:Bool) (lo tr:Nat) (h:∀ σ lo tr,Fn fns g [vMethod x] σ lo tr=some (vbool b,σ)):Fn fns 136 [vMethod x,vptr 0] [.cells [.fn g [] []]] lo tr=some (vbool (!b),[.cells [.fn g [] []]]):=by
 rw [fn_eq t136 rfl rfl]
 simp [KF,params,f136,h]
theorem fn_eachM (l:List GMethod) (n:Int) (g:Nat) (p:GMethod→Bool) (hs:l.length≤1000000) (h:∀ x ∈ l,∀ σ lo tr,Fn fns g [vMethod x] σ lo tr=some (vbool (p x),σ)) (σ:List Ob) (lo tr:Nat):Fn fns 107 [vsl l,vint n,.c (.fn g [] [])] σ lo tr=some (vbool (decide ((l.length:Int)≤n) && l.all p),σ):=by
 refine fn_gen t107 rfl (σ1:=[]) rfl rfl ?_ σ lo tr
 have h1:=fun lo tr hlo=>fn_contM l 136 [] [.ptr 0 0] [.cells [.fn g [] []]] lo tr hlo rfl rfl rfl hs (fun x=>!p x) (fun i hi tr'=>fn_eachdM l[i] g (p l[i]) _ tr' (h _ (List.getElem_mem hi)))
 have ha:(l.any fun x=>!p x) = !l.all p:=by simp [List.all_eq_not_any_not]
 rw [ha] at h1
 by_cases hn:(l.length:Int)≤n
 ·simp [KF,params,f107,hn,bsOf,h1]
 ·simp [KF,params,f107,hn,bsOf]
theorem fn_idxT (l:List GType) (g:Nat) (fst cap:List B) (σ:List Ob) (lo tr:Nat) (hlo:lo≤σ.length) (hc:(C.fn g fst cap).closed 0=false) (hf:(C.fn g fst cap).closed σ.length=true) (hσ:σ.all (Ob.closed σ.length)=true) (hs:l.length≤1000000) (p:GType→Bool)
  (hp:∀ i (h:i < l.length),∀ tr',Fn fns g (fst.map (fun b=>.c (.b b)) ++ [vType l[i]] ++ cap.map (fun b=>.c (.b b))) σ σ.length tr'=some (vbool (p l[i]),σ)):Fn fns 150 [vsl l,.c (.fn g fst cap)] σ lo tr=some (vint (idxI p l),σ):=by
 rw [fn_eq t150 rfl (by simp only [blindOk,List.all_cons,List.all_nil,V.closed,V.closed1,hc,Bool.false_and,Bool.and_false])]
 have hm:max lo σ.length=σ.length:=by omega
 have L:∀ (t:Nat) (k:AExit→St→Option (V × List Ob)),K fns ⟨σ.length,t⟩ f150_l0 ⟨[(0,vsl l),(1,.c (.fn g fst cap)),(7,vint l.length),(8,vint 0)],σ⟩ k=match l.findIdx? p with | some i=>k .ret ⟨[(4,vint i)],σ⟩ | none=>k (.exit 0) ⟨[],σ⟩:=fun t k =>
  scan_find (l:=l) (p:=p) (X:=fun i=>K fns ⟨σ.length,t⟩ f150_l0 ⟨[(0,vsl l),(1,.c (.fn g fst cap)),(7,vint l.length),(8,vint i)],σ⟩ k)
   (r:=fun i=>k .ret ⟨[(4,vint i)],σ⟩)
   (fun i hi=>by
    have hw:=wrap_succ (i:=i) (by omega)
    have h1:=hp i hi
    simp only [C.closed] at hf
    simp only [List.append_assoc,List.singleton_append] at h1
    show K fns _ f150_l0 _ k=_
    rw [u150_l0]
    cases hq:p l[i]<;>simp only [hq] at h1<;>simp [f150_b0,hi,hw,h1,hf,hσ])
   (by
    simp only [C.closed] at hf
    show K fns _ f150_l0 _ k=_;rw [u150_l0];simp [f150_b0,hσ])
 unfold idxI
 cases hq:l.findIdx? p<;>simp [KF,params,f150,hm,L,hq]
theorem fn_contT (l:List GType) (g:Nat) (fst cap:List B) (σ:List Ob) (lo tr:Nat) (hlo:lo≤σ.length) (hc:(C.fn g fst cap).closed 0=false) (hf:(C.fn g fst cap).closed σ.length=true) (hσ:σ.all (Ob.closed σ.length)=true) (hs:l.length≤1000000) (p:GType→Bool)
  (hp:∀ i (h:i < l.length),∀ tr',Fn fns g (fst.map (fun b=>.c (.b b)) ++ [vType l[i]] ++ cap.map (fun b=>.c (.b b))) σ σ.length tr'=some (vbool (p l[i]),σ)):Fn fns 119 [vsl l,.c (.fn g fst cap)] σ lo tr=some (vbool (l.any p),σ):=by
 rw [fn_eq t119 rfl (by simp only [blindOk,List.all_cons,List.all_nil,V.closed,V.closed1,hc,Bool.false_and,Bool.and_false])]
 rw [← idxI_ge]
 have h1:=fun lo tr hlo=>fn_idxT l g fst cap σ lo tr hlo hc hf hσ hs p hp
 have hm:max lo σ.length=σ.length:=by omega
 simp [KF,params,f119,hm,h1]
theorem fn_eachdT (x:GType) (g:Nat) (b:Bool) (lo tr:Nat) (h:∀ σ lo tr,Fn fns g [vType x] σ lo tr=some (vbool b,σ)):Fn fns 159 [vType x,vptr 0] [.cells [.fn g [] []]] lo tr=some (vbool (!b),[.cells [.fn g [] []]]):=by
 rw [fn_eq t159 rfl rfl]
 simp [KF,params,f159,h]
theorem fn_eachT (l:List GType) (n:Int) (g:Nat) (p:GType→Bool) (hs:l.length≤1000000) (h:∀ x ∈ l,∀ σ lo tr,Fn fns g [vType x] σ lo tr=some (vbool (p x),σ)) (σ:List Ob) (lo tr:Nat):Fn fns 137 [vsl l,vint n,.c (.fn g [] [])] σ lo tr=some (vbool (decide ((l.length:Int)≤n) && l.all p),σ):=by
 refine fn_gen t137 rfl (σ1:=[]) rfl rfl ?_ σ lo tr
 have h1:=fun lo tr hlo=>fn_contT l 159 [] [.ptr 0 0] [.cells [.fn g [] []]] lo tr hlo rfl rfl rfl hs (fun x=>!p x) (fun i hi tr'=>fn_eachdT l[i] g (p l[i]) _ tr' (h _ (List.getElem_mem hi)))
 have ha:(l.any fun x=>!p x) = !l.all p:=by simp [List.all_eq_not_any_not]
 rw [ha] at h1
 by_cases hn:(l.length:Int)≤n
 ·simp [KF,params,f137,hn,bsOf,h1]
 ·simp [KF,params,f137,hn,bsOf]
theorem fn_idxI (l:List GInstr) (g:Nat) (fst cap:List B) (σ:List Ob) (lo tr:Nat) (hlo:lo≤σ.length) (hc:(C.fn g fst cap).closed 0=false) (hf:(C.fn g fst cap).closed σ.length=true) (hσ:σ.all (Ob.closed σ.length)=true) (hs:l.length≤1000000) (p:GInstr→Bool)
  (hp:∀ i (h:i < l.length),∀ tr',Fn fns g (fst.map (fun b=>.c (.b b)) ++ [vInstr l[i]] ++ cap.map (fun b=>.c (.b b))) σ σ.length tr'=some (vbool (p l[i]),σ)):Fn fns 179 [vsl l,.c (.fn g fst cap)] σ lo tr=some (vint (idxI p l),σ):=by
 rw [fn_eq t179 rfl (by simp only [blindOk,List.all_cons,List.all_nil,V.closed,V.closed1,hc,Bool.false_and,Bool.and_false])]
 have hm:max lo σ.length=σ.length:=by omega
 have L:∀ (t:Nat) (k:AExit→St→Option (V × List Ob)),K fns ⟨σ.length,t⟩ f179_l0 ⟨[(0,vsl l),(1,.c (.fn g fst cap)),(7,vint l.length),(8,vint 0)],σ⟩ k=match l.findIdx? p with | some i=>k .ret ⟨[(4,vint i)],σ⟩ | none=>k (.exit 0) ⟨[],σ⟩:=fun t k =>
  scan_find (l:=l) (p:=p) (X:=fun i=>K fns ⟨σ.length,t⟩ f179_l0 ⟨[(0,vsl l),(1,.c (.fn g fst cap)),(7,vint l.length),(8,vint i)],σ⟩ k)
   (r:=fun i=>k .ret ⟨[(4,vint i)],σ⟩)
   (fun i hi=>by
    have hw:=wrap_succ (i:=i) (by omega)
    have h1:=hp i hi
    simp only [C.closed] at hf
    simp only [List.append_assoc,List.singleton_append] at h1
    show K fns _ f179_l0 _ k=_
    rw [u179_l0]
    cases hq:p l[i]<;>simp only [hq] at h1<;>simp [f179_b0,hi,hw,h1,hf,hσ])
   (by
    simp only [C.closed] at hf
    show K fns _ f179_l0 _ k=_;rw [u179_l0];simp [f179_b0,hσ])
 unfold idxI
 cases hq:l.findIdx? p<;>simp [KF,params,f179,hm,L,hq]
theorem fn_contI (l:List GInstr) (g:Nat) (fst cap:List B) (σ:List Ob) (lo tr:Nat) (hlo:lo≤σ.length) (hc:(C.fn g fst cap).closed 0=false) (hf:(C.fn g fst cap).closed σ.length=true) (hσ:σ.all (Ob.closed σ.length)=true) (hs:l.length≤1000000) (p:GInstr→Bool)
  (hp:∀ i (h:i < l.length),∀ tr',Fn fns g (fst.map (fun b=>.c (.b b)) ++ [vInstr l[i]] ++ cap.map (fun b=>.c (.b b))) σ σ.length tr'=some (vbool (p l[i]),σ)):Fn fns 160 [vsl l,.c (.fn g fst cap)] σ lo tr=some (vbool (l.any p),σ):=by
 rw [fn_eq t160 rfl (by simp only [blindOk,List.all_cons,List.all_nil,V.closed,V.closed1,hc,Bool.false_and,Bool.and_false])]
 rw [← idxI_ge]
 have h1:=fun lo tr hlo=>fn_idxI l g fst cap σ lo tr hlo hc hf hσ hs p hp
 have hm:max lo σ.length=σ.length:=by omega
 simp [KF,params,f160,hm,h1]
theorem fn_eachdI (x:GInstr) (g:Nat) (b:Bool) (lo tr:Nat) (h:∀ σ lo tr,Fn fns g [vInstr x] σ lo tr=some (vbool b,σ)):Fn fns 161 [vInstr x,vptr 0] [.cells [.fn g [] []]] lo tr=some (vbool (!b),[.cells [.fn g [] []]]):=by
 rw [fn_eq t161 rfl rfl]
 simp [KF,params,f161,h]
theorem fn_eachI (l:List GInstr) (n:Int) (g:Nat) (p:GInstr→Bool) (hs:l.length≤1000000) (h:∀ x ∈ l,∀ σ lo tr,Fn fns g [vInstr x] σ lo tr=some (vbool (p x),σ)) (σ:List Ob) (lo tr:Nat):Fn fns 139 [vsl l,vint n,.c (.fn g [] [])] σ lo tr=some (vbool (decide ((l.length:Int)≤n) && l.all p),σ):=by
 refine fn_gen t139 rfl (σ1:=[]) rfl rfl ?_ σ lo tr
 have h1:=fun lo tr hlo=>fn_contI l 161 [] [.ptr 0 0] [.cells [.fn g [] []]] lo tr hlo rfl rfl rfl hs (fun x=>!p x) (fun i hi tr'=>fn_eachdI l[i] g (p l[i]) _ tr' (h _ (List.getElem_mem hi)))
 have ha:(l.any fun x=>!p x) = !l.all p:=by simp [List.all_eq_not_any_not]
 rw [ha] at h1
 by_cases hn:(l.length:Int)≤n
 ·simp [KF,params,f139,hn,bsOf,h1]
 ·simp [KF,params,f139,hn,bsOf]
theorem fn_idxK (l:List GCatch) (g:Nat) (fst cap:List B) (σ:List Ob) (lo tr:Nat) (hlo:lo≤σ.length) (hc:(C.fn g fst cap).closed 0=false) (hf:(C.fn g fst cap).closed σ.length=true) (hσ:σ.all (Ob.closed σ.length)=true) (hs:l.length≤1000000) (p:GCatch→Bool)
  (hp:∀ i (h:i < l.length),∀ tr',Fn fns g (fst.map (fun b=>.c (.b b)) ++ [vCatch l[i]] ++ cap.map (fun b=>.c (.b b))) σ σ.length tr'=some (vbool (p l[i]),σ)):Fn fns 181 [vsl l,.c (.fn g fst cap)] σ lo tr=some (vint (idxI p l),σ):=by
 rw [fn_eq t181 rfl (by simp only [blindOk,List.all_cons,List.all_nil,V.closed,V.closed1,hc,Bool.false_and,Bool.and_false])]
 have hm:max lo σ.length=σ.length:=by omega
 have L:∀ (t:Nat) (k:AExit→St→Option (V × List Ob)),K fns ⟨σ.length,t⟩ f181_l0 ⟨[(0,vsl l),(1,.c (.fn g fst cap)),(7,vint l.length),(8,vint 0)],σ⟩ k=match l.findIdx? p with | some i=>k .ret ⟨[(4,vint i)],σ⟩ | none=>k (.exit 0) ⟨[],σ⟩:=fun t k =>
  scan_find (l:=l) (p:=p) (X:=fun i=>K fns ⟨σ.length,t⟩ f181_l0 ⟨[(0,vsl l),(1,.c (.fn g fst cap)),(7,vint l.length),(8,vint i)],σ⟩ k)
   (r:=fun i=>k .ret ⟨[(4,vint i)],σ⟩)
   (fun i hi=>by
    have hw:=wrap_succ (i:=i) (by omega)
    have h1:=hp i hi
    simp only [C.closed] at hf
    simp only [List.append_assoc,List.singleton_append] at h1
    show K fns _ f181_l0 _ k=_
    rw [u181_l0]
    cases hq:p l[i]<;>simp only [hq] at h1<;>simp [f181_b0,hi,hw,h1,hf,hσ])
   (by
    simp only [C.closed] at hf
    show K fns _ f181_l0 _ k=_;rw [u181_l0];simp [f181_b0,hσ])
 unfold idxI
 cases hq:l.findIdx? p<;>simp [KF,params,f181,hm,L,hq]
theorem fn_contK (l:List GCatch) (g:Nat) (fst cap:List B) (σ:List Ob) (lo tr:Nat) (hlo:lo≤σ.length) (hc:(C.fn g fst cap).closed 0=false) (hf:(C.fn g fst cap).closed σ.length=true) (hσ:σ.all (Ob.closed σ.length)=true) (hs:l.length≤1000000) (p:GCatch→Bool)
  (hp:∀ i (h:i < l.length),∀ tr',Fn fns g (fst.map (fun b=>.c (.b b)) ++ [vCatch l[i]] ++ cap.map (fun b=>.c (.b b))) σ σ.length tr'=some (vbool (p l[i]),σ)):Fn fns 165 [vsl l,.c (.fn g fst cap)] σ lo tr=some (vbool (l.any p),σ):=by
 rw [fn_eq t165 rfl (by simp only [blindOk,List.all_cons,List.all_nil,V.closed,V.closed1,hc,Bool.false_and,Bool.and_false])]
 rw [← idxI_ge]
 have h1:=fun lo tr hlo=>fn_idxK l g fst cap σ lo tr hlo hc hf hσ hs p hp
 have hm:max lo σ.length=σ.length:=by omega
 simp [KF,params,f165,hm,h1]
theorem fn_eachdK (x:GCatch) (g:Nat) (b:Bool) (lo tr:Nat) (h:∀ σ lo tr,Fn fns g [vCatch x] σ lo tr=some (vbool b,σ)):Fn fns 166 [vCatch x,vptr 0] [.cells [.fn g [] []]] lo tr=some (vbool (!b),[.cells [.fn g [] []]]):=by
 rw [fn_eq t166 rfl rfl]
 simp [KF,params,f166,h]
theorem fn_eachK (l:List GCatch) (n:Int) (g:Nat) (p:GCatch→Bool) (hs:l.length≤1000000) (h:∀ x ∈ l,∀ σ lo tr,Fn fns g [vCatch x] σ lo tr=some (vbool (p x),σ)) (σ:List Ob) (lo tr:Nat):Fn fns 141 [vsl l,vint n,.c (.fn g [] [])] σ lo tr=some (vbool (decide ((l.length:Int)≤n) && l.all p),σ):=by
 refine fn_gen t141 rfl (σ1:=[]) rfl rfl ?_ σ lo tr
 have h1:=fun lo tr hlo=>fn_contK l 166 [] [.ptr 0 0] [.cells [.fn g [] []]] lo tr hlo rfl rfl rfl hs (fun x=>!p x) (fun i hi tr'=>fn_eachdK l[i] g (p l[i]) _ tr' (h _ (List.getElem_mem hi)))
 have ha:(l.any fun x=>!p x) = !l.all p:=by simp [List.all_eq_not_any_not]
 rw [ha] at h1
 by_cases hn:(l.length:Int)≤n
 ·simp [KF,params,f141,hn,bsOf,h1]
 ·simp [KF,params,f141,hn,bsOf]
end
end Go.Proofs.YteeofkbhopioiaaGreatDoor.Am
