import Derived.Test.YtnpelfiggobdnaaGreatDoorLatMG
namespace Go.Proofs.YtnpelfiggobdnaaGreatDoor.Am
set_option linter.unusedSimpArgs false
set_option linter.unusedVariables false
set_option linter.unusedSectionVars false
open Go
section
attribute [local simp ↓] K_seq K_cond K_block K_region K_skip K_exit K_ret K_wrap KA_nil KA_none KA_some str_eq
attribute [local simp] beq_int bne_int dec_eqN dec_ltN dec_leN stepOp St.rd St.raw St.set St.took get_cons V.down C.down Env.keep binV unV arith isShift strs intOf optInt wrapEnd keptAt andK endOf frzV frz1 frzC frzCs frz1s resOf resOne resAll V.closed V.closed1 C.closed B.closed Ob.closed V.cells partsIn rep chunk datas C.data rowsOf getCells put_nil put_zero put_succ mayWrite C.plain eqV_bool eqV_agg eqV_pnn eqV_pnp eqV_ppn eqV_mnn eqV_mmn eqV_snn eqV_sen eqV_san eqV_sdn rs_len rs_getE rs_app rs_take rs_drop rs_all rs_each row_len str_nilP str_nilE str_nilB vagg row_Int row_Bool row_Str k_Int k_Bool k_Str snoc_Int snoc_Bool snoc_Str row_Type k_Type snoc_Type eta_Type sames_Type row_Field k_Field snoc_Field eta_Field sames_Field row_Instr k_Instr snoc_Instr eta_Instr sames_Instr row_Catch k_Catch snoc_Catch eta_Catch sames_Catch row_Method k_Method snoc_Method row_Class k_Class snoc_Class row_Program k_Program snoc_Program row_Slot k_Slot snoc_Slot eta_Slot sames_Slot row_State k_State snoc_State row_Val k_Val snoc_Val eta_Val sames_Val row_Obj k_Obj snoc_Obj row_Input k_Input snoc_Input row_Frame k_Frame snoc_Frame row_Run k_Run snoc_Run row_Way k_Way snoc_Way eta_Way sames_Way row_Task k_Task snoc_Task eta_Task sames_Task
set_option maxRecDepth 4000 in
theorem fn_meetsLaw (p:GProgram) (a b:GType) (σ:List Ob) (lo tr:Nat):Fn fns 5 [vProgram p,vType a,vType b] σ lo tr=some (vbool true,σ):=by
 refine fn_gen t5 rfl (σ1:=[]) rfl rfl ?_ σ lo tr
 cases hv:heavy p
 case true=>simp [KF,params,f5,fn_heavy,hv]
 have hp:=okP hv
 have hly:=fn_refLayout p hp
 rw [← lay_eq hp] at hly
 by_cases hE:layE p=0
 case neg=>simp [KF,params,f5,fn_heavy,hv,hly,hE]
 rw [hE] at hly
 have h1:=fn_refRight p hp a
 have h2:=fn_refRight p hp b
 rw [rightR_eq hE] at h1 h2
 cases r1:rightT p a<;>rw [r1] at h1
 ·simp [KF,params,f5,fn_heavy,hv,hly,h1]
 cases r2:rightT p b<;>rw [r2] at h2
 ·simp [KF,params,f5,fn_heavy,hv,hly,h1,h2]
 obtain ⟨e1,e2,e3,e4,e5⟩:=meets_all hp hE r1 r2
 have m1:=fn_meet p hp a b
 have m2:=fn_meet p hp b a
 rw [show bothT p a b=true by simp [bothT,r1,r2]] at m1
 rw [show bothT p b a=true by simp [bothT,r1,r2],← e1] at m2
 have q1:=fn_right p hp (meetT p a b)
 have q2:=fn_fits p hp a (meetT p a b)
 have q3:=fn_fits p hp b (meetT p a b)
 have q4:=fn_fits p hp a b
 rw [e2] at q1
 rw [e3] at q2
 rw [e4] at q3
 generalize meetT p a b=t at *
 cases hf:fitsT p a b<;>rw [hf] at q4
 ·simp [KF,params,f5,fn_heavy,hv,hly,h1,h2,m1,m2,q1,q2,q3,q4,fn_lwakes]
 ·have:=e5 hf
  subst this
  simp [KF,params,f5,fn_heavy,hv,hly,h1,h2,m1,m2,q1,q2,q3,q4,fn_lwakes]
end
end Go.Proofs.YtnpelfiggobdnaaGreatDoor.Am
