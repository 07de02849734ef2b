/- Lemmas that the rows' proofs rest on; each states its own conditions. -/
import Derived.Test.YteeofkbhopioiaaGreatDoorLazMOa
import Derived.Test.YteeofkbhopioiaaGreatDoorLazMOb
import Derived.Test.YteeofkbhopioiaaGreatDoorLazMOc
import Derived.Test.YteeofkbhopioiaaGreatDoorLazMOd
namespace Go.Proofs.YteeofkbhopioiaaGreatDoor.Am
set_option linter.unusedSimpArgs false
set_option linter.unusedVariables false
set_option linter.unusedSectionVars false
open Go
section
attribute [local simp ↓] K_seq K_cond K_block K_region K_skip K_exit K_ret K_wrap KA_nil KA_none KA_some str_eq
attribute [local simp] beq_int bne_int dec_eqN dec_ltN dec_leN stepOp St.rd St.raw St.set St.took get_cons V.down C.down Env.keep binV unV arith isShift strs intOf optInt wrapEnd keptAt andK endOf frzV frz1 frzC frzCs frz1s resOf resOne resAll V.closed V.closed1 C.closed B.closed Ob.closed V.cells partsIn rep chunk datas C.data rowsOf getCells put_nil put_zero put_succ mayWrite C.plain eqV_bool eqV_agg eqV_pnn eqV_pnp eqV_ppn eqV_mnn eqV_mmn eqV_snn eqV_sen eqV_san eqV_sdn rs_len rs_getE rs_app rs_take rs_drop rs_all rs_each row_len str_nilP str_nilE str_nilB vagg row_Int row_Bool row_Str k_Int k_Bool k_Str snoc_Int snoc_Bool snoc_Str row_Type k_Type snoc_Type eta_Type sames_Type row_Field k_Field snoc_Field eta_Field sames_Field row_Instr k_Instr snoc_Instr eta_Instr sames_Instr row_Catch k_Catch snoc_Catch eta_Catch sames_Catch row_Method k_Method snoc_Method row_Class k_Class snoc_Class row_Program k_Program snoc_Program row_Slot k_Slot snoc_Slot eta_Slot sames_Slot row_Way k_Way snoc_Way eta_Way sames_Way
set_option maxRecDepth 8000 in
set_option maxHeartbeats 6400000 in
theorem fn_lazParts (p:GProgram) (name:ByteArray) (met:List GType) (real:GType) (null:Bool) (at_ long n:Int) (σ:List Ob) (lo tr:Nat):Fn fns 5 [vProgram p,vstr name,vsl met,vType real,vbool null,vint at_,vint long,vint n] σ lo tr=some (vbool true,σ):=by
 by_cases hall:(heavy p=false∧¬ (60:Int) < name.size∧layE p=0)∧met.length < 3∧rightR p ⟨3,name⟩=true
 ·obtain ⟨⟨hv,la,hE⟩,hm3,hrr⟩:=hall
  obtain ⟨rk,rn⟩:=real
  by_cases r3:rk=3
  ·subst r3
   cases null with
   | true=>exact parts_a p name met rn at_ long n hv la hE hm3 hrr σ lo tr
   | false =>
    by_cases hin:(0 < met.length∧0≤at_)∧at_ < met.length
    ·exact parts_b p name met rn at_ long n hv la hE hm3 hrr hin.1.1 hin.1.2 hin.2 σ lo tr
    ·exact parts_c p name met rn at_ long n hv la hE hm3 hrr hin σ lo tr
  ·exact parts_d p name met rn rk null at_ long n hv la hE hm3 hrr r3 σ lo tr
 refine fn_gen t5 rfl (σ1:=[]) rfl rfl ?_ σ lo tr
 cases hv:heavy p
 case true=>simp [KF,params,f5,fn_heavy,hv]
 by_cases la:(60:Int) < name.size
 ·simp [KF,params,f5,fn_heavy,hv,la]
 have hp:=okP hv
 have hly:=fn_refLayout p hp
 rw [← lay_eq hp] at hly
 by_cases hE:layE p=0
 case neg=>simp [KF,params,f5,fn_heavy,hv,la,hly,hE]
 rw [hE] at hly
 by_cases lc:(3:Int)≤met.length
 ·have lc':3≤met.length:=by omega
  simp [KF,params,f5,fn_heavy,hv,la,hly,lc,lc']
 have lc':¬ 3≤met.length:=by omega
 have hr:=fn_refRight p hp ⟨3,name⟩
 cases hrr:rightR p ⟨3,name⟩ with
 | false =>
  rw [hrr] at hr
  simp [KF,params,f5,fn_heavy,hv,la,hly,lc,lc',hr]
 | true=>exact absurd ⟨⟨hv,la,hE⟩,by omega,hrr⟩ hall
end
end Go.Proofs.YteeofkbhopioiaaGreatDoor.Am
