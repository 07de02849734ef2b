/- Lemmas that the rows' proofs rest on; each states its own conditions. -/
import Derived.Test.YteeofkbhopioiaaGreatDoorLazMN
namespace Go.Proofs.YteeofkbhopioiaaGreatDoor.Am
set_option linter.unusedSimpArgs false
set_option linter.unusedVariables false
set_option linter.unusedSectionVars false
open Go
section
attribute [local simp ↓] K_seq K_cond K_block K_region K_skip K_exit K_ret K_wrap KA_nil KA_none KA_some str_eq
attribute [local simp] beq_int bne_int dec_eqN dec_ltN dec_leN stepOp St.rd St.raw St.set St.took get_cons V.down C.down Env.keep binV unV arith isShift strs intOf optInt wrapEnd keptAt andK endOf frzV frz1 frzC frzCs frz1s resOf resOne resAll V.closed V.closed1 C.closed B.closed Ob.closed V.cells partsIn rep chunk datas C.data rowsOf getCells put_nil put_zero put_succ mayWrite C.plain eqV_bool eqV_agg eqV_pnn eqV_pnp eqV_ppn eqV_mnn eqV_mmn eqV_snn eqV_sen eqV_san eqV_sdn rs_len rs_getE rs_app rs_take rs_drop rs_all rs_each row_len str_nilP str_nilE str_nilB vagg row_Int row_Bool row_Str k_Int k_Bool k_Str snoc_Int snoc_Bool snoc_Str row_Type k_Type snoc_Type eta_Type sames_Type row_Field k_Field snoc_Field eta_Field sames_Field row_Instr k_Instr snoc_Instr eta_Instr sames_Instr row_Catch k_Catch snoc_Catch eta_Catch sames_Catch row_Method k_Method snoc_Method row_Class k_Class snoc_Class row_Program k_Program snoc_Program row_Slot k_Slot snoc_Slot eta_Slot sames_Slot row_Way k_Way snoc_Way eta_Way sames_Way
set_option maxRecDepth 8000 in
set_option maxHeartbeats 6400000 in
theorem parts_d (p:GProgram) (name:ByteArray) (met:List GType) (rn:ByteArray) (rk:Int) (null:Bool) (at_ long n:Int) (hv:heavy p=false) (la:¬ (60:Int) < name.size) (hE:layE p=0) (hm3:met.length < 3) (hrr:rightR p ⟨3,name⟩=true) (r3:rk≠3) (σ:List Ob) (lo tr:Nat):Fn fns 5 [vProgram p,vstr name,vsl met,vType ⟨rk,rn⟩,vbool null,vint at_,vint long,vint n] σ lo tr=some (vbool true,σ):=by
 refine fn_gen t5 rfl (σ1:=[]) rfl rfl ?_ σ lo tr
 have hp:=okP hv
 have hly:=fn_refLayout p hp
 rw [← lay_eq hp,hE] at hly
 have hP:=layE_hier hE
 have lc:¬ (3:Int)≤met.length:=by omega
 have lc':¬ 3≤met.length:=by omega
 have hr:=fn_refRight p hp ⟨3,name⟩
 rw [hrr] at hr
 obtain ⟨m,hm1,hm2⟩:=mod4 long
 obtain ⟨q,hq1,hq2⟩:=mod4 n
 by_cases hnm:namedT p ⟨rk,rn⟩=true
 case neg =>
  have hX:waysX p ⟨rk,rn⟩ met 3 m=8:=by unfold waysX;rw [if_pos hE,if_neg hnm]
  have h1:=fn_lazyWays p hp ⟨rk,rn⟩ met (by omega) 3 m
  rw [hX] at h1
  simp [KF,params,f5,List.getElem?_append_left,List.getElem?_append_right,List.set_append_left,List.set_append_right,fn_heavy,hv,la,hly,lc,lc',hr,hm2,hq2,h1,r3,fn_wakesL]
 have hX:waysX p ⟨rk,rn⟩ met 3 m=0:=by unfold waysX;rw [if_pos hE,if_pos hnm,if_neg (by omega)]
 have hW:waysP p ⟨rk,rn⟩ met 3 m=waysI p ⟨rk,rn⟩ met 3 m:=by unfold waysP;rw [if_pos hX]
 have h1:=fn_lazyWays p hp ⟨rk,rn⟩ met (by omega) 3 m
 rw [hX,hW] at h1
 have hlen:(waysI p ⟨rk,rn⟩ met 3 m).length≤1000:=by
  have h1:=there_len p ⟨rk,rn⟩ met 0
  unfold waysI newF
  rw [List.length_cons,List.length_append,if_neg (by omega),if_neg (by simpa using r3),List.length_map,List.length_range]
  omega
 have Lo:=fun is k=>parts_loop p met null at_ q ⟨rk,rn⟩ ⟨rk,rn⟩ (waysI p ⟨rk,rn⟩ met 3 m) (by omega) is k _ 0 0 (Nat.zero_add _) (by omega)
 rw [List.drop_zero,Nat.zero_add] at Lo
 simp only [Int.natCast_zero] at Lo
 cases null with
 | true =>
  rw [part_null,count_null hm3] at Lo
  generalize waysI p ⟨rk,rn⟩ met 3 m=W at *
  by_cases hq:q≤m<;>simp [KF,params,f5,List.getElem?_append_left,List.getElem?_append_right,List.set_append_left,List.set_append_right,fn_heavy,hv,la,hly,lc,lc',hr,hm2,hq2,h1,r3,hq,Lo,fn_wakesL]
 | false =>
  by_cases hin:(0 < met.length∧0≤at_)∧at_ < met.length
  ·obtain ⟨⟨m0,a1⟩,a2⟩:=hin
   obtain ⟨j,rfl⟩:∃ j:Nat,at_=j:=⟨at_.toNat,by omega⟩
   have hj:j < met.length:=by omega
   rw [part_met ⟨⟨m0,a1⟩,a2⟩,count_met hm3 hj] at Lo
   obtain ⟨b,hb⟩:∃ b,met[j]=b:=⟨_,rfl⟩
   simp only [hb] at Lo
   have hmay:mayT p ⟨rk,rn⟩ b=decide (b=⟨rk,rn⟩):=by unfold mayT;rw [if_neg r3]
   rw [hmay] at Lo
   generalize waysI p ⟨rk,rn⟩ met 3 m=W at *
   by_cases e:b=⟨rk,rn⟩
   ·subst e
    by_cases hq:q≤m<;>simp [KF,params,f5,List.getElem?_append_left,List.getElem?_append_right,List.set_append_left,List.set_append_right,fn_heavy,hv,la,hly,lc,lc',hr,hm2,hq2,h1,r3,hq,hj,hb,m0,Lo,fn_wakesL]
   ·obtain ⟨bk,bn⟩:=b
    by_cases hq:q≤m<;>simp [KF,params,f5,List.getElem?_append_left,List.getElem?_append_right,List.set_append_left,List.set_append_right,fn_heavy,hv,la,hly,lc,lc',hr,hm2,hq2,h1,r3,hq,hj,hb,m0,e,Lo,fn_wakesL]
  ·have hin':(¬ 0 < met.length)∨(0 < met.length∧¬ 0≤at_)∨(0 < met.length∧0≤at_∧¬ at_ < met.length):=by omega
   rw [part_row hin r3,count_row hm3 r3 q (by omega)] at Lo
   generalize waysI p ⟨rk,rn⟩ met 3 m=W at *
   rcases hin' with g | ⟨g1,g⟩ | ⟨g1,g2,g⟩
   ·by_cases hq:q≤m<;>simp [KF,params,f5,List.getElem?_append_left,List.getElem?_append_right,List.set_append_left,List.set_append_right,fn_heavy,hv,la,hly,lc,lc',hr,hm2,hq2,h1,r3,hq,g,Lo,fn_wakesL]
   ·by_cases hq:q≤m<;>simp [KF,params,f5,List.getElem?_append_left,List.getElem?_append_right,List.set_append_left,List.set_append_right,fn_heavy,hv,la,hly,lc,lc',hr,hm2,hq2,h1,r3,hq,g1,g,Lo,fn_wakesL]
   ·by_cases hq:q≤m<;>simp [KF,params,f5,List.getElem?_append_left,List.getElem?_append_right,List.set_append_left,List.set_append_right,fn_heavy,hv,la,hly,lc,lc',hr,hm2,hq2,h1,r3,hq,g1,g2,g,Lo,fn_wakesL]
end
end Go.Proofs.YteeofkbhopioiaaGreatDoor.Am
