import Derived.Test.YtnpelfiggobdnaaGreatDoorLatMG
namespace Go.Proofs.YtnpelfiggobdnaaGreatDoor.Am
set_option linter.unusedSimpArgs false
set_option linter.unusedVariables false
set_option linter.unusedSectionVars false
open Go
section
attribute [local simp ↓] K_seq K_cond K_block K_region K_skip K_exit K_ret K_wrap KA_nil KA_none KA_some str_eq
attribute [local simp] beq_int bne_int dec_eqN dec_ltN dec_leN stepOp St.rd St.raw St.set St.took get_cons V.down C.down Env.keep binV unV arith isShift strs intOf optInt wrapEnd keptAt andK endOf frzV frz1 frzC frzCs frz1s resOf resOne resAll V.closed V.closed1 C.closed B.closed Ob.closed V.cells partsIn rep chunk datas C.data rowsOf getCells put_nil put_zero put_succ mayWrite C.plain eqV_bool eqV_agg eqV_pnn eqV_pnp eqV_ppn eqV_mnn eqV_mmn eqV_snn eqV_sen eqV_san eqV_sdn rs_len rs_getE rs_app rs_take rs_drop rs_all rs_each row_len str_nilP str_nilE str_nilB vagg row_Int row_Bool row_Str k_Int k_Bool k_Str snoc_Int snoc_Bool snoc_Str row_Type k_Type snoc_Type eta_Type sames_Type row_Field k_Field snoc_Field eta_Field sames_Field row_Instr k_Instr snoc_Instr eta_Instr sames_Instr row_Catch k_Catch snoc_Catch eta_Catch sames_Catch row_Method k_Method snoc_Method row_Class k_Class snoc_Class row_Program k_Program snoc_Program row_Slot k_Slot snoc_Slot eta_Slot sames_Slot row_State k_State snoc_State row_Val k_Val snoc_Val eta_Val sames_Val row_Obj k_Obj snoc_Obj row_Input k_Input snoc_Input row_Frame k_Frame snoc_Frame row_Run k_Run snoc_Run row_Way k_Way snoc_Way eta_Way sames_Way row_Task k_Task snoc_Task eta_Task sames_Task
set_option maxRecDepth 4000 in
theorem fn_leastLaw (p:GProgram) (a b c:Int) (σ:List Ob) (lo tr:Nat):Fn fns 7 [vProgram p,vint a,vint b,vint c] σ lo tr=some (vbool true,σ):=by
 refine fn_gen t7 rfl (σ1:=[]) rfl rfl ?_ σ lo tr
 cases hv:heavy p
 case true=>simp [KF,params,f7,fn_heavy,hv]
 have hp:=okP hv
 have hly:=fn_refLayout p hp
 rw [← lay_eq hp] at hly
 by_cases hE:layE p=0
 case neg=>simp [KF,params,f7,fn_heavy,hv,hly,hE]
 have hP:=layE_hier hE
 rw [hE] at hly
 have hall:=fn_all p hp
 have hL:=all_len hp
 have h0:0 < (allL p).length:=by simp [allL,baseL]
 obtain ⟨w1,kx,kx1,kx2⟩:=pick_ix a h0 (by omega)
 obtain ⟨_,ky,ky1,ky2⟩:=pick_ix b h0 (by omega)
 obtain ⟨_,kz,kz1,kz2⟩:=pick_ix c h0 (by omega)
 have hne:¬ ((allL p).length:Int)=0:=by omega
 have hne':¬ (allL p).length=0:=by omega
 have hne2:¬ allL p=[]:=fun h=>by rw [h] at h0;simp at h0
 obtain ⟨x,gx⟩:∃ x,(allL p)[kx]=x:=⟨_,rfl⟩
 obtain ⟨y,gy⟩:∃ y,(allL p)[ky]=y:=⟨_,rfl⟩
 obtain ⟨z,gz⟩:∃ z,(allL p)[kz]=z:=⟨_,rfl⟩
 have mx:x ∈ allL p:=by rw [← gx];exact List.getElem_mem kx1
 have my:y ∈ allL p:=by rw [← gy];exact List.getElem_mem ky1
 have mz:z ∈ allL p:=by rw [← gz];exact List.getElem_mem kz1
 have hx:x.name ∈ namesOf (allL p):=List.mem_map.mpr ⟨x,mx,rfl⟩
 have hy:y.name ∈ namesOf (allL p):=List.mem_map.mpr ⟨y,my,rfl⟩
 have m1:=fn_meet p hp ⟨3,x.name⟩ ⟨3,y.name⟩
 rw [show bothT p ⟨3,x.name⟩ ⟨3,y.name⟩=true by simp [bothT,right_ref hp hE (.inl rfl) hx,right_ref hp hE (.inl rfl) hy],meet_33 hp hE] at m1
 have u1:=fn_under p hp x.name z.name
 have u2:=fn_under p hp y.name z.name
 have u3:=fn_under p hp (metN p x.name y.name) z.name
 have key:x.iface=false→z.iface=false→underP p x.name z.name=true→underP p y.name z.name=true→underP p (metN p x.name y.name) z.name=true:=fun ix iz v1 v2 =>
  met_least hp hE hx hy (by unfold isCls;rw [cls_self hp hP mx];exact ix) (by unfold isCls;rw [cls_self hp hP mz];exact iz) v1 v2
 generalize metN p x.name y.name=t at *
 generalize underP p x.name z.name=v1 at *
 generalize underP p y.name z.name=v2 at *
 generalize underP p t z.name=v3 at *
 generalize allL p=l at *
 have hr:=fn_lref
 cases ix:x.iface
 case true=>simp [KF,params,f7,List.getElem?_append_left,List.getElem?_append_right,List.set_append_left,List.set_append_right,fn_heavy,hv,hly,hall,hne,hne',hne2,w1,kx1,kx2,ky1,ky2,kz1,kz2,gx,gy,gz,ix,fn_lwakes]
 cases iy:y.iface
 case true=>simp [KF,params,f7,List.getElem?_append_left,List.getElem?_append_right,List.set_append_left,List.set_append_right,fn_heavy,hv,hly,hall,hne,hne',hne2,w1,kx1,kx2,ky1,ky2,kz1,kz2,gx,gy,gz,ix,iy,fn_lwakes]
 cases iz:z.iface
 case true=>simp [KF,params,f7,List.getElem?_append_left,List.getElem?_append_right,List.set_append_left,List.set_append_right,fn_heavy,hv,hly,hall,hne,hne',hne2,w1,kx1,kx2,ky1,ky2,kz1,kz2,gx,gy,gz,ix,iy,iz,fn_lwakes]
 have key:=key ix iz
 cases v1
 ·simp [KF,params,f7,List.getElem?_append_left,List.getElem?_append_right,List.set_append_left,List.set_append_right,fn_heavy,hv,hly,hall,hne,hne',hne2,w1,kx1,kx2,ky1,ky2,kz1,kz2,gx,gy,gz,ix,iy,iz,hr,m1,u1,fn_lwakes]
 cases v2
 ·simp [KF,params,f7,List.getElem?_append_left,List.getElem?_append_right,List.set_append_left,List.set_append_right,fn_heavy,hv,hly,hall,hne,hne',hne2,w1,kx1,kx2,ky1,ky2,kz1,kz2,gx,gy,gz,ix,iy,iz,hr,m1,u1,u2,fn_lwakes]
 have:=key rfl rfl
 subst this
 simp [KF,params,f7,List.getElem?_append_left,List.getElem?_append_right,List.set_append_left,List.set_append_right,fn_heavy,hv,hly,hall,hne,hne',hne2,w1,kx1,kx2,ky1,ky2,kz1,kz2,gx,gy,gz,ix,iy,iz,hr,m1,u1,u2,u3,fn_lwakes]
end
end Go.Proofs.YtnpelfiggobdnaaGreatDoor.Am
