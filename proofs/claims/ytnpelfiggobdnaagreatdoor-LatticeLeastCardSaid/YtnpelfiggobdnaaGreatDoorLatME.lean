import Derived.Test.YtnpelfiggobdnaaGreatDoorLatMD
namespace Go.Proofs.YtnpelfiggobdnaaGreatDoor.Am
set_option linter.unusedSimpArgs false
set_option linter.unusedVariables false
set_option linter.unusedSectionVars false
open Go
section
attribute [local simp ↓] K_seq K_cond K_block K_region K_skip K_exit K_ret K_wrap KA_nil KA_none KA_some str_eq
attribute [local simp] beq_int bne_int dec_eqN dec_ltN dec_leN stepOp St.rd St.raw St.set St.took get_cons V.down C.down Env.keep binV unV arith isShift strs intOf optInt wrapEnd keptAt andK endOf frzV frz1 frzC frzCs frz1s resOf resOne resAll V.closed V.closed1 C.closed B.closed Ob.closed V.cells partsIn rep chunk datas C.data rowsOf getCells put_nil put_zero put_succ mayWrite C.plain eqV_bool eqV_agg eqV_pnn eqV_pnp eqV_ppn eqV_mnn eqV_mmn eqV_snn eqV_sen eqV_san eqV_sdn rs_len rs_getE rs_app rs_take rs_drop rs_all rs_each row_len str_nilP str_nilE str_nilB vagg row_Int row_Bool row_Str k_Int k_Bool k_Str snoc_Int snoc_Bool snoc_Str row_Type k_Type snoc_Type eta_Type sames_Type row_Field k_Field snoc_Field eta_Field sames_Field row_Instr k_Instr snoc_Instr eta_Instr sames_Instr row_Catch k_Catch snoc_Catch eta_Catch sames_Catch row_Method k_Method snoc_Method row_Class k_Class snoc_Class row_Program k_Program snoc_Program row_Slot k_Slot snoc_Slot eta_Slot sames_Slot row_State k_State snoc_State row_Val k_Val snoc_Val eta_Val sames_Val row_Obj k_Obj snoc_Obj row_Input k_Input snoc_Input row_Frame k_Frame snoc_Frame row_Run k_Run snoc_Run row_Way k_Way snoc_Way eta_Way sames_Way row_Task k_Task snoc_Task eta_Task sames_Task
section
variable {p:GProgram}
theorem right_of (hE:layE p=0) {k:Int} (hk:k=3∨k=5) (s:ByteArray):rightT p ⟨k,s⟩=(findC (allL p) s).isSome:=by
 unfold rightT
 rw [hE]
 rcases hk with rfl | rfl<;>simp
theorem find_isSome {s:ByteArray} (hs:s ∈ namesOf (allL p)):(findC (allL p) s).isSome=true:=by
 obtain ⟨c,f1,_⟩:=find_name hs
 rw [f1];rfl
set_option maxRecDepth 4000 in
theorem fn_rightsLaw (p:GProgram) (a:Int) (n:ByteArray) (σ:List Ob) (lo tr:Nat):Fn fns 9 [vProgram p,vint a,vstr n] σ lo tr=some (vbool true,σ):=by
 refine fn_gen t9 rfl (σ1:=[]) rfl rfl ?_ σ lo tr
 cases hv:heavy p
 case true=>simp [KF,params,f9,fn_heavy,hv]
 by_cases la:(60:Int) < n.size
 ·simp [KF,params,f9,fn_heavy,hv,la]
 have hp:=okP hv
 have hly:=fn_refLayout p hp
 rw [← lay_eq hp] at hly
 by_cases hE:layE p=0
 case neg=>simp [KF,params,f9,fn_heavy,hv,la,hly,hE]
 have hP:=layE_hier hE
 rw [hE] at hly
 have hall:=fn_all p hp
 have hL:=all_len hp
 have h0:0 < (allL p).length:=by simp [allL,baseL]
 obtain ⟨w1,kx,kx1,kx2⟩:=pick_ix a h0 (by omega)
 have hne:¬ ((allL p).length:Int)=0:=by omega
 have hne':¬ (allL p).length=0:=by omega
 have hne2:¬ allL p=[]:=fun h=>by rw [h] at h0;simp at h0
 obtain ⟨x,gx⟩:∃ x,(allL p)[kx]=x:=⟨_,rfl⟩
 have hxn:x.name ∈ namesOf (allL p):=List.mem_map.mpr ⟨x,by rw [← gx];exact List.getElem_mem kx1,rfl⟩
 have hfd:=fn_find p hp n
 rw [show foundP p n=findC (allL p) n from by unfold foundP;rw [if_pos hP]] at hfd
 have q1:=fn_right p hp ⟨3,x.name⟩
 have q2:=fn_right p hp ⟨5,x.name⟩
 have q3:=fn_right p hp ⟨3,n⟩
 have q4:=fn_right p hp ⟨2,x.name⟩
 have q5:=fn_right p hp ⟨1,⟨#[]⟩⟩
 have q6:=fn_right p hp ⟨7,⟨#[]⟩⟩
 have e4:rightT p ⟨2,x.name⟩=false:=by
  unfold rightT
  have:=name_pos hP hxn
  simp [this]
 have e5:rightT p ⟨1,⟨#[]⟩⟩=false:=by unfold rightT;simp
 have e6:rightT p ⟨7,⟨#[]⟩⟩=true:=by unfold rightT;simp [hE]
 rw [right_of hE (.inl rfl),find_isSome hxn] at q1
 rw [right_of hE (.inr rfl),find_isSome hxn] at q2
 rw [right_of hE (.inl rfl)] at q3
 rw [e4] at q4
 rw [e5] at q5
 rw [e6] at q6
 generalize (findC (allL p) n).isSome=fs at *
 generalize (findC (allL p) n).getD noC=fc at *
 generalize allL p=l at *
 have hr:=fn_lref
 cases fs<;>simp [KF,params,f9,fn_heavy,hv,la,hly,hall,hne,hne',hne2,w1,kx1,kx2,gx,hfd,hr,q1,q2,q3,q4,q5,q6,fn_lwakes]
end
section
variable {p:GProgram} (hp:OkP p) (hE:layE p=0)
include hp hE
theorem right_ref {k:Int} (hk:k=3∨k=5) {s:ByteArray} (hs:s ∈ namesOf (allL p)):rightT p ⟨k,s⟩=true:=by rw [right_of hE hk,find_isSome hs]
theorem fits_rr {x y:ByteArray} (hx:x ∈ namesOf (allL p)) (hy:y ∈ namesOf (allL p)):fitsT p ⟨3,x⟩ ⟨3,y⟩=underP p x y:=by
 have hP:=layE_hier hE
 unfold fitsT
 rw [right_ref hp hE (.inl rfl) hx,right_ref hp hE (.inl rfl) hy]
 by_cases e:x=y
 ·subst e
  simp [sameT,under_refl hp hP hx]
 ·simp [sameT,e]
theorem fits_55 {x y:ByteArray} (hx:x ∈ namesOf (allL p)) (hy:y ∈ namesOf (allL p)):fitsT p ⟨5,x⟩ ⟨5,y⟩=decide (x=y):=by
 unfold fitsT
 rw [right_ref hp hE (.inr rfl) hx,right_ref hp hE (.inr rfl) hy]
 by_cases e:x=y
 ·subst e
  simp [sameT]
 ·simp [sameT,e]
theorem fits_53 {x y:ByteArray} (hx:x ∈ namesOf (allL p)) (hy:y ∈ namesOf (allL p)):fitsT p ⟨5,x⟩ ⟨3,y⟩=decide (y=sObject):=by
 unfold fitsT
 rw [right_ref hp hE (.inr rfl) hx,right_ref hp hE (.inl rfl) hy]
 simp [sameT]
theorem fits_35 {x y:ByteArray} (hx:x ∈ namesOf (allL p)) (hy:y ∈ namesOf (allL p)):fitsT p ⟨3,x⟩ ⟨5,y⟩=false:=by
 unfold fitsT
 rw [right_ref hp hE (.inl rfl) hx,right_ref hp hE (.inr rfl) hy]
 simp [sameT]
end
set_option maxRecDepth 4000 in
theorem fn_underLaw (p:GProgram) (a b:Int) (σ:List Ob) (lo tr:Nat):Fn fns 8 [vProgram p,vint a,vint b] σ lo tr=some (vbool true,σ):=by
 refine fn_gen t8 rfl (σ1:=[]) rfl rfl ?_ σ lo tr
 cases hv:heavy p
 case true=>simp [KF,params,f8,fn_heavy,hv]
 have hp:=okP hv
 have hly:=fn_refLayout p hp
 rw [← lay_eq hp] at hly
 by_cases hE:layE p=0
 case neg=>simp [KF,params,f8,fn_heavy,hv,hly,hE]
 have hP:=layE_hier hE
 rw [hE] at hly
 have hall:=fn_all p hp
 have hL:=all_len hp
 have h0:0 < (allL p).length:=by simp [allL,baseL]
 obtain ⟨w1,kx,kx1,kx2⟩:=pick_ix a h0 (by omega)
 obtain ⟨_,ky,ky1,ky2⟩:=pick_ix b h0 (by omega)
 have hne:¬ ((allL p).length:Int)=0:=by omega
 have hne':¬ (allL p).length=0:=by omega
 have hne2:¬ allL p=[]:=fun h=>by rw [h] at h0;simp at h0
 obtain ⟨x,gx⟩:∃ x,(allL p)[kx]=x:=⟨_,rfl⟩
 obtain ⟨y,gy⟩:∃ y,(allL p)[ky]=y:=⟨_,rfl⟩
 have hxn:x.name ∈ namesOf (allL p):=List.mem_map.mpr ⟨x,by rw [← gx];exact List.getElem_mem kx1,rfl⟩
 have hyn:y.name ∈ namesOf (allL p):=List.mem_map.mpr ⟨y,by rw [← gy];exact List.getElem_mem ky1,rfl⟩
 have q1:=fn_fits p hp ⟨3,x.name⟩ ⟨3,y.name⟩
 have q2:=fn_fits p hp ⟨5,x.name⟩ ⟨5,y.name⟩
 have q3:=fn_fits p hp ⟨5,x.name⟩ ⟨3,y.name⟩
 have q4:=fn_fits p hp ⟨3,x.name⟩ ⟨5,x.name⟩
 rw [fits_rr hp hE hxn hyn] at q1
 rw [fits_55 hp hE hxn hyn] at q2
 rw [fits_53 hp hE hxn hyn] at q3
 rw [fits_35 hp hE hxn hxn] at q4
 have hu:=fn_under p hp x.name y.name
 generalize underP p x.name y.name=u at *
 generalize allL p=l at *
 have hr:=fn_lref
 cases u<;>simp [KF,params,f8,fn_heavy,hv,hly,hall,hne,hne',hne2,w1,kx1,kx2,ky1,ky2,gx,gy,hr,hu,q1,q2,q3,q4,fn_lwakes]
end
end Go.Proofs.YtnpelfiggobdnaaGreatDoor.Am
