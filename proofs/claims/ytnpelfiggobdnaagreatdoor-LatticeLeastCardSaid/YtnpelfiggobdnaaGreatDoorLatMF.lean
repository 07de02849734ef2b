import Derived.Test.YtnpelfiggobdnaaGreatDoorLatME
namespace Go.Proofs.YtnpelfiggobdnaaGreatDoor.Am
set_option linter.unusedSimpArgs false
set_option linter.unusedVariables false
set_option linter.unusedSectionVars false
open Go
section
attribute [local simp ↓] K_seq K_cond K_block K_region K_skip K_exit K_ret K_wrap KA_nil KA_none KA_some str_eq
attribute [local simp] beq_int bne_int dec_eqN dec_ltN dec_leN stepOp St.rd St.raw St.set St.took get_cons V.down C.down Env.keep binV unV arith isShift strs intOf optInt wrapEnd keptAt andK endOf frzV frz1 frzC frzCs frz1s resOf resOne resAll V.closed V.closed1 C.closed B.closed Ob.closed V.cells partsIn rep chunk datas C.data rowsOf getCells put_nil put_zero put_succ mayWrite C.plain eqV_bool eqV_agg eqV_pnn eqV_pnp eqV_ppn eqV_mnn eqV_mmn eqV_snn eqV_sen eqV_san eqV_sdn rs_len rs_getE rs_app rs_take rs_drop rs_all rs_each row_len str_nilP str_nilE str_nilB vagg row_Int row_Bool row_Str k_Int k_Bool k_Str snoc_Int snoc_Bool snoc_Str row_Type k_Type snoc_Type eta_Type sames_Type row_Field k_Field snoc_Field eta_Field sames_Field row_Instr k_Instr snoc_Instr eta_Instr sames_Instr row_Catch k_Catch snoc_Catch eta_Catch sames_Catch row_Method k_Method snoc_Method row_Class k_Class snoc_Class row_Program k_Program snoc_Program row_Slot k_Slot snoc_Slot eta_Slot sames_Slot row_State k_State snoc_State row_Val k_Val snoc_Val eta_Val sames_Val row_Obj k_Obj snoc_Obj row_Input k_Input snoc_Input row_Frame k_Frame snoc_Frame row_Run k_Run snoc_Run row_Way k_Way snoc_Way eta_Way sames_Way row_Task k_Task snoc_Task eta_Task sames_Task
theorem err_in (p:GProgram):sError ∈ namesOf (allL p):=by simp [namesOf,allL,baseL]
section
variable {p:GProgram} (hp:OkP p) (hE:layE p=0)
include hE
theorem right_plain {k:Int} (hk:k=2∨k=4∨k=6∨k=7):rightT p ⟨k,⟨#[]⟩⟩=true:=by
 unfold rightT
 rw [hE]
 rcases hk with rfl | rfl | rfl | rfl<;>simp
end
set_option maxRecDepth 4000 in
theorem fn_kindsLaw6 (p:GProgram) (a:Int) (σ:List Ob) (lo tr:Nat):Fn fns 6 [vProgram p,vint a] σ lo tr=some (vbool true,σ):=by
 refine fn_gen t6 rfl (σ1:=[]) rfl rfl ?_ σ lo tr
 cases hv:heavy p
 case true=>simp [KF,params,f6,fn_heavy,hv]
 have hp:=okP hv
 have hly:=fn_refLayout p hp
 rw [← lay_eq hp] at hly
 by_cases hE:layE p=0
 case neg=>simp [KF,params,f6,fn_heavy,hv,hly,hE]
 have hP:=layE_hier hE
 rw [hE] at hly
 have hall:=fn_all p hp
 have hL:=all_len hp
 have h0:0 < (allL p).length:=by simp [allL,baseL]
 obtain ⟨w1,kx,kx1,kx2⟩:=pick_ix a h0 (by omega)
 have hne:¬ ((allL p).length:Int)=0:=by omega
 have hne':¬ (allL p).length=0:=by omega
 have hne2:¬ allL p=[]:=fun h=>by rw [h] at h0;simp at h0
 obtain ⟨x,gx⟩:∃ x,(allL p)[kx]=x:=⟨_,rfl⟩
 have hxn:x.name ∈ namesOf (allL p):=List.mem_map.mpr ⟨x,by rw [← gx];exact List.getElem_mem kx1,rfl⟩
 have r3:=right_ref hp hE (.inl rfl) hxn
 have r5:=right_ref hp hE (.inr rfl) hxn
 have m1:=fn_meet p hp ⟨2,⟨#[]⟩⟩ ⟨3,x.name⟩
 have m2:=fn_meet p hp ⟨4,⟨#[]⟩⟩ ⟨5,x.name⟩
 have m3:=fn_meet p hp ⟨6,⟨#[]⟩⟩ ⟨5,x.name⟩
 have m4:=fn_meet p hp ⟨5,x.name⟩ ⟨3,x.name⟩
 rw [show bothT p ⟨2,⟨#[]⟩⟩ ⟨3,x.name⟩=true by simp [bothT,r3,right_plain hE],show meetT p ⟨2,⟨#[]⟩⟩ ⟨3,x.name⟩=⟨7,⟨#[]⟩⟩ by simp [meetT,sameT,isRefB]] at m1
 rw [show bothT p ⟨4,⟨#[]⟩⟩ ⟨5,x.name⟩=true by simp [bothT,r5,right_plain hE],show meetT p ⟨4,⟨#[]⟩⟩ ⟨5,x.name⟩=tObject by simp [meetT,sameT,isRefB]] at m2
 rw [show bothT p ⟨6,⟨#[]⟩⟩ ⟨5,x.name⟩=true by simp [bothT,r5,right_plain hE],show meetT p ⟨6,⟨#[]⟩⟩ ⟨5,x.name⟩=⟨5,x.name⟩ by simp [meetT,sameT,isRefB]] at m3
 rw [show bothT p ⟨5,x.name⟩ ⟨3,x.name⟩=true by simp [bothT,r5,r3],show meetT p ⟨5,x.name⟩ ⟨3,x.name⟩=tObject by simp [meetT,sameT,isRefB]] at m4
 have q1:=fn_fits p hp ⟨5,x.name⟩ ⟨3,sError⟩
 have q2:=fn_fits p hp ⟨5,x.name⟩ ⟨3,sObject⟩
 rw [fits_53 hp hE hxn (err_in p)] at q1
 rw [fits_53 hp hE hxn (obj_in p)] at q2
 generalize allL p=l at *
 have hr:=fn_lref
 simp [KF,params,f6,fn_heavy,hv,hly,hall,hne,hne',hne2,w1,kx1,kx2,gx,hr,m1,m2,m3,m4,q1,q2,fn_lwakes]
section
variable {p:GProgram}
theorem fits_iff {a b:GType} (r1:rightT p a=true) (r2:rightT p b=true):fitsT p a b=true↔b.kind=7∨a=b∨(a.kind=6∧isRefB b=true)∨(a.kind=3∧b.kind=3∧underP p a.name b.name=true)∨(b.kind=3∧b.name=sObject∧(a.kind=4∨a.kind=5)):=by
 unfold fitsT
 rw [r1,r2]
 simp only [Bool.true_eq_false,or_self,if_false]
 by_cases h1:b.kind=7∨sameT a b=true
 ·rw [if_pos h1]
  rw [same_iff] at h1
  constructor
  ·intro _
   rcases h1 with h | h
   ·exact .inl h
   ·exact .inr (.inl h)
  ·intro _;rfl
 ·rw [if_neg h1]
  rw [same_iff,not_or] at h1
  by_cases a6:a.kind=6
  ·rw [if_pos a6]
   constructor
   ·intro h;exact .inr (.inr (.inl ⟨a6,h⟩))
   ·rintro (h | h | ⟨_,h⟩ | ⟨h,_⟩ | ⟨_,_,h⟩)
    ·exact absurd h h1.1
    ·exact absurd h h1.2
    ·exact h
    ·omega
    ·omega
  ·rw [if_neg a6]
   by_cases h3:a.kind=3∧b.kind=3
   ·rw [if_pos h3]
    constructor
    ·intro h;exact .inr (.inr (.inr (.inl ⟨h3.1,h3.2,h⟩)))
    ·rintro (h | h | ⟨h,_⟩ | ⟨_,_,h⟩ | ⟨_,_,h⟩)
     ·exact absurd h h1.1
     ·exact absurd h h1.2
     ·exact absurd h a6
     ·exact h
     ·omega
   ·rw [if_neg h3]
    simp only [Bool.and_eq_true,Bool.or_eq_true,decide_eq_true_eq]
    constructor
    ·rintro ⟨⟨u,v⟩,w⟩;exact .inr (.inr (.inr (.inr ⟨u,v,w⟩)))
    ·rintro (h | h | ⟨h,_⟩ | ⟨u,v,_⟩ | ⟨u,v,w⟩)
     ·exact absurd h h1.1
     ·exact absurd h h1.2
     ·exact absurd h a6
     ·exact absurd ⟨u,v⟩ h3
     ·exact ⟨⟨u,v⟩,w⟩
variable (hp:OkP p) (hE:layE p=0)
include hp hE
theorem fits_trans {a b c:GType} (r1:rightT p a=true) (r2:rightT p b=true) (r3:rightT p c=true) (h1:fitsT p a b=true) (h2:fitsT p b c=true):fitsT p a c=true:=by
 have hP:=layE_hier hE
 rw [fits_iff r1 r2] at h1
 rw [fits_iff r2 r3] at h2
 rw [fits_iff r1 r3]
 rcases h2 with h | rfl | ⟨b6,hc⟩ | ⟨b3,c3,u⟩ | ⟨c3,co,b45⟩
 ·exact .inl h
 ·exact h1
 ·rcases h1 with h | rfl | ⟨a6,_⟩ | ⟨_,h,_⟩ | ⟨h,_⟩
  ·omega
  ·exact .inr (.inr (.inl ⟨b6,hc⟩))
  ·exact .inr (.inr (.inl ⟨a6,hc⟩))
  ·omega
  ·omega
 ·rcases h1 with h | rfl | ⟨a6,_⟩ | ⟨a3,_,v⟩ | ⟨_,bo,a45⟩
  ·omega
  ·exact .inr (.inr (.inr (.inl ⟨b3,c3,u⟩)))
  ·exact .inr (.inr (.inl ⟨a6,by simp [isRefB,c3]⟩))
  ·exact .inr (.inr (.inr (.inl ⟨a3,c3,under_trans hp hP v u⟩)))
  ·have hcn:=(right_name r3).2 (.inl c3)
   rw [bo] at u
   have:=under_anti hp hP u (under_object hp hP hcn)
   exact .inr (.inr (.inr (.inr ⟨c3,this.symm,a45⟩)))
 ·rcases h1 with h | rfl | ⟨a6,_⟩ | ⟨_,h,_⟩ | ⟨h,_⟩
  ·omega
  ·exact .inr (.inr (.inr (.inr ⟨c3,co,b45⟩)))
  ·exact .inr (.inr (.inl ⟨a6,by simp [isRefB,c3]⟩))
  ·omega
  ·omega
end
set_option maxRecDepth 4000 in
theorem fn_fitsLaw (p:GProgram) (a b c:GType) (σ:List Ob) (lo tr:Nat):Fn fns 4 [vProgram p,vType a,vType b,vType c] σ lo tr=some (vbool true,σ):=by
 refine fn_gen t4 rfl (σ1:=[]) rfl rfl ?_ σ lo tr
 cases hv:heavy p
 case true=>simp [KF,params,f4,fn_heavy,hv]
 have hp:=okP hv
 have hly:=fn_refLayout p hp
 rw [← lay_eq hp] at hly
 by_cases hE:layE p=0
 case neg=>simp [KF,params,f4,fn_heavy,hv,hly,hE]
 rw [hE] at hly
 have h1:=fn_refRight p hp a
 have h2:=fn_refRight p hp b
 have h3:=fn_refRight p hp c
 rw [rightR_eq hE] at h1 h2 h3
 cases r1:rightT p a<;>rw [r1] at h1
 ·simp [KF,params,f4,fn_heavy,hv,hly,h1]
 cases r2:rightT p b<;>rw [r2] at h2
 ·simp [KF,params,f4,fn_heavy,hv,hly,h1,h2]
 cases r3:rightT p c<;>rw [r3] at h3
 ·simp [KF,params,f4,fn_heavy,hv,hly,h1,h2,h3]
 have q1:=fn_fits p hp a a
 have q2:=fn_fits p hp a ⟨7,⟨#[]⟩⟩
 have q3:=fn_fits p hp a b
 have q4:=fn_fits p hp b c
 have q5:=fn_fits p hp a c
 rw [(fits_iff r1 r1).mpr (.inr (.inl rfl))] at q1
 rw [(fits_iff r1 (right_plain hE (by simp))).mpr (.inl rfl)] at q2
 have ht:=fits_trans hp hE r1 r2 r3
 generalize fitsT p a b=x at *
 generalize fitsT p b c=y at *
 generalize fitsT p a c=z at *
 cases x
 ·simp [KF,params,f4,fn_heavy,hv,hly,h1,h2,h3,q1,q2,q3,fn_lwakes]
 ·cases y
  ·simp [KF,params,f4,fn_heavy,hv,hly,h1,h2,h3,q1,q2,q3,q4,fn_lwakes]
  ·have hz:=ht rfl rfl
   rw [hz] at q5
   simp [KF,params,f4,fn_heavy,hv,hly,h1,h2,h3,q1,q2,q3,q4,q5,fn_lwakes]
end
end Go.Proofs.YtnpelfiggobdnaaGreatDoor.Am
