/- Lemmas that the rows' proofs rest on; each states its own conditions. -/
import Derived.Test.YteeofkbhopioiaaGreatDoorLatMD
import Derived.Test.YteeofkbhopioiaaGreatDoorLatMC
namespace Go.Proofs.YteeofkbhopioiaaGreatDoor.Am
set_option linter.unusedSimpArgs false
set_option linter.unusedVariables false
set_option linter.unusedSectionVars false
open Go
section
variable {p:GProgram} (hp:OkP p) (hP:hierP p=0)
include hp hP
end
section
variable {p:GProgram} (hp:OkP p) (hP:hierP p=0)
include hp hP
end
section
variable {p:GProgram} (hp:OkP p) (hP:hierP p=0)
include hp hP
end
section
attribute [local simp ↓] K_seq K_cond K_block K_region K_skip K_exit K_ret K_wrap KA_nil KA_none KA_some str_eq
attribute [local simp] beq_int bne_int dec_eqN dec_ltN dec_leN stepOp St.rd St.raw St.set St.took get_cons V.down C.down Env.keep binV unV arith isShift strs intOf optInt wrapEnd keptAt andK endOf frzV frz1 frzC frzCs frz1s resOf resOne resAll V.closed V.closed1 C.closed B.closed Ob.closed V.cells partsIn rep chunk datas C.data rowsOf getCells put_nil put_zero put_succ mayWrite C.plain eqV_bool eqV_agg eqV_pnn eqV_pnp eqV_ppn eqV_mnn eqV_mmn eqV_snn eqV_sen eqV_san eqV_sdn rs_len rs_getE rs_app rs_take rs_drop rs_all rs_each row_len str_nilP str_nilE str_nilB vagg row_Int row_Bool row_Str k_Int k_Bool k_Str snoc_Int snoc_Bool snoc_Str row_Type k_Type snoc_Type eta_Type sames_Type row_Field k_Field snoc_Field eta_Field sames_Field row_Instr k_Instr snoc_Instr eta_Instr sames_Instr row_Catch k_Catch snoc_Catch eta_Catch sames_Catch row_Method k_Method snoc_Method row_Class k_Class snoc_Class row_Program k_Program snoc_Program row_Slot k_Slot snoc_Slot eta_Slot sames_Slot row_Way k_Way snoc_Way eta_Way sames_Way
theorem got_R (t:Tabs) (k:ByteArray):∃ r,findKey [2] (vstr k) (encR t.rs) 0=some r∧((r=none∧lookA t.rs k=none)∨∃ i o,r=some (i,vsl o)∧lookA t.rs k=some o):=by
 rcases map_R t.rs k with ⟨k1,k2,_⟩ | ⟨j,v,hj,k1,hj2,k2,_,_⟩
 ·exact ⟨none,k1,.inl ⟨rfl,k2⟩⟩
 ·exact ⟨_,k1,.inr ⟨j,v,rfl,k2⟩⟩
theorem got_L (t:Tabs) (k:ByteArray):∃ r,findKey [2] (vstr k) (encL t.ls) 0=some r∧((r=none∧lookA t.ls k=none)∨∃ i o,r=some (i,.c (.osl 4 (rows (o:List GSlot))))∧lookA t.ls k=some o):=by
 rcases map_L t.ls k with ⟨k1,k2,_⟩ | ⟨j,v,hj,k1,hj2,k2,_,_⟩
 ·exact ⟨none,k1,.inl ⟨rfl,k2⟩⟩
 ·exact ⟨_,k1,.inr ⟨j,v,rfl,k2⟩⟩
def clsB (p:GProgram) (s:ByteArray):Bool:=decide (s ∈ namesOf (allL p)) && !(clsN (allL p) s).iface
theorem cls_iff {p:GProgram} {s:ByteArray}:clsB p s=true↔s ∈ namesOf (allL p)∧(clsN (allL p) s).iface=false:=by
 unfold clsB;simp
theorem rs_cls {p:GProgram} (hp:OkP p) (hP:hierP p=0) (s:ByteArray):lookA (tabsL (allL p)).rs s=if clsB p s=true then some (rowL (allL p) s) else none:=by
 rw [(told_all hp hP).rs]
 by_cases h:clsB p s=true
 ·rw [if_pos h,if_pos (cls_iff.mp h)]
 ·rw [if_neg h,if_neg fun h'=>h (cls_iff.mpr h')]
theorem ls_cls {p:GProgram} (hp:OkP p) (hP:hierP p=0) (s:ByteArray):(lookA (tabsL (allL p)).ls s).getD []=if clsB p s=true then slotsO (allL p) s else []:=by
 rw [(told_all hp hP).ls]
 by_cases h:clsB p s=true
 ·have h':=cls_iff.mp h
  rw [if_pos h,if_pos h',slotsO,if_neg (name_pos hP h'.1)]
 ·rw [if_neg h,if_neg fun h'=>h (cls_iff.mpr h')]
section
variable {p:GProgram} {X:Nat} {S σ:List Ob}
theorem made_box (hp:OkP p) (h:Avail p X σ) {cs:List C} (hc:∀ k,cs.all (C.closed (σ.length+(1+k)))=true):∃ S,Fn fns 51 [vptr X] (σ ++ [.cells cs]) 0 0=some (vptr X,S)∧Done p X 1 0 S∧But X (σ ++ [.cells cs]) S∧∀ o:Ob,(∀ k,o.closed (S.length+k)=true)→Done p X 1 0 (S.set σ.length o):=by
 have hX:=h.lt
 have hA:=h.cells hc
 rcases hA with ⟨h1,h2⟩ | hD
 ·obtain ⟨S,s1,s2,s3,s4⟩:=fn_made hp h1 h2
  exact ⟨S,s1,s2,s3,fun o ho=>s2.low s4 (by simp) (by omega) ho⟩
 ·refine ⟨_,fn_made1 hD 0 0,hD,⟨Nat.le_refl _,fun _ _ _=>rfl⟩,fun o ho=>?_⟩
  rcases h with ⟨h1,_⟩ | h
  ·obtain ⟨b,r1,r2,r3,r4,r5,_,hx,_⟩:=hD.at_
   rw [get_app h1 _] at hx
   simp [cRow] at hx
  ·rw [List.set_append_right _ _ (Nat.le_refl _),Nat.sub_self,List.set_cons_zero]
   refine h.app _ fun k=>?_
   rw [List.all_append,List.length_append,List.length_singleton,Nat.add_assoc,h.cl]
   have:=ho k
   simp only [List.length_append,List.length_singleton,Nat.add_assoc] at this
   simpa using this
end
theorem slots_len {p:GProgram} (hp:OkP p) (hP:hierP p=0) {s:ByteArray} (hs:clsB p s=true):(slotsO (allL p) s).length≤100000:=by
 have h1:=ls_cls hp hP s
 rw [if_pos hs] at h1
 have:=(small_all hp hP).ls s
 unfold slotsT at this
 rw [h1] at this
 exact Nat.le_trans this (by decide)
end
end Go.Proofs.YteeofkbhopioiaaGreatDoor.Am
