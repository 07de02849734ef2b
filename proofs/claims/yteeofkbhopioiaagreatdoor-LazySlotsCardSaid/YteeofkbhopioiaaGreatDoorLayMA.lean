/- Lemmas that the rows' proofs rest on; each states its own conditions. -/
import Derived.Test.YteeofkbhopioiaaGreatDoorLatMD
import Derived.Test.YteeofkbhopioiaaGreatDoorLatMC
namespace Go.Proofs.YteeofkbhopioiaaGreatDoor.Am
set_option linter.unusedSimpArgs false
set_option linter.unusedVariables false
set_option linter.unusedSectionVars false
open Go
section
variable {p:GProgram} (hp:OkP p) (hP:hierP p=0)
include hp hP
end
section
variable {p:GProgram} (hp:OkP p) (hP:hierP p=0)
include hp hP
end
section
variable {p:GProgram} (hp:OkP p) (hP:hierP p=0)
include hp hP
end
section
attribute [local simp ↓] K_seq K_cond K_block K_region K_skip K_exit K_ret K_wrap KA_nil KA_none KA_some str_eq
attribute [local simp] beq_int bne_int dec_eqN dec_ltN dec_leN stepOp St.rd St.raw St.set St.took get_cons V.down C.down Env.keep binV unV arith isShift strs intOf optInt wrapEnd keptAt andK endOf frzV frz1 frzC frzCs frz1s resOf resOne resAll V.closed V.closed1 C.closed B.closed Ob.closed V.cells partsIn rep chunk datas C.data rowsOf getCells put_nil put_zero put_succ mayWrite C.plain eqV_bool eqV_agg eqV_pnn eqV_pnp eqV_ppn eqV_mnn eqV_mmn eqV_snn eqV_sen eqV_san eqV_sdn rs_len rs_getE rs_app rs_take rs_drop rs_all rs_each row_len str_nilP str_nilE str_nilB vagg row_Int row_Bool row_Str k_Int k_Bool k_Str snoc_Int snoc_Bool snoc_Str row_Type k_Type snoc_Type eta_Type sames_Type row_Field k_Field snoc_Field eta_Field sames_Field row_Instr k_Instr snoc_Instr eta_Instr sames_Instr row_Catch k_Catch snoc_Catch eta_Catch sames_Catch row_Method k_Method snoc_Method row_Class k_Class snoc_Class row_Program k_Program snoc_Program row_Slot k_Slot snoc_Slot eta_Slot sames_Slot row_Way k_Way snoc_Way eta_Way sames_Way
theorem got_R (t:Tabs) (k:ByteArray):∃ r,findKey [2] (vstr k) (encR t.rs) 0=some r∧((r=none∧lookA t.rs k=none)∨∃ i o,r=some (i,vsl o)∧lookA t.rs k=some o):=by
 rcases map_R t.rs k with ⟨k1,k2,_⟩ | ⟨j,v,hj,k1,hj2,k2,_,_⟩
 ·exact ⟨none,k1,.inl ⟨rfl,k2⟩⟩
 ·exact ⟨_,k1,.inr ⟨j,v,rfl,k2⟩⟩
theorem got_L (t:Tabs) (k:ByteArray):∃ r,findKey [2] (vstr k) (encL t.ls) 0=some r∧((r=none∧lookA t.ls k=none)∨∃ i o,r=some (i,.c (.osl 4 (rows (o:List GSlot))))∧lookA t.ls k=some o):=by
 rcases map_L t.ls k with ⟨k1,k2,_⟩ | ⟨j,v,hj,k1,hj2,k2,_,_⟩
 ·exact ⟨none,k1,.inl ⟨rfl,k2⟩⟩
 ·exact ⟨_,k1,.inr ⟨j,v,rfl,k2⟩⟩
def clsB (p:GProgram) (s:ByteArray):Bool:=decide (s ∈ namesOf (allL p)) && !(clsN (allL p) s).iface
theorem cls_iff {p:GProgram} {s:ByteArray}:clsB p s=true↔s ∈ namesOf (allL p)∧(clsN (allL p) s).iface=false:=by
 unfold clsB;simp
theorem rs_cls {p:GProgram} (hp:OkP p) (hP:hierP p=0) (s:ByteArray):lookA (tabsL (allL p)).rs s=if clsB p s=true then some (rowL (allL p) s) else none:=by
 rw [(told_all hp hP).rs]
 by_cases h:clsB p s=true
 ·rw [if_pos h,if_pos (cls_iff.mp h)]
 ·rw [if_neg h,if_neg fun h'=>h (cls_iff.mpr h')]
theorem ls_cls {p:GProgram} (hp:OkP p) (hP:hierP p=0) (s:ByteArray):(lookA (tabsL (allL p)).ls s).getD []=if clsB p s=true then slotsO (allL p) s else []:=by
 rw [(told_all hp hP).ls]
 by_cases h:clsB p s=true
 ·have h':=cls_iff.mp h
  rw [if_pos h,if_pos h',slotsO,if_neg (name_pos hP h'.1)]
 ·rw [if_neg h,if_neg fun h'=>h (cls_iff.mpr h')]
theorem fn_cloneSl (l:List GSlot) (hs:l.length≤1000000) (σ:List Ob) (lo tr:Nat):Fn fns 50 [vsl l] σ lo tr=some (.c (.osl 4 (rows l)),σ):=by
 cases l with
 | nil=>exact fn_split t50 rfl rfl (v:=.c (.osl 4 [])) (σ1:=[]) (σ2:=[]) (by simp [KF,params,f50]) (by simp [KF,params,f50,rs_nil]) rfl σ lo tr
 | cons v l =>
  have h5:l.length+1≤70368744177664:=by simp at hs;omega
  have h6:(l.length+1) * 56≤70368744177664:=by simp at hs;omega
  refine fn_gen t50 rfl (σ1:=[]) rfl rfl ?_ σ lo tr
  have hr:rows (v :: l)=Rec.row v :: rows l:=rfl
  simp [KF,params,f50,hr,h5,h6]
section
variable {p:GProgram} {X:Nat} {S σ:List Ob}
theorem fn_tabSl (hp:OkP p) (h:Avail p X σ) (s:ByteArray):∃ S L,Fn fns 49 [vptr X,vstr s] σ 0 0=some (.tup [.c (.b (.d (.sl (rows (L:List GSlot))))),vbool (clsB p s && decide (layE p=0))],S)∧Done p X 1 0 S∧But X σ S∧(layE p=0→L=if clsB p s=true then slotsO (allL p) s else []):=by
 obtain ⟨S,s1,s2,s3⟩:=made_av hp h
 have hX:=h.lt
 by_cases hP:hierP p=0
 ·obtain ⟨b,c,hT⟩:=s2.ok hP
  have h1:=get_lt hT.x
  have h2:=(List.getElem?_eq_some_iff.mp hT.x).2
  have r1:=get_lt hT.r
  have r2:=(List.getElem?_eq_some_iff.mp hT.r).2
  have l1:=get_lt hT.l
  have l2:=(List.getElem?_eq_some_iff.mp hT.l).2
  obtain ⟨r,k1,hr⟩:=got_R (tabsL (allL p)) s
  obtain ⟨q,k2,hq⟩:=got_L (tabsL (allL p)) s
  refine ⟨S,(lookA (tabsL (allL p)).ls s).getD [],?_,s2,s3,fun _=>ls_cls hp hP s⟩
  have hrs:=rs_cls hp hP s
  have hcl:clsB p s=(lookA (tabsL (allL p)).rs s).isSome:=by rw [hrs];cases clsB p s<;>rfl
  rw [hcl]
  rw [fn_eq t49 rfl rfl]
  generalize tabsL (allL p)=t at *
  by_cases hE:layE p=0
  all_goals
   rcases hr with ⟨rfl,r3⟩ | ⟨i,o,rfl,r3⟩<;>rcases hq with ⟨rfl,q3⟩ | ⟨j,v,rfl,q3⟩
   all_goals simp [KF,params,f49,rs_nil,hX,s1,h1,h2,r1,r2,l1,l2,mapOf,keyShape,got,k1,k2,r3,q3,hE]
 ·obtain ⟨q,e,hx⟩:=s2.no hP
  have hE:¬ layE p=0:=fun h=>hP (layE_hier h)
  have h1:=get_lt hx
  have h2:=(List.getElem?_eq_some_iff.mp hx).2
  refine ⟨S,[],?_,s2,s3,fun h=>absurd h hE⟩
  rw [fn_eq t49 rfl rfl]
  simp [KF,params,f49,rs_nil,hX,s1,h1,h2,mapOf,keyShape,got,hE,findKey]
theorem made_box (hp:OkP p) (h:Avail p X σ) {cs:List C} (hc:∀ k,cs.all (C.closed (σ.length+(1+k)))=true):∃ S,Fn fns 51 [vptr X] (σ ++ [.cells cs]) 0 0=some (vptr X,S)∧Done p X 1 0 S∧But X (σ ++ [.cells cs]) S∧∀ o:Ob,(∀ k,o.closed (S.length+k)=true)→Done p X 1 0 (S.set σ.length o):=by
 have hX:=h.lt
 have hA:=h.cells hc
 rcases hA with ⟨h1,h2⟩ | hD
 ·obtain ⟨S,s1,s2,s3,s4⟩:=fn_made hp h1 h2
  exact ⟨S,s1,s2,s3,fun o ho=>s2.low s4 (by simp) (by omega) ho⟩
 ·refine ⟨_,fn_made1 hD 0 0,hD,⟨Nat.le_refl _,fun _ _ _=>rfl⟩,fun o ho=>?_⟩
  rcases h with ⟨h1,_⟩ | h
  ·obtain ⟨b,r1,r2,r3,r4,r5,_,hx,_⟩:=hD.at_
   rw [get_app h1 _] at hx
   simp [cRow] at hx
  ·rw [List.set_append_right _ _ (Nat.le_refl _),Nat.sub_self,List.set_cons_zero]
   refine h.app _ fun k=>?_
   rw [List.all_append,List.length_append,List.length_singleton,Nat.add_assoc,h.cl]
   have:=ho k
   simp only [List.length_append,List.length_singleton,Nat.add_assoc] at this
   simpa using this
end
theorem slots_len {p:GProgram} (hp:OkP p) (hP:hierP p=0) {s:ByteArray} (hs:clsB p s=true):(slotsO (allL p) s).length≤100000:=by
 have h1:=ls_cls hp hP s
 rw [if_pos hs] at h1
 have:=(small_all hp hP).ls s
 unfold slotsT at this
 rw [h1] at this
 exact Nat.le_trans this (by decide)
def slotsP (p:GProgram) (s:ByteArray):List GSlot:=if layE p=0∧clsB p s=true then slotsO (allL p) s else []
def slotsX (p:GProgram) (s:ByteArray):Int:=if layE p=0 then (if clsB p s=true then 0 else 5) else layE p
theorem fn_laySlots (p:GProgram) (hp:OkP p) (s:ByteArray) (σ:List Ob) (lo tr:Nat):Fn fns 24 [vProgram p,vstr s] σ lo tr=some (.tup [vsl (slotsP p s),vint (slotsX p s)],σ):=by
 obtain ⟨S,L,s1,s2,s3,s4⟩:=fn_tabSl hp (av_new p [cP p] (fun k=>by simp [Ob.closed,C.closed,B.closed])) s
 have hof:=fn_layOf p
 have hE1:=fun lo tr=>fn_tabE1 s2 lo tr
 refine fn_gen t24 rfl (σ1:=[]) rfl rfl ?_ σ lo tr
 simp only [List.length_cons,List.length_nil,Nat.zero_add,Nat.reduceAdd,List.cons_append,List.nil_append] at s1 hE1
 unfold slotsP slotsX
 by_cases hE:layE p=0
 ·have hP:=layE_hier hE
  have h4:=s4 hE
  by_cases hc:clsB p s=true
  ·rw [if_pos hc] at h4
   have hcl:=fn_cloneSl L (by rw [h4];exact Nat.le_trans (slots_len hp hP hc) (by decide))
   rw [h4] at hcl s1
   simp [KF,params,f24,hof,s1,hE1,hE,hc,hcl]
  ·simp [KF,params,f24,hof,s1,hE1,hE,hc,rs_nil]
 ·simp [KF,params,f24,hof,s1,hE1,hE,rs_nil]
end
end Go.Proofs.YteeofkbhopioiaaGreatDoor.Am
