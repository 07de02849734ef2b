/- Lemmas that the rows' proofs rest on; each states its own conditions. -/
import Derived.Test.YteeofkbhopioiaaGreatDoorLatMC
namespace Go.Proofs.YteeofkbhopioiaaGreatDoor.Am
set_option linter.unusedSimpArgs false
set_option linter.unusedVariables false
set_option linter.unusedSectionVars false
open Go
section
attribute [local simp ↓] K_seq K_cond K_block K_region K_skip K_exit K_ret K_wrap KA_nil KA_none KA_some str_eq
attribute [local simp] beq_int bne_int dec_eqN dec_ltN dec_leN stepOp St.rd St.raw St.set St.took get_cons V.down C.down Env.keep binV unV arith isShift strs intOf optInt wrapEnd keptAt andK endOf frzV frz1 frzC frzCs frz1s resOf resOne resAll V.closed V.closed1 C.closed B.closed Ob.closed V.cells partsIn rep chunk datas C.data rowsOf getCells put_nil put_zero put_succ mayWrite C.plain eqV_bool eqV_agg eqV_pnn eqV_pnp eqV_ppn eqV_mnn eqV_mmn eqV_snn eqV_sen eqV_san eqV_sdn rs_len rs_getE rs_app rs_take rs_drop rs_all rs_each row_len str_nilP str_nilE str_nilB vagg row_Int row_Bool row_Str k_Int k_Bool k_Str snoc_Int snoc_Bool snoc_Str row_Type k_Type snoc_Type eta_Type sames_Type row_Field k_Field snoc_Field eta_Field sames_Field row_Instr k_Instr snoc_Instr eta_Instr sames_Instr row_Catch k_Catch snoc_Catch eta_Catch sames_Catch row_Method k_Method snoc_Method row_Class k_Class snoc_Class row_Program k_Program snoc_Program row_Slot k_Slot snoc_Slot eta_Slot sames_Slot row_Way k_Way snoc_Way eta_Way sames_Way
section
variable {x:GClass} (hx:OkC x) (l:List GClass) (hl:l.length≤1000000)
include hx
theorem mem_params (m:GMethod) (hm:OkM m) (i:Nat) (k:AExit→St→Option (V × List Ob)):K fns ⟨0,0⟩ f41_l0 ⟨[(0,vsl l),(3,vptr 0),(5,vint i),(6,vptr 1),(7,vint 0)],[cC x,cM m]⟩ k =
  if m.params.any (fun t=>decide (t.kind=1)) then k .ret ⟨[(4,vint 4)],[cC x,cM m]⟩ else k (.exit 2) ⟨[(0,vsl l),(3,vptr 0),(5,vint i)],[cC x,cM m]⟩ :=
 scan_any (l:=m.params) (p:=fun t=>decide (t.kind=1)) (X:=fun j=>K fns ⟨0,0⟩ f41_l0 ⟨[(0,vsl l),(3,vptr 0),(5,vint i),(6,vptr 1),(7,vint j)],[cC x,cM m]⟩ k)
  (fun j hj=>by
   have hw:=wrap_succ (i:=j) (by have:=hm.params;omega)
   show K fns _ f41_l0 _ k=_
   rw [u41_l0]
   by_cases hc:m.params[j].kind=1<;>simp [f41_b0,hj,hc,hw])
  (by show K fns _ f41_l0 _ k=_;rw [u41_l0];simp [f41_b0])
def refFormB (x:GClass) (m:GMethod):Bool:=(x.iface && (!m.abstract_ || m.static_)) || (!x.iface && m.abstract_)
theorem mem_mets (k:AExit→St→Option (V × List Ob)):K fns ⟨0,0⟩ f41_l1 ⟨[(0,vsl l),(3,vptr 0),(5,vint 0)],[cC x]⟩ k =
  if x.methods.any (fun m=>refFormB x m || m.params.any fun t=>decide (t.kind=1)) then k .ret ⟨[(4,vint 4)],[cC x]⟩ else k (.exit 0) ⟨[(0,vsl l),(3,vptr 0)],[cC x]⟩ :=
 scan_any (l:=x.methods) (p:=fun m=>refFormB x m || m.params.any fun t=>decide (t.kind=1)) (X:=fun j=>K fns ⟨0,0⟩ f41_l1 ⟨[(0,vsl l),(3,vptr 0),(5,vint j)],[cC x]⟩ k)
  (fun j hj=>by
   have hw:=wrap_succ (i:=j) (by have:=hx.methods;omega)
   have hok:=hx.ms _ (List.getElem_mem hj)
   show K fns _ f41_l1 _ k=_
   rw [u41_l1]
   generalize hm:x.methods[j]=m at hok
   have L:=fun k=>mem_params hx l m hok j k
   unfold refFormB
   cases hv:m.params.any fun t=>decide (t.kind=1)<;>rw [hv] at L<;>cases h1:x.iface<;>cases h2:m.abstract_<;>cases h3:m.static_
   all_goals simp only [cM,h2,h3] at L
   all_goals simp [f41_b1,hj,hm,hw,h1,h2,h3,L])
  (by show K fns _ f41_l1 _ k=_;rw [u41_l1];simp [f41_b1])
theorem mem_fields (k:AExit→St→Option (V × List Ob)):K fns ⟨0,0⟩ f41_l2 ⟨[(0,vsl l),(3,vptr 0),(8,vint 0)],[cC x]⟩ k =
  if x.fields.any (fun f=>x.iface || decide (f.type_.kind=1)) then k .ret ⟨[(4,vint 4)],[cC x]⟩ else k (.exit 4) ⟨[(0,vsl l),(3,vptr 0)],[cC x]⟩ :=
 scan_any (l:=x.fields) (p:=fun f=>x.iface || decide (f.type_.kind=1)) (X:=fun j=>K fns ⟨0,0⟩ f41_l2 ⟨[(0,vsl l),(3,vptr 0),(8,vint j)],[cC x]⟩ k)
  (fun j hj=>by
   have hw:=wrap_succ (i:=j) (by have:=hx.fields;omega)
   show K fns _ f41_l2 _ k=_
   rw [u41_l2]
   by_cases hc:x.fields[j].type_.kind=1<;>cases h1:x.iface<;>simp [f41_b2,hj,hw,hc,h1])
  (by show K fns _ f41_l2 _ k=_;rw [u41_l2];simp [f41_b2])
theorem mem_before (i:Nat) (hi:i < x.fields.length) (k:AExit→St→Option (V × List Ob)):K fns ⟨0,0⟩ f41_l3 ⟨[(0,vsl l),(3,vptr 0),(9,vint i),(10,vint 0)],[cC x]⟩ k =
  if ((x.fields.take i).any fun f=>decide (x.fields[i].name=f.name)) then k .ret ⟨[(4,vint 6)],[cC x]⟩ else k (.exit 8) ⟨[(0,vsl l),(3,vptr 0),(9,vint i)],[cC x]⟩ :=
 scan_any (l:=x.fields.take i) (p:=fun f=>decide (x.fields[i].name=f.name)) (X:=fun j=>K fns ⟨0,0⟩ f41_l3 ⟨[(0,vsl l),(3,vptr 0),(9,vint i),(10,vint j)],[cC x]⟩ k)
  (fun j hj=>by
   have hj':j < i:=by simp at hj;omega
   have hjf:j < x.fields.length:=by omega
   have hji:(j:Int) < i:=by omega
   have hw:=wrap_succ (i:=j) (by have:=hx.fields;omega)
   show K fns _ f41_l3 _ k=_
   rw [u41_l3]
   rw [List.getElem_take]
   by_cases hc:x.fields[i].name=x.fields[j].name<;>simp [f41_b3,hi,hjf,hji,hw,hc])
  (by
   have:(x.fields.take i).length=i:=by simp;omega
   rw [this]
   show K fns _ f41_l3 _ k=_;rw [u41_l3];simp [f41_b3])
def twiceF (x:GClass):Bool:=(List.range x.fields.length).any fun i=>(x.fields.take i).any fun f=>decide ((x.fields[i]?.map (·.name)).getD ⟨#[]⟩=f.name)
theorem mem_twice (k:AExit→St→Option (V × List Ob)):K fns ⟨0,0⟩ f41_l4 ⟨[(0,vsl l),(3,vptr 0),(9,vint 0)],[cC x]⟩ k =
  if twiceF x then k .ret ⟨[(4,vint 6)],[cC x]⟩ else k (.exit 6) ⟨[(0,vsl l),(3,vptr 0)],[cC x]⟩ :=
 scan_any (l:=List.range x.fields.length) (p:=fun i=>(x.fields.take i).any fun f=>decide ((x.fields[i]?.map (·.name)).getD ⟨#[]⟩=f.name)) (X:=fun j=>K fns ⟨0,0⟩ f41_l4 ⟨[(0,vsl l),(3,vptr 0),(9,vint j)],[cC x]⟩ k)
  (fun j hj=>by
   have hj:j < x.fields.length:=by simpa using hj
   have hw:=wrap_succ (i:=j) (by have:=hx.fields;omega)
   have L:=fun k=>mem_before hx l j hj k
   show K fns _ f41_l4 _ k=_
   rw [u41_l4,List.getElem_range,List.getElem?_eq_getElem hj]
   simp only [Option.map_some,Option.getD_some]
   obtain ⟨q,hq⟩:∃ q,((x.fields.take j).any fun f=>decide (x.fields[j].name=f.name))=q:=⟨_,rfl⟩
   simp only [hq] at L ⊢
   cases q
   all_goals simp [f41_b4,hj,hw,L])
  (by rw [List.length_range];show K fns _ f41_l4 _ k=_;rw [u41_l4];simp [f41_b4])
def firstsM (x:GClass):Bool:=(List.range x.methods.length).any fun i=>!decide (idxI (fun m:GMethod=>decide (m.name=(x.methods[i]?.map (·.name)).getD ⟨#[]⟩)) x.methods=(i:Nat))
theorem mem_owns (k:AExit→St→Option (V × List Ob)):K fns ⟨0,0⟩ f41_l5 ⟨[(0,vsl l),(3,vptr 0),(11,vint 0)],[cC x]⟩ k =
  if firstsM x then k .ret ⟨[(4,vint 6)],[cC x]⟩ else k (.exit 10) ⟨[(0,vsl l),(3,vptr 0)],[cC x]⟩ :=
 scan_any (l:=List.range x.methods.length) (p:=fun i=>!decide (idxI (fun m:GMethod=>decide (m.name=(x.methods[i]?.map (·.name)).getD ⟨#[]⟩)) x.methods=(i:Nat))) (X:=fun j=>K fns ⟨0,0⟩ f41_l5 ⟨[(0,vsl l),(3,vptr 0),(11,vint j)],[cC x]⟩ k)
  (fun j hj=>by
   have hj:j < x.methods.length:=by simpa using hj
   have hw:=wrap_succ (i:=j) (by have:=hx.methods;omega)
   have ho:=fn_own x (by have:=hx.methods;omega) x.methods[j].name
   show K fns _ f41_l5 _ k=_
   rw [u41_l5,List.getElem_range,List.getElem?_eq_getElem hj]
   simp only [Option.map_some,Option.getD_some]
   obtain ⟨q,hq⟩:∃ q,idxI (fun m:GMethod=>decide (m.name=x.methods[j].name)) x.methods=q:=⟨_,rfl⟩
   simp only [hq] at ho ⊢
   by_cases hc:q=(j:Int)<;>simp [f41_b5,hj,hw,ho,hc])
  (by rw [List.length_range];show K fns _ f41_l5 _ k=_;rw [u41_l5];simp [f41_b5])
include hl
theorem mem_named (k:AExit→St→Option (V × List Ob)):K fns ⟨0,0⟩ f41_l6 ⟨[(0,vsl l),(3,vptr 0),(12,vint 0)],[cC x]⟩ k =
  if x.fields.any (fun f=>!namesB l f.type_) then k .ret ⟨[(4,vint 5)],[cC x]⟩ else k (.exit 12) ⟨[(0,vsl l),(3,vptr 0)],[cC x]⟩ :=
 scan_any (l:=x.fields) (p:=fun f=>!namesB l f.type_) (X:=fun j=>K fns ⟨0,0⟩ f41_l6 ⟨[(0,vsl l),(3,vptr 0),(12,vint j)],[cC x]⟩ k)
  (fun j hj=>by
   have hw:=wrap_succ (i:=j) (by have:=hx.fields;omega)
   have hn:=fn_refNamed l hl x.fields[j].type_
   show K fns _ f41_l6 _ k=_
   rw [u41_l6]
   cases hc:namesB l x.fields[j].type_<;>rw [hc] at hn<;>simp [f41_b6,hj,hw,hn])
  (by show K fns _ f41_l6 _ k=_;rw [u41_l6];simp [f41_b6])
theorem mem_namedP (m:GMethod) (hm:OkM m) (i:Nat) (k:AExit→St→Option (V × List Ob)):K fns ⟨0,0⟩ f41_l7 ⟨[(0,vsl l),(3,vptr 0),(13,vint i),(14,vptr 1),(15,vint 0)],[cC x,cM m]⟩ k =
  if m.params.any (fun t=>!namesB l t) then k .ret ⟨[(4,vint 5)],[cC x,cM m]⟩ else k (.exit 16) ⟨[(0,vsl l),(3,vptr 0),(13,vint i)],[cC x,cM m]⟩ :=
 scan_any (l:=m.params) (p:=fun t=>!namesB l t) (X:=fun j=>K fns ⟨0,0⟩ f41_l7 ⟨[(0,vsl l),(3,vptr 0),(13,vint i),(14,vptr 1),(15,vint j)],[cC x,cM m]⟩ k)
  (fun j hj=>by
   have hw:=wrap_succ (i:=j) (by have:=hm.params;omega)
   have hn:=fn_refNamed l hl m.params[j]
   show K fns _ f41_l7 _ k=_
   rw [u41_l7]
   cases hc:namesB l m.params[j]<;>rw [hc] at hn<;>simp [f41_b7,hj,hw,hn])
  (by show K fns _ f41_l7 _ k=_;rw [u41_l7];simp [f41_b7])
theorem mem_namedM (k:AExit→St→Option (V × List Ob)):K fns ⟨0,0⟩ f41_l8 ⟨[(0,vsl l),(3,vptr 0),(13,vint 0)],[cC x]⟩ k =
  if x.methods.any (fun m=>!namesB l m.ret || m.params.any fun t=>!namesB l t) then k .ret ⟨[(4,vint 5)],[cC x]⟩ else k (.exit 14) ⟨[],[cC x]⟩ :=
 scan_any (l:=x.methods) (p:=fun m=>!namesB l m.ret || m.params.any fun t=>!namesB l t) (X:=fun j=>K fns ⟨0,0⟩ f41_l8 ⟨[(0,vsl l),(3,vptr 0),(13,vint j)],[cC x]⟩ k)
  (fun j hj=>by
   have hw:=wrap_succ (i:=j) (by have:=hx.methods;omega)
   have hok:=hx.ms _ (List.getElem_mem hj)
   show K fns _ f41_l8 _ k=_
   rw [u41_l8]
   generalize hm:x.methods[j]=m at hok
   have hn:=fn_refNamed l hl m.ret
   have L:=fun k=>mem_namedP hx l hl m hok j k
   cases hc:namesB l m.ret<;>rw [hc] at hn<;>cases hv:m.params.any fun t=>!namesB l t<;>rw [hv] at L
   all_goals simp [f41_b8,hj,hm,hw,hn,L])
  (by show K fns _ f41_l8 _ k=_;rw [u41_l8];simp [f41_b8])
def memE (l:List GClass) (x:GClass):Int :=
 if x.methods.any (fun m=>refFormB x m || m.params.any fun t=>decide (t.kind=1)) then 4 else if x.fields.any (fun f=>x.iface || decide (f.type_.kind=1)) then 4
 else if twiceF x then 6 else if firstsM x then 6 else if x.fields.any (fun f=>!namesB l f.type_) then 5
 else if x.methods.any (fun m=>!namesB l m.ret || m.params.any fun t=>!namesB l t) then 5 else 0
theorem fn_members (σ:List Ob) (lo tr:Nat):Fn fns 41 [vsl l,vClass x] σ lo tr=some (vint (memE l x),σ):=by
 refine fn_gen t41 rfl (σ1:=[]) rfl rfl ?_ σ lo tr
 have L1:=fun k=>mem_mets hx l k
 have L2:=fun k=>mem_fields hx l k
 have L3:=fun k=>mem_twice hx l k
 have L4:=fun k=>mem_owns hx l k
 have L5:=fun k=>mem_named hx l hl k
 have L6:=fun k=>mem_namedM hx l hl k
 unfold memE
 generalize (x.methods.any fun m=>refFormB x m || m.params.any fun t=>decide (t.kind=1))=b1 at *
 generalize (x.fields.any fun f=>x.iface || decide (f.type_.kind=1))=b2 at *
 generalize twiceF x=b3 at *
 generalize firstsM x=b4 at *
 generalize (x.fields.any fun f=>!namesB l f.type_)=b5 at *
 generalize (x.methods.any fun m=>!namesB l m.ret || m.params.any fun t=>!namesB l t)=b6 at *
 cases b1
 ·cases b2
  ·cases b3
   ·cases b4
    ·cases b5
     ·cases b6<;>simp [KF,params,f41,L1,L2,L3,L4,L5,L6]
     ·simp [KF,params,f41,L1,L2,L3,L4,L5]
    ·simp [KF,params,f41,L1,L2,L3,L4]
   ·simp [KF,params,f41,L1,L2,L3]
  ·simp [KF,params,f41,L1,L2]
 ·simp [KF,params,f41,L1]
end
def badM (r:ByteArray × GMethod) (m:GMethod):Bool:=!decide (r.2.static_=m.static_) || !likeB r.2 m
def inhE (l:List GClass) (x:GClass):Int :=
 if x.fields.any (fun f=>(slotsO l (superL x)).any fun y=>!f.static_ && decide (y.name=f.name)) then 6
 else if x.methods.any (fun m=>(metO l (superL x) m.name).elim false fun r=>badM r m) then 8 else 0
section
variable {x:GClass} (hx:OkC x) (l:List GClass) (s:ByteArray)
include hx
theorem inh_slots (L:List GSlot) (hL:L.length≤1000000) (i:Nat) (hi:i < x.fields.length) (k:AExit→St→Option (V × List Ob)):K fns ⟨0,0⟩ f42_l0 ⟨[(0,vsl l),(3,vptr 0),(5,vstr s),(6,vsl L),(7,vint i),(8,vint 0)],[cC x]⟩ k =
  if L.any (fun y=>!x.fields[i].static_ && decide (y.name=x.fields[i].name)) then k .ret ⟨[(4,vint 6)],[cC x]⟩ else k (.exit 2) ⟨[(0,vsl l),(3,vptr 0),(5,vstr s),(6,vsl L),(7,vint i)],[cC x]⟩ :=
 scan_any (l:=L) (p:=fun y=>!x.fields[i].static_ && decide (y.name=x.fields[i].name)) (X:=fun j=>K fns ⟨0,0⟩ f42_l0 ⟨[(0,vsl l),(3,vptr 0),(5,vstr s),(6,vsl L),(7,vint i),(8,vint j)],[cC x]⟩ k)
  (fun j hj=>by
   have hw:=wrap_succ (i:=j) (by omega)
   show K fns _ f42_l0 _ k=_
   rw [u42_l0]
   cases h1:x.fields[i].static_<;>by_cases hc:L[j].name=x.fields[i].name<;>simp [f42_b0,hi,hj,hw,h1,hc])
  (by show K fns _ f42_l0 _ k=_;rw [u42_l0];simp [f42_b0])
theorem inh_fields (L:List GSlot) (hL:L.length≤1000000) (k:AExit→St→Option (V × List Ob)):K fns ⟨0,0⟩ f42_l1 ⟨[(0,vsl l),(3,vptr 0),(5,vstr s),(6,vsl L),(7,vint 0)],[cC x]⟩ k =
  if x.fields.any (fun f=>L.any fun y=>!f.static_ && decide (y.name=f.name)) then k .ret ⟨[(4,vint 6)],[cC x]⟩ else k (.exit 0) ⟨[(0,vsl l),(3,vptr 0),(5,vstr s)],[cC x]⟩ :=
 scan_any (l:=x.fields) (p:=fun f=>L.any fun y=>!f.static_ && decide (y.name=f.name)) (X:=fun j=>K fns ⟨0,0⟩ f42_l1 ⟨[(0,vsl l),(3,vptr 0),(5,vstr s),(6,vsl L),(7,vint j)],[cC x]⟩ k)
  (fun j hj=>by
   have hw:=wrap_succ (i:=j) (by have:=hx.fields;omega)
   have H:=fun k=>inh_slots hx l s L hL j hj k
   show K fns _ f42_l1 _ k=_
   rw [u42_l1]
   obtain ⟨q,hq⟩:∃ q,(L.any fun y=>!x.fields[j].static_ && decide (y.name=x.fields[j].name))=q:=⟨_,rfl⟩
   simp only [hq] at H ⊢
   cases q<;>simp [f42_b1,hj,hw,H])
  (by show K fns _ f42_l1 _ k=_;rw [u42_l1];simp [f42_b1])
end
section
variable {p:GProgram} (hp:OkP p) (hP:hierP p=0)
include hp hP
theorem metO_ok {s:ByteArray} (hs:s ∈ namesOf (allL p)∨s=⟨#[]⟩) {n:ByteArray} {r:ByteArray × GMethod} (h:metO (allL p) s n=some r):r.1≠⟨#[]⟩∧OkM r.2∧r.2 ∈ (clsN (allL p) r.1).methods:=by
 unfold metO at h
 split at h
 ·cases h
 ·rename_i hne
  obtain ⟨h1,h2,_⟩:=metR_mem h
  rcases hs with hs | hs
  ·exact ⟨name_pos hP (rowL_sub hp hP hs _ h1),(cls_ok hp _).ms _ h2,h2⟩
  ·exact absurd hs hne
theorem inh_mets {x:GClass} (hx:OkC x) {s:ByteArray} (hs:s ∈ namesOf (allL p)∨s=⟨#[]⟩) (k:AExit→St→Option (V × List Ob)):K fns ⟨0,0⟩ f42_l2 ⟨[(0,vsl (allL p)),(3,vptr 0),(5,vstr s),(9,vint 0)],[cC x]⟩ k =
  if x.methods.any (fun m=>(metO (allL p) s m.name).elim false fun r=>badM r m) then k .ret ⟨[(4,vint 8)],[cC x]⟩ else k (.exit 4) ⟨[],[cC x]⟩ :=
 scan_any (l:=x.methods) (p:=fun m=>(metO (allL p) s m.name).elim false fun r=>badM r m) (X:=fun j=>K fns ⟨0,0⟩ f42_l2 ⟨[(0,vsl (allL p)),(3,vptr 0),(5,vstr s),(9,vint j)],[cC x]⟩ k)
  (fun j hj=>by
   have hw:=wrap_succ (i:=j) (by have:=hx.methods;omega)
   have hok:=hx.ms _ (List.getElem_mem hj)
   have hm:=fn_refMet hp hP hs x.methods[j].name
   show K fns _ f42_l2 _ k=_
   rw [u42_l2]
   obtain ⟨m,hme⟩:∃ m,x.methods[j]=m:=⟨_,rfl⟩
   simp only [hme] at hok hm ⊢
   cases hq:metO (allL p) s m.name with
   | none =>
    rw [hq] at hm
    simp only [Option.elim] at hm ⊢
    simp [f42_b2,hj,hme,hw,hm]
   | some r =>
    obtain ⟨o1,o2,_⟩:=metO_ok hp hP hs hq
    obtain ⟨o,y⟩:=r
    rw [hq] at hm
    simp only [Option.elim] at hm o1 o2 ⊢
    have hl:=fn_refAlike y m o2 hok
    unfold badM
    obtain ⟨q,hlk⟩:∃ q,likeB y m=q:=⟨_,rfl⟩
    obtain ⟨q1,h1⟩:∃ q,y.static_=q:=⟨_,rfl⟩
    obtain ⟨q2,h2⟩:∃ q,m.static_=q:=⟨_,rfl⟩
    rw [hlk] at hl
    simp only [vMethod,h1,h2] at hl
    cases q<;>cases q1<;>cases q2
    all_goals simp [f42_b2,hj,hme,hw,hm,o1,h1,h2,hlk,hl])
  (by show K fns _ f42_l2 _ k=_;rw [u42_l2];simp [f42_b2])
theorem fn_inherits {x:GClass} (hx:OkC x) (hs:superL x ∈ namesOf (allL p)∨superL x=⟨#[]⟩) (σ:List Ob) (lo tr:Nat):Fn fns 42 [vsl (allL p),vClass x] σ lo tr=some (vint (inhE (allL p) x),σ):=by
 refine fn_gen t42 rfl (σ1:=[]) rfl rfl ?_ σ lo tr
 have hsup:=fn_superOf x
 have hsl:=fn_slotsOf hp hP hs
 have hsm:(slotsO (allL p) (superL x)).length≤1000000:=by
  unfold slotsO
  split
  ·simp
  ·have h1:=flat_len (slN (allL p)) 6 (rowL (allL p) (superL x)).reverse fun s _=>by
    have:=(cls6 hP s).1
    have h2:=List.length_filter_le (fun f:GField=>!f.static_) (clsN (allL p) s).fields
    simp only [slN,List.length_map];omega
   have h2:=rowL_len (allL p) (superL x)
   have h3:=all_len hp
   rw [List.length_reverse] at h1
   unfold slotsR;omega
 have L1:=fun k=>inh_fields hx (allL p) (superL x) (slotsO (allL p) (superL x)) hsm k
 have L2:=fun k=>inh_mets hp hP hx hs k
 unfold inhE
 generalize (x.fields.any fun f=>(slotsO (allL p) (superL x)).any fun y=>!f.static_ && decide (y.name=f.name))=b1 at *
 generalize (x.methods.any fun m=>(metO (allL p) (superL x) m.name).elim false fun r=>badM r m)=b2 at *
 generalize superL x=s at *
 generalize slotsO (allL p) s=L at *
 cases b1
 ·cases b2<;>simp [KF,params,f42,hsup,hsl,L1,L2]
 ·simp [KF,params,f42,hsup,hsl,L1]
def keepM (l:List GClass) (a:ByteArray) (m:GMethod):Option Int:=(metO l a m.name).elim (some 5) fun r=>if r.2.static_ || !likeB r.2 m then some 8 else none
def keepI (l:List GClass) (a:ByteArray) (y:GClass):Option Int:=if y.iface && decide (y.name ∈ reachL l a) then y.methods.findSome? (keepM l a) else none
def keepE (l:List GClass) (a:ByteArray):Int:=(l.findSome? (keepI l a)).getD 0
theorem kee_mets {x:GClass} (hx:OkC x) (hs:x.name ∈ namesOf (allL p)) (i:Nat) (hi:i < (allL p).length) (k:AExit→St→Option (V × List Ob)):K fns ⟨0,0⟩ f43_l0 ⟨[(0,vsl (allL p)),(3,vptr 0),(5,vsl (reachL (allL p) x.name)),(6,vint i),(7,vint 0)],[cC x]⟩ k =
  ((allL p)[i].methods.findSome? (keepM (allL p) x.name)).elim (k (.exit 2) ⟨[(0,vsl (allL p)),(3,vptr 0),(5,vsl (reachL (allL p) x.name)),(6,vint i)],[cC x]⟩) fun r=>k .ret ⟨[(4,vint r)],[cC x]⟩ :=
 scan_some (l:=(allL p)[i].methods) (f:=keepM (allL p) x.name) (r:=fun r=>k .ret ⟨[(4,vint r)],[cC x]⟩) (X:=fun j=>K fns ⟨0,0⟩ f43_l0 ⟨[(0,vsl (allL p)),(3,vptr 0),(5,vsl (reachL (allL p) x.name)),(6,vint i),(7,vint j)],[cC x]⟩ k)
  (fun j hj=>by
   have hci:=allL_ok hp _ (List.getElem_mem hi)
   have hw:=wrap_succ (i:=j) (by have:=hci.methods;omega)
   have hok:=hci.ms _ (List.getElem_mem hj)
   have hm:=fn_refMet hp hP (.inl hs) (allL p)[i].methods[j].name
   show K fns _ f43_l0 _ k=_
   rw [u43_l0]
   unfold keepM
   obtain ⟨m,hme⟩:∃ m,(allL p)[i].methods[j]=m:=⟨_,rfl⟩
   simp only [hme] at hok hm ⊢
   cases hq:metO (allL p) x.name m.name with
   | none =>
    rw [hq] at hm
    simp only [Option.elim] at hm ⊢
    simp [f43_b0,hi,hj,hme,hw,hm]
   | some r =>
    obtain ⟨o1,o2,_⟩:=metO_ok hp hP (.inl hs) hq
    obtain ⟨o,y⟩:=r
    rw [hq] at hm
    simp only [Option.elim] at hm o1 o2 ⊢
    have hl:=fn_refAlike y m o2 hok
    obtain ⟨q,hlk⟩:∃ q,likeB y m=q:=⟨_,rfl⟩
    obtain ⟨q1,h1⟩:∃ q,y.static_=q:=⟨_,rfl⟩
    rw [hlk] at hl
    simp only [vMethod,h1] at hl
    cases q<;>cases q1
    all_goals simp [f43_b0,hi,hj,hme,hw,hm,o1,h1,hlk,hl])
  (by show K fns _ f43_l0 _ k=_;rw [u43_l0];simp [f43_b0,hi])
theorem kee_all {x:GClass} (hx:OkC x) (hs:x.name ∈ namesOf (allL p)) (hr:(reachL (allL p) x.name).length≤1000000) (k:AExit→St→Option (V × List Ob)):K fns ⟨0,0⟩ f43_l1 ⟨[(0,vsl (allL p)),(3,vptr 0),(5,vsl (reachL (allL p) x.name)),(6,vint 0)],[cC x]⟩ k =
  ((allL p).findSome? (keepI (allL p) x.name)).elim (k (.exit 0) ⟨[],[cC x]⟩) fun r=>k .ret ⟨[(4,vint r)],[cC x]⟩ :=
 scan_some (l:=allL p) (f:=keepI (allL p) x.name) (r:=fun r=>k .ret ⟨[(4,vint r)],[cC x]⟩) (X:=fun j=>K fns ⟨0,0⟩ f43_l1 ⟨[(0,vsl (allL p)),(3,vptr 0),(5,vsl (reachL (allL p) x.name)),(6,vint j)],[cC x]⟩ k)
  (fun j hj=>by
   have hL:=all_len hp
   have hw:=wrap_succ (i:=j) (by omega)
   have hh:=fn_has (reachL (allL p) x.name) (allL p)[j].name hr
   have L:=fun k=>kee_mets hp hP hx hs j hj k
   show K fns _ f43_l1 _ k=_
   rw [u43_l1]
   unfold keepI
   obtain ⟨q,hq⟩:∃ q,(allL p)[j].iface=q:=⟨_,rfl⟩
   obtain ⟨q1,hq1⟩:∃ q,decide ((allL p)[j].name ∈ reachL (allL p) x.name)=q:=⟨_,rfl⟩
   obtain ⟨q2,hq2⟩:∃ q,(allL p)[j].methods.findSome? (keepM (allL p) x.name)=q:=⟨_,rfl⟩
   rw [hq1] at hh
   simp only [hq2] at L
   simp only [hq,hq1,hq2]
   cases q
   ·simp [f43_b1,hj,hw,hq]
   ·cases q1
    ·simp [f43_b1,hj,hw,hq,hh]
    ·cases q2<;>simp only [Option.elim] at L<;>simp [f43_b1,hj,hw,hq,hh,L])
  (by show K fns _ f43_l1 _ k=_;rw [u43_l1];simp [f43_b1])
theorem fn_refKeeps {x:GClass} (hx:OkC x) (hs:x.name ∈ namesOf (allL p)) (hr:(reachL (allL p) x.name).length≤1000000) (σ:List Ob) (lo tr:Nat):Fn fns 43 [vsl (allL p),vClass x] σ lo tr=some (vint (keepE (allL p) x.name),σ):=by
 refine fn_gen t43 rfl (σ1:=[]) rfl rfl ?_ σ lo tr
 have hre:=fn_reach (allL p) x.name (all_len hp) (allL_ok hp)
 have L:=fun k=>kee_all hp hP hx hs hr k
 unfold keepE
 generalize reachL (allL p) x.name=r at *
 cases hq:(allL p).findSome? (keepI (allL p) x.name)<;>simp only [hq,Option.elim] at L<;>simp [KF,params,f43,hre,L]
end
def errS (F:GClass→Int) (x:GClass):Option Int:=if F x=0 then none else some (F x)
def errN (F:GClass→Int) (x:GClass):Option Int:=if x.iface then none else errS F x
def refE (p:GProgram):Int:=if hierP p=0 then ((p.classes.findSome? (errS (memE (allL p)))).getD ((p.classes.findSome? (errN (inhE (allL p)))).getD ((p.classes.findSome? (errN fun x=>keepE (allL p) x.name)).getD 0))) else hierP p
theorem all_at (p:GProgram) (i:Nat) (hi:i < p.classes.length):∃ h:i+8 < (allL p).length,(allL p)[i+8]=p.classes[i]:=by
 have hb:baseL.length=8:=rfl
 have h:i+8 < (allL p).length:=by simp only [allL,List.length_append];omega
 refine ⟨h,?_⟩
 have:(allL p)[i+8]?=some p.classes[i]:=by
  rw [allL,List.getElem?_append_right (by omega),hb]
  simp [hi]
 rw [List.getElem?_eq_getElem h] at this
 exact Option.some.inj this
section
variable {p:GProgram} (hp:OkP p) (hP:hierP p=0)
include hp hP
theorem sup_ok {x:GClass} (hx:x ∈ allL p):superL x ∈ namesOf (allL p)∨superL x=⟨#[]⟩:=by
 have hf:=find_self (sane_of hp hP).nd hx
 have hs:x.name ∈ namesOf (allL p):=List.mem_map.mpr ⟨x,hx,rfl⟩
 have e:supN (allL p) x.name=superL x:=by rw [supN,hf]
 by_cases h:superL x=⟨#[]⟩
 ·exact .inr h
 ·exact .inl (by rw [← e];exact sup_names hp hP hs (by rw [e];exact h))
theorem lay0 (k:AExit→St→Option (V × List Ob)):K fns ⟨0,0⟩ f17_l0 ⟨[(4,vsl (allL p)),(5,vint (8:Nat))],[cP p]⟩ k =
  (p.classes.findSome? (errS (memE (allL p)))).elim (k (.exit 0) ⟨[(4,vsl (allL p))],[cP p]⟩) fun r=>k .ret ⟨[(2,vint r)],[cP p]⟩:=by
 have hl8:(allL p).length=p.classes.length+8:=by
  have hb:baseL.length=8:=rfl
  simp only [allL,List.length_append];omega
 have H:=scan_some (l:=p.classes) (f:=errS (memE (allL p))) (r:=fun r=>k .ret ⟨[(2,vint r)],[cP p]⟩) (e:=k (.exit 0) ⟨[(4,vsl (allL p))],[cP p]⟩) (X:=fun j=>K fns ⟨0,0⟩ f17_l0 ⟨[(4,vsl (allL p)),(5,vint (j+8:Nat))],[cP p]⟩ k)
  (fun j hj=>by
   have hL:=all_len hp
   obtain ⟨h,h2⟩:=all_at p j hj
   have hw:=wrap_succ (i:=j+8) (by omega)
   have hc:=fn_members (hp.cs _ (List.getElem_mem hj)) (allL p) (by omega)
   show K fns _ f17_l0 _ k=_
   rw [u17_l0]
   unfold errS
   obtain ⟨q,hq⟩:∃ q,memE (allL p) p.classes[j]=q:=⟨_,rfl⟩
   obtain ⟨x,hx⟩:∃ x,p.classes[j]=x:=⟨_,rfl⟩
   rw [hq] at hc
   simp only [hq]
   rw [hx] at hc h2
   have e1:j+1+8=j+8+1:=by omega
   rw [e1]
   generalize j+8=i at *
   by_cases h0:q=0
   ·subst h0
    simp [f17_b0,h,h2,hw,hc]
   ·simp [f17_b0,h,h2,hw,hc,h0])
  (by
   show K fns _ f17_l0 _ k=_
   rw [u17_l0,← hl8]
   simp [f17_b0])
 exact H
theorem lay1 (k:AExit→St→Option (V × List Ob)):K fns ⟨0,0⟩ f17_l1 ⟨[(4,vsl (allL p)),(7,vint (8:Nat))],[cP p]⟩ k =
  (p.classes.findSome? (errN (inhE (allL p)))).elim (k (.exit 2) ⟨[(4,vsl (allL p))],[cP p]⟩) fun r=>k .ret ⟨[(2,vint r)],[cP p]⟩:=by
 have hl8:(allL p).length=p.classes.length+8:=by
  have hb:baseL.length=8:=rfl
  simp only [allL,List.length_append];omega
 exact scan_some (l:=p.classes) (f:=errN (inhE (allL p))) (r:=fun r=>k .ret ⟨[(2,vint r)],[cP p]⟩) (e:=k (.exit 2) ⟨[(4,vsl (allL p))],[cP p]⟩) (X:=fun j=>K fns ⟨0,0⟩ f17_l1 ⟨[(4,vsl (allL p)),(7,vint (j+8:Nat))],[cP p]⟩ k)
  (fun j hj=>by
   have hL:=all_len hp
   obtain ⟨h,h2⟩:=all_at p j hj
   have hw:=wrap_succ (i:=j+8) (by omega)
   have hin:p.classes[j] ∈ allL p:=List.mem_append_right _ (List.getElem_mem hj)
   have hc:=fn_inherits hp hP (hp.cs _ (List.getElem_mem hj)) (sup_ok hp hP hin)
   show K fns _ f17_l1 _ k=_
   rw [u17_l1]
   unfold errN errS
   obtain ⟨x,hx⟩:∃ x,p.classes[j]=x:=⟨_,rfl⟩
   simp only [hx] at hc h2 ⊢
   obtain ⟨q,hq⟩:∃ q,((inhE (allL p))) x=q:=⟨_,rfl⟩
   obtain ⟨q1,h1⟩:∃ q,x.iface=q:=⟨_,rfl⟩
   try simp only at hq
   rw [hq] at hc
   simp only [hq,vClass,h1] at hc ⊢
   have e1:j+1+8=j+8+1:=by omega
   rw [e1]
   generalize j+8=i at *
   cases q1
   ·by_cases h0:q=0
    ·subst h0
     simp [f17_b1,h,h2,hw,hc,h1]
    ·simp [f17_b1,h,h2,hw,hc,h0,h1]
   ·simp [f17_b1,h,h2,hw,h1])
  (by
   show K fns _ f17_l1 _ k=_
   rw [u17_l1,← hl8]
   simp [f17_b1])
theorem lay2 (k:AExit→St→Option (V × List Ob)):K fns ⟨0,0⟩ f17_l2 ⟨[(4,vsl (allL p)),(9,vint (8:Nat))],[cP p]⟩ k =
  (p.classes.findSome? (errN (fun x:GClass=>keepE (allL p) x.name))).elim (k (.exit 4) ⟨[],[cP p]⟩) fun r=>k .ret ⟨[(2,vint r)],[cP p]⟩:=by
 have hl8:(allL p).length=p.classes.length+8:=by
  have hb:baseL.length=8:=rfl
  simp only [allL,List.length_append];omega
 exact scan_some (l:=p.classes) (f:=errN (fun x:GClass=>keepE (allL p) x.name)) (r:=fun r=>k .ret ⟨[(2,vint r)],[cP p]⟩) (e:=k (.exit 4) ⟨[],[cP p]⟩) (X:=fun j=>K fns ⟨0,0⟩ f17_l2 ⟨[(4,vsl (allL p)),(9,vint (j+8:Nat))],[cP p]⟩ k)
  (fun j hj=>by
   have hL:=all_len hp
   obtain ⟨h,h2⟩:=all_at p j hj
   have hw:=wrap_succ (i:=j+8) (by omega)
   have hin:p.classes[j] ∈ allL p:=List.mem_append_right _ (List.getElem_mem hj)
   have hc:=fn_refKeeps hp hP (hp.cs _ (List.getElem_mem hj)) (List.mem_map.mpr ⟨_,hin,rfl⟩) (Nat.le_trans (reach_len _ hL (allL_ok hp)) (by decide))
   show K fns _ f17_l2 _ k=_
   rw [u17_l2]
   unfold errN errS
   obtain ⟨x,hx⟩:∃ x,p.classes[j]=x:=⟨_,rfl⟩
   simp only [hx] at hc h2 ⊢
   obtain ⟨q,hq⟩:∃ q,((fun x:GClass=>keepE (allL p) x.name)) x=q:=⟨_,rfl⟩
   obtain ⟨q1,h1⟩:∃ q,x.iface=q:=⟨_,rfl⟩
   try simp only at hq
   rw [hq] at hc
   simp only [hq,vClass,h1] at hc ⊢
   have e1:j+1+8=j+8+1:=by omega
   rw [e1]
   generalize j+8=i at *
   cases q1
   ·by_cases h0:q=0
    ·subst h0
     simp [f17_b2,h,h2,hw,hc,h1]
    ·simp [f17_b2,h,h2,hw,hc,h0,h1]
   ·simp [f17_b2,h,h2,hw,h1])
  (by
   show K fns _ f17_l2 _ k=_
   rw [u17_l2,← hl8]
   simp [f17_b2])
end
theorem fn_refLayout (p:GProgram) (hp:OkP p) (σ:List Ob) (lo tr:Nat):Fn fns 17 [vProgram p] σ lo tr=some (vint (refE p),σ):=by
 refine fn_gen t17 rfl (σ1:=[]) rfl rfl ?_ σ lo tr
 have hh:=fn_hier p hp
 rw [← hier_eq hp] at hh
 have hall:=fn_refAll p hp
 have hb:=fn_base
 have hb8:baseL.length=8:=rfl
 unfold refE
 by_cases hP:hierP p=0
 ·have L0:=fun k=>lay0 hp hP k
  have L1:=fun k=>lay1 hp hP k
  have L2:=fun k=>lay2 hp hP k
  rw [hP] at hh
  simp only [hP,if_true]
  have e8:((8:Nat):Int)=8:=rfl
  rw [e8] at L0 L1 L2
  cases q0:p.classes.findSome? (errS (memE (allL p))) with
  | some r =>
   simp only [q0,Option.elim] at L0
   simp [KF,params,f17,hh,hall,hb,hb8,L0]
  | none =>
   simp only [q0,Option.elim] at L0
   cases q1:p.classes.findSome? (errN (inhE (allL p))) with
   | some r =>
    simp only [q1,Option.elim] at L1
    simp [KF,params,f17,hh,hall,hb,hb8,L0,L1]
   | none =>
    simp only [q1,Option.elim] at L1
    cases q2:p.classes.findSome? (errN fun x=>keepE (allL p) x.name)<;>simp only [q2,Option.elim] at L2<;>simp [KF,params,f17,hh,hall,hb,hb8,L0,L1,L2]
 ·simp [KF,params,f17,hh,hP]
end
theorem chk_fold (F:GClass→Int):∀ (l:List GClass) (e:Int),l.foldl (chk F) e=if e=0 then (l.findSome? (errS F)).getD 0 else e
 | [],e=>by by_cases h:e=0<;>simp [h]
 | x :: l,e=>by
  rw [List.foldl_cons,chk_fold F l]
  unfold chk
  by_cases h:e=0
  ·subst h
   by_cases h2:F x=0
   ·simp [h2,errS]
   ·simp [h2,errS]
  ·simp [h]
theorem errS_some {F:GClass→Int} {l:List GClass} {r:Int} (h:l.findSome? (errS F)=some r):r≠0:=by
 obtain ⟨x,_,hx⟩:=List.exists_of_findSome?_eq_some h
 unfold errS at hx
 split at hx
 ·cases hx
 ·rename_i h0;cases hx;exact h0
theorem some_congr {F G:GClass→Option Int}:∀ {l:List GClass},(∀ x ∈ l,F x=G x)→l.findSome? F=l.findSome? G
 | [],_=>rfl
 | x :: l,h=>by
  rw [List.findSome?_cons,List.findSome?_cons,h x List.mem_cons_self,some_congr fun y hy=>h y (List.mem_cons_of_mem _ hy)]
theorem any_congr2 {α:Type} {F G:α→Bool}:∀ {l:List α},(∀ x ∈ l,F x=G x)→l.any F=l.any G
 | [],_=>rfl
 | x :: l,h=>by
  rw [List.any_cons,List.any_cons,h x List.mem_cons_self,any_congr2 fun y hy=>h y (List.mem_cons_of_mem _ hy)]
theorem form_eq (x:GClass) (m:GMethod):refFormB x m=formB x m:=by
 unfold refFormB formB
 cases x.iface<;>cases m.abstract_<;>cases m.static_<;>rfl
theorem any_or {α:Type} (F G:α→Bool) (l:List α):l.any (fun x=>F x || G x)=(l.any F || l.any G):=by
 induction l with
 | nil=>rfl
 | cons x l ih =>
  simp only [List.any_cons,ih]
  cases F x<;>cases G x<;>cases l.any F<;>cases l.any G<;>rfl
theorem idx_of {α:Type} [DecidableEq α] {l:List α} (h:l.Nodup) {i:Nat} (hi:i < l.length) {j:Nat} (hj:j < l.length) (e:l[i]=l[j]):i=j:=by
 rcases Nat.lt_trichotomy i j with a | a | a
 ·rw [List.Nodup,List.pairwise_iff_getElem] at h
  exact absurd e (h i j hi hj a)
 ·exact a
 ·rw [List.Nodup,List.pairwise_iff_getElem] at h
  exact absurd e.symm (h j i hj hi a)
theorem twiceF_eq (x:GClass):twiceF x=dupB (x.fields.map (·.name)):=by
 have key:twiceF x=false↔(x.fields.map (·.name)).Nodup:=by
  rw [List.Nodup,List.pairwise_iff_getElem]
  unfold twiceF
  rw [List.any_eq_false]
  constructor
  ·intro h i j hi hj hij e
   simp only [List.length_map] at hi hj
   simp only [List.getElem_map] at e
   have:=h j (by simpa using hj)
   simp only [List.any_eq_true,not_exists,not_and,List.getElem?_eq_getElem hj,Option.map_some,Option.getD_some,decide_eq_true_eq] at this
   refine this x.fields[i] ?_ e.symm
   exact List.mem_take_iff_getElem.mpr ⟨i,by omega,rfl⟩
  ·intro h j hj
   have hj:j < x.fields.length:=by simpa using hj
   simp only [List.any_eq_true,not_exists,not_and,List.getElem?_eq_getElem hj,Option.map_some,Option.getD_some,decide_eq_true_eq]
   intro f hf e
   obtain ⟨i,hi,rfl⟩:=List.mem_take_iff_getElem.mp hf
   have:=h i j (by simp;omega) (by simpa using hj) (by omega)
   simp only [List.getElem_map] at this
   exact this e.symm
 cases h:dupB (x.fields.map (·.name))
 ·exact key.mpr ((dup_iff _).mp h)
 ·cases h2:twiceF x
  ·rw [(dup_iff _).mpr (key.mp h2)] at h;cases h
  ·rfl
theorem firstsM_eq (x:GClass):firstsM x=dupB (x.methods.map (·.name)):=by
 have key:firstsM x=false↔(x.methods.map (·.name)).Nodup:=by
  unfold firstsM
  rw [List.any_eq_false]
  constructor
  ·intro h
   rw [List.Nodup,List.pairwise_iff_getElem]
   intro i j hi hj hij e
   simp only [List.length_map] at hi hj
   simp only [List.getElem_map] at e
   have:=h j (by simpa using hj)
   simp only [List.getElem?_eq_getElem hj,Option.map_some,Option.getD_some,Bool.not_eq_true',decide_eq_false_iff_not,Decidable.not_not] at this
   unfold idxI at this
   cases hq:x.methods.findIdx? (fun m=>decide (m.name=x.methods[j].name)) with
   | none=>rw [hq] at this;simp at this
   | some q =>
    rw [hq] at this
    simp only at this
    have hqj:q=j:=by omega
    subst hqj
    obtain ⟨_,_,h3⟩:=List.findIdx?_eq_some_iff_getElem.mp hq
    have:=h3 i hij
    simp [e] at this
  ·intro h j hj
   have hj:j < x.methods.length:=by simpa using hj
   simp only [List.getElem?_eq_getElem hj,Option.map_some,Option.getD_some,Bool.not_eq_true',decide_eq_false_iff_not,Decidable.not_not]
   unfold idxI
   cases hq:x.methods.findIdx? (fun m=>decide (m.name=x.methods[j].name)) with
   | none =>
    rw [List.findIdx?_eq_none_iff] at hq
    have:=hq x.methods[j] (List.getElem_mem hj)
    simp at this
   | some q =>
    obtain ⟨h1,h2,_⟩:=List.findIdx?_eq_some_iff_getElem.mp hq
    simp only [decide_eq_true_eq] at h2
    have:=idx_of h (i:=q) (by simpa using h1) (j:=j) (by simpa using hj) (by simpa using h2)
    simp [this]
 cases h:dupB (x.methods.map (·.name))
 ·exact key.mpr ((dup_iff _).mp h)
 ·cases h2:firstsM x
  ·rw [(dup_iff _).mpr (key.mp h2)] at h;cases h
  ·rfl
theorem flat_any {α β:Type} (f:α→List β) (F:β→Bool) (l:List α):(l.flatMap f).any F=l.any fun x=>(f x).any F:=by
 induction l with
 | nil=>rfl
 | cons x l ih=>rw [List.flatMap_cons,List.any_append,List.any_cons,ih]
section
variable {p:GProgram} (hP:hierP p=0)
include hP
theorem typed_all {x:GClass} (hx:x ∈ p.classes):(∀ f ∈ x.fields,typedB f.type_=true)∧∀ m ∈ x.methods,typedB m.ret=true∧∀ t ∈ m.params,typedB t=true:=by
 have hb:=prog_of hP
 simp only [progB,Bool.and_eq_true,List.all_eq_true] at hb
 have h1:=hb.2 x hx
 simp only [classB,Bool.and_eq_true,List.all_eq_true] at h1
 refine ⟨fun f hf=>?_,fun m hm=>?_⟩
 ·have:=h1.2.2.2.1.2 f hf
  simp only [fieldB,Bool.and_eq_true] at this
  exact this.2
 ·have:=h1.2.2.2.2.2 m hm
  simp only [methodB,Bool.and_eq_true,List.all_eq_true] at this
  exact ⟨this.2.2.2.1,this.2.2.1.2⟩
theorem unk_eq {t:GType} (ht:typedB t=true):unkB p t = !namesB (allL p) t:=by
 unfold typedB at ht
 unfold unkB namesB
 have hat:decide (0≤atI (allL p) t.name)=(findC (allL p) t.name).isSome:=by
  rcases at_find (l:=allL p) (s:=t.name) with ⟨h,h2⟩ | ⟨i,_,h1,h2,_⟩
  ·have h':findC (allL p) t.name=none:=h
   rw [h',h2];rfl
  ·have h':findC (allL p) t.name=some _:=h2
   rw [h',h1]
   simp
 rw [hat]
 split at ht
 ·rename_i hk
  have hn:t.name=⟨#[]⟩:=by simpa using ht
  have k3:¬ t.kind=3:=by omega
  have k5:¬ t.kind=5:=by omega
  simp [hn,k3,k5]
 ·split at ht
  ·rename_i hk
   have hn:¬ t.name=⟨#[]⟩:=fun e=>by
    rw [e] at ht
    have h0:freshB (⟨#[]⟩:ByteArray)=false:=by decide
    rw [h0] at ht;cases ht
   rcases hk with k | k<;>simp [hn,k]
  ·cases ht
theorem alone_eq {x:GClass} (hx:x ∈ p.classes):aloneT p x=memE (allL p) x:=by
 obtain ⟨t1,t2⟩:=typed_all hP hx
 unfold aloneT memE
 rw [twiceF_eq,firstsM_eq,any_or,any_or,any_or]
 have e1:x.methods.any (fun m=>refFormB x m)=x.methods.any (formB x):=any_congr2 fun m _=>form_eq x m
 have e2:(givenT x).any (fun t=>decide (t.kind=1))=(x.fields.any (fun f=>decide (f.type_.kind=1)) || x.methods.any fun m=>m.params.any fun t=>decide (t.kind=1)):=by
  rw [givenT,List.any_append,flat_any,List.any_map];rfl
 have e3:x.fields.any (fun _=>x.iface)=(x.iface && decide (0 < x.fields.length)):=by
  cases hf:x.fields with
  | nil=>simp
  | cons f l=>cases x.iface<;>simp
 have e4:(givenT x ++ x.methods.map (·.ret)).any (unkB p)=(x.fields.any (fun f=>!namesB (allL p) f.type_) || (x.methods.any (fun m=>!namesB (allL p) m.ret) || x.methods.any fun m=>m.params.any fun t=>!namesB (allL p) t)):=by
  rw [List.any_append,givenT,List.any_append,flat_any,List.any_map,List.any_map]
  have a1:x.fields.any (unkB p ∘ fun f=>f.type_)=x.fields.any fun f=>!namesB (allL p) f.type_:=any_congr2 fun f hf=>unk_eq hP (t1 f hf)
  have a2:(x.methods.any fun m=>m.params.any (unkB p))=x.methods.any fun m=>m.params.any fun t=>!namesB (allL p) t:=any_congr2 fun m hm=>any_congr2 fun t ht=>unk_eq hP ((t2 m hm).2 t ht)
  have a3:x.methods.any (unkB p ∘ fun m=>m.ret)=x.methods.any fun m=>!namesB (allL p) m.ret:=any_congr2 fun m hm=>unk_eq hP (t2 m hm).1
  rw [a1,a2,a3,Bool.or_assoc]
  congr 1
  exact Bool.or_comm _ _
 rw [e1,e2,e3,e4]
 generalize x.methods.any (formB x)=b1
 generalize (x.methods.any fun m=>m.params.any fun t=>decide (t.kind=1))=b2
 generalize (x.iface && decide (0 < x.fields.length))=b3
 generalize (x.fields.any fun f=>decide (f.type_.kind=1))=b4
 generalize dupB _=b5
 generalize dupB _=b6
 generalize (x.fields.any fun f=>!namesB (allL p) f.type_)=b7
 generalize (x.methods.any (fun m=>!namesB (allL p) m.ret))=b8
 generalize (x.methods.any fun m=>m.params.any fun t=>!namesB (allL p) t)=b9
 cases b1<;>cases b2<;>cases b3<;>cases b4<;>cases b5<;>cases b6<;>cases b7<;>cases b8<;>cases b9<;>rfl
end
section
variable {p:GProgram} (hp:OkP p) (hP:hierP p=0)
include hp hP
theorem cls_self {x:GClass} (hx:x ∈ allL p):clsN (allL p) x.name=x:=by
 rw [clsN,find_self (sane_of hp hP).nd hx];rfl
theorem lost_no:(allL p).any (lostB (allL p))=false:=by
 unfold hierP at hP
 cases hb:progB p
 ·rw [hb] at hP;cases hP
 rw [hb] at hP
 simp only [cond_true] at hP
 by_cases ht:(mapL (allL p)).length < (allL p).length
 ·simp [ht] at hP
 simp only [ht,decide_false,cond_false] at hP
 cases hl:(allL p).any (lostB (allL p))
 ·rfl
 ·rw [hl] at hP;cases hP
theorem sup_class {x:GClass} (hx:x ∈ allL p) (h:superL x≠⟨#[]⟩):(clsN (allL p) (superL x)).iface=false:=by
 have:=lost_no hp hP
 rw [List.any_eq_false] at this
 have:=this x hx
 unfold lostB at this
 simp only [Bool.or_eq_true,not_or,Bool.and_eq_true,Bool.not_eq_true',decide_eq_false_iff_not] at this
 have h1:=this.1
 cases hq:(allL p).find? (fun y:GClass=>decide (y.name=superL x)) with
 | none=>rw [hq] at h1;exact absurd ⟨h,rfl⟩ h1
 | some y =>
  rw [hq] at h1
  have hf:findC (allL p) (superL x)=some y:=hq
  rw [clsN,hf]
  cases hi:y.iface
  ·exact hi
  ·exact absurd ⟨h,hi⟩ h1
theorem tab_slots {s:ByteArray} (hs:s=⟨#[]⟩∨(s ∈ namesOf (allL p)∧(clsN (allL p) s).iface=false)):slotsT (tabsL (allL p)) s=slotsO (allL p) s:=by
 have ht:=told_all hp hP
 unfold slotsT slotsO
 rw [ht.ls]
 rcases hs with rfl | ⟨h1,h2⟩
 ·rw [if_pos rfl,if_neg (fun h=>name_pos hP h.1 rfl)]
 ·rw [if_neg (name_pos hP h1),if_pos ⟨h1,h2⟩]
theorem tab_met {s:ByteArray} (hs:s=⟨#[]⟩∨(s ∈ namesOf (allL p)∧(clsN (allL p) s).iface=false)) (n:ByteArray):lookA (tabsL (allL p)).fs (s,n)=(metO (allL p) s n).map (·.2):=by
 have ht:=told_all hp hP
 unfold metO
 rw [ht.fs]
 rcases hs with rfl | ⟨h1,h2⟩
 ·rw [if_pos rfl,if_neg (fun h=>name_pos hP h.1 rfl)];rfl
 ·rw [if_neg (name_pos hP h1),if_pos ⟨h1,h2⟩]
theorem over_eq {x:GClass} (hx:x ∈ p.classes):overT p (tabsL (allL p)) x=if x.iface then 0 else inhE (allL p) x:=by
 have hin:x ∈ allL p:=List.mem_append_right _ hx
 have e:supN (allL p) x.name=superL x:=by rw [supN,find_self (sane_of hp hP).nd hin]
 have hs:superL x=⟨#[]⟩∨(superL x ∈ namesOf (allL p)∧(clsN (allL p) (superL x)).iface=false):=by
  by_cases h:superL x=⟨#[]⟩
  ·exact .inl h
  ·rcases sup_ok hp hP hin with a | a
   ·exact .inr ⟨a,sup_class hp hP hin h⟩
   ·exact absurd a h
 unfold overT inhE
 rw [e]
 have e1:x.fields.any (overF (tabsL (allL p)) (superL x))=x.fields.any (fun f=>(slotsO (allL p) (superL x)).any fun y=>!f.static_ && decide (y.name=f.name)):=any_congr2 fun f _=>by
  unfold overF
  rw [tab_slots hp hP hs]
  cases f.static_
  ·simp
  ·simp
 have e2:x.methods.any (overM (tabsL (allL p)) (superL x))=x.methods.any (fun m=>(metO (allL p) (superL x) m.name).elim false fun r=>badM r m):=any_congr2 fun m _=>by
  unfold overM
  rw [tab_met hp hP hs]
  cases metO (allL p) (superL x) m.name with
  | none=>rfl
  | some r =>
   simp only [Option.map_some,Option.elim,alikeB,badM,likeB]
   rw [decide_eq_decide.mpr (eq_comm (a:=m.static_) (b:=r.2.static_)),decide_eq_decide.mpr (eq_comm (a:=m.params) (b:=r.2.params)),decide_eq_decide.mpr (eq_comm (a:=m.ret) (b:=r.2.ret)),Bool.not_and]
 rw [e1,e2]
theorem base_class {x:GClass} (hx:x ∈ allL p) (hi:x.iface=true):x ∈ p.classes:=by
 rcases List.mem_append.mp hx with a | a
 ·have:∀ c ∈ baseL,c.iface=false:=by decide
  rw [this x a] at hi;cases hi
 ·exact a
theorem keeps_eq (ha:∀ x ∈ p.classes,aloneT p x=0) {x:GClass} (hx:x ∈ p.classes):keepsT p (tabsL (allL p)) x=if x.iface then 0 else keepE (allL p) x.name:=by
 have hin:x ∈ allL p:=List.mem_append_right _ hx
 have hxn:x.name ∈ namesOf (allL p):=List.mem_map.mpr ⟨x,hin,rfl⟩
 unfold keepsT keepE
 cases hif:x.iface with
 | true=>rfl
 | false =>
  simp only [Bool.false_eq_true,if_false]
  congr 1
  have hn:(namesOf (allL p)).findSome? (keepsS p (tabsL (allL p)) x.name)=(allL p).findSome? fun y=>keepsS p (tabsL (allL p)) x.name y.name:=by
   rw [namesOf,List.findSome?_map];rfl
  rw [hn]
  refine some_congr fun y hy=>?_
  unfold keepsS keepI
  rw [cls_self hp hP hy]
  cases hyi:y.iface with
  | false=>rfl
  | true =>
   have hyn:y.name ∈ namesOf (allL p):=List.mem_map.mpr ⟨y,hy,rfl⟩
   have hu:underP p x.name y.name=decide (y.name ∈ reachL (allL p) x.name):=by
    rw [← refU_eq hp hP,refU,decide_eq_true hxn,decide_eq_true hyn]
    have:¬ y.name=sObject:=fun e=>by
     have h1:=find_self (sane_of hp hP).nd hy
     have ho:(⟨sObject,false,⟨#[]⟩,[],[],[]⟩:GClass) ∈ allL p:=List.mem_append_left _ (by simp [baseL])
     have h2:=find_self (sane_of hp hP).nd ho
     rw [e] at h1
     rw [h1] at h2
     have h3:y=⟨sObject,false,⟨#[]⟩,[],[],[]⟩:=Option.some.inj h2
     rw [h3] at hyi;cases hyi
    simp [this]
   rw [hu]
   split
   ·have hal:=ha y (base_class hp hP hy hyi)
    have hst:∀ m ∈ y.methods,m.static_=false:=by
     intro m hm
     unfold aloneT at hal
     split at hal
     ·cases hal
     ·rename_i hf
      have:¬ formB y m=true:=fun h=>hf (List.any_eq_true.mpr ⟨m,hm,h⟩)
      unfold formB at this
      rw [hyi] at this
      cases hs:m.static_
      ·rfl
      ·rw [hs] at this;simp at this
    have key:∀ ms:List GMethod,(∀ m ∈ ms,m.static_=false)→ms.findSome? (keepsM (tabsL (allL p)) x.name)=ms.findSome? (keepM (allL p) x.name):=by
     intro ms
     induction ms with
     | nil=>intro _;rfl
     | cons m ms ih =>
      intro h
      rw [List.findSome?_cons,List.findSome?_cons,ih fun q hq=>h q (List.mem_cons_of_mem _ hq)]
      have e:keepsM (tabsL (allL p)) x.name m=keepM (allL p) x.name m:=by
       unfold keepsM keepM
       rw [tab_met hp hP (.inr ⟨hxn,by rw [cls_self hp hP hin];exact hif⟩)]
       cases metO (allL p) x.name m.name with
       | none=>rfl
       | some r =>
        simp only [Option.map_some,Option.elim,alikeB,likeB,h m List.mem_cons_self]
        have c1:decide (m.params=r.2.params)=decide (r.2.params=m.params):=decide_eq_decide.mpr eq_comm
        have c2:decide (m.ret=r.2.ret)=decide (r.2.ret=m.ret):=decide_eq_decide.mpr eq_comm
        rw [c1,c2]
        cases r.2.static_<;>by_cases h1:r.2.params=m.params<;>by_cases h2:r.2.ret=m.ret<;>simp [h1,h2]
      rw [e]
    exact key y.methods hst
   ·rfl
end
theorem lay_eq {p:GProgram} (hp:OkP p):layE p=refE p:=by
 unfold layE refE
 by_cases hP:hierP p=0
 ·rw [if_pos hP,if_pos hP,chksT,chk_fold,chk_fold,chk_fold,if_pos rfl]
  have e1:p.classes.findSome? (errS (aloneT p))=p.classes.findSome? (errS (memE (allL p))):=some_congr fun x hx=>by simp only [errS,alone_eq hP hx]
  rw [← e1]
  cases q1:p.classes.findSome? (errS (aloneT p)) with
  | some r =>
   have:=errS_some q1
   simp [this]
  | none =>
   simp only [Option.getD_none,if_true]
   have ha:∀ x ∈ p.classes,aloneT p x=0:=fun x hx=>by
    have:=List.findSome?_eq_none_iff.mp q1 x hx
    unfold errS at this
    split at this
    ·assumption
    ·cases this
   have e2:p.classes.findSome? (errS (overT p (tabsL (allL p))))=p.classes.findSome? (errN (inhE (allL p))):=some_congr fun x hx=>by
    simp only [errS,errN,over_eq hp hP hx]
    cases x.iface<;>simp
   have e3:p.classes.findSome? (errS (keepsT p (tabsL (allL p))))=p.classes.findSome? (errN fun x=>keepE (allL p) x.name):=some_congr fun x hx=>by
    simp only [errS,errN,keeps_eq hp hP ha hx]
    cases x.iface<;>simp
   rw [← e2,← e3]
   cases q2:p.classes.findSome? (errS (overT p (tabsL (allL p)))) with
   | some r =>
    have:=errS_some q2
    simp [this]
   | none=>simp
 ·rw [if_neg hP,if_neg hP]
section
attribute [local simp ↓] K_seq K_cond K_block K_region K_skip K_exit K_ret K_wrap KA_nil KA_none KA_some str_eq
attribute [local simp] beq_int bne_int dec_eqN dec_ltN dec_leN stepOp St.rd St.raw St.set St.took get_cons V.down C.down Env.keep binV unV arith isShift strs intOf optInt wrapEnd keptAt andK endOf frzV frz1 frzC frzCs frz1s resOf resOne resAll V.closed V.closed1 C.closed B.closed Ob.closed V.cells partsIn rep chunk datas C.data rowsOf getCells put_nil put_zero put_succ mayWrite C.plain eqV_bool eqV_agg eqV_pnn eqV_pnp eqV_ppn eqV_mnn eqV_mmn eqV_snn eqV_sen eqV_san eqV_sdn rs_len rs_getE rs_app rs_take rs_drop rs_all rs_each row_len str_nilP str_nilE str_nilB vagg row_Int row_Bool row_Str k_Int k_Bool k_Str snoc_Int snoc_Bool snoc_Str row_Type k_Type snoc_Type eta_Type sames_Type row_Field k_Field snoc_Field eta_Field sames_Field row_Instr k_Instr snoc_Instr eta_Instr sames_Instr row_Catch k_Catch snoc_Catch eta_Catch sames_Catch row_Method k_Method snoc_Method row_Class k_Class snoc_Class row_Program k_Program snoc_Program row_Slot k_Slot snoc_Slot eta_Slot sames_Slot row_Way k_Way snoc_Way eta_Way sames_Way
abbrev pNone:GProgram:=⟨[]⟩
theorem n1:(findC (allL pNone) sObject).isSome=true:=by kernel_rfl
theorem n2:(findC (allL pNone) sError).isSome=true:=by kernel_rfl
theorem n3:(findC (allL pNone) sNullError).isSome=true:=by kernel_rfl
theorem n4:(findC (allL pNone) sNumError).isSome=true:=by kernel_rfl
def rightR (p:GProgram) (t:GType):Bool:=if t.kind=2∨t.kind=4∨t.kind=6∨t.kind=7 then decide (t.name=⟨#[]⟩) else if t.kind=3∨t.kind=5 then (findC (allL p) t.name).isSome else false
theorem at_some (p:GProgram) (s:ByteArray):decide (0≤atI (allL p) s)=(findC (allL p) s).isSome:=by
 rcases at_find (l:=allL p) (s:=s) with ⟨h,h2⟩ | ⟨i,_,h1,h2,_⟩
 ·have h':findC (allL p) s=none:=h
  rw [h',h2];rfl
 ·have h':findC (allL p) s=some _:=h2
  rw [h',h1]
  simp
theorem fn_refRight (p:GProgram) (hp:OkP p) (t:GType) (σ:List Ob) (lo tr:Nat):Fn fns 19 [vProgram p,vType t] σ lo tr=some (vbool (rightR p t),σ):=by
 have hall:=fn_refAll p hp
 have hat:=fn_at (allL p) t.name (by have:=all_len hp;omega)
 have hs:=at_some p t.name
 refine fn_gen t19 rfl (σ1:=[]) rfl rfl ?_ σ lo tr
 unfold rightR
 rw [← hs]
 obtain ⟨k0,n⟩:=t
 by_cases h2:k0=2
 ·simp [KF,params,f19,h2]
 by_cases h4:k0=4
 ·simp [KF,params,f19,h4]
 by_cases h6:k0=6
 ·simp [KF,params,f19,h6]
 by_cases h7:k0=7
 ·simp [KF,params,f19,h7]
 by_cases h3:k0=3
 ·simp [KF,params,f19,h3,hall,hat]
 by_cases h5:k0=5
 ·simp [KF,params,f19,h5,hall,hat]
 ·simp [KF,params,f19,h2,h3,h4,h5,h6,h7]
end
section
variable {p:GProgram} (hp:OkP p) (hP:hierP p=0)
include hp hP
end
end Go.Proofs.YteeofkbhopioiaaGreatDoor.Am
