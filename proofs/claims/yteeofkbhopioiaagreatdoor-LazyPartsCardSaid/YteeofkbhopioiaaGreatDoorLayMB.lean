/- Lemmas that the rows' proofs rest on; each states its own conditions. -/
import Derived.Test.YteeofkbhopioiaaGreatDoorLayMA
namespace Go.Proofs.YteeofkbhopioiaaGreatDoor.Am
set_option linter.unusedSimpArgs false
set_option linter.unusedVariables false
set_option linter.unusedSectionVars false
open Go
section
attribute [local simp ↓] K_seq K_cond K_block K_region K_skip K_exit K_ret K_wrap KA_nil KA_none KA_some str_eq
attribute [local simp] beq_int bne_int dec_eqN dec_ltN dec_leN stepOp St.rd St.raw St.set St.took get_cons V.down C.down Env.keep binV unV arith isShift strs intOf optInt wrapEnd keptAt andK endOf frzV frz1 frzC frzCs frz1s resOf resOne resAll V.closed V.closed1 C.closed B.closed Ob.closed V.cells partsIn rep chunk datas C.data rowsOf getCells put_nil put_zero put_succ mayWrite C.plain eqV_bool eqV_agg eqV_pnn eqV_pnp eqV_ppn eqV_mnn eqV_mmn eqV_snn eqV_sen eqV_san eqV_sdn rs_len rs_getE rs_app rs_take rs_drop rs_all rs_each row_len str_nilP str_nilE str_nilB vagg row_Int row_Bool row_Str k_Int k_Bool k_Str snoc_Int snoc_Bool snoc_Str row_Type k_Type snoc_Type eta_Type sames_Type row_Field k_Field snoc_Field eta_Field sames_Field row_Instr k_Instr snoc_Instr eta_Instr sames_Instr row_Catch k_Catch snoc_Catch eta_Catch sames_Catch row_Method k_Method snoc_Method row_Class k_Class snoc_Class row_Program k_Program snoc_Program row_Slot k_Slot snoc_Slot eta_Slot sames_Slot row_Way k_Way snoc_Way eta_Way sames_Way
section
variable {p:GProgram} {X:Nat}
theorem Done.lt {S:List Ob} (h:Done p X 1 0 S):X < S.length:=by
 obtain ⟨b,r1,r2,r3,r4,r5,hb,hx,_⟩:=h.at_
 exact get_lt hx
theorem Done.zM {S:List Ob} (h:Done p X 1 0 S):Done p X 1 0 (S ++ [zOb]):=h.cells (fun k=>by simp [C.closed,B.closed])
theorem Done.cM {S:List Ob} (h:Done p X 1 0 S) (m:GMethod):Done p X 1 0 (S ++ [cM m]):=h.cells (fun k=>by simp [C.closed,B.closed])
theorem Done.cC {S:List Ob} (h:Done p X 1 0 S) (c:GClass):Done p X 1 0 (S ++ [cC c]):=h.cells (fun k=>by simp [C.closed,B.closed])
end
section
variable {p:GProgram} {X:Nat} {S σ:List Ob}
theorem fn_tabClsA (hp:OkP p) (h:Avail p X σ) (s:ByteArray):∃ S cl,Fn fns 32 [vptr X,vstr s] σ 0 0=some (.tup [vClass cl,vbool (decide (s ∈ namesOf (allL p)) && decide (layE p=0))],S)∧Done p X 1 0 S∧But X σ S∧(layE p=0→cl=clsN (allL p) s):=by
 obtain ⟨S,s1,s2,s3,s4⟩:=made_box hp h (cs:=[.b (.d (.str ⟨#[]⟩)),.b (.d (.bool false)),.b (.d (.str ⟨#[]⟩)),.osl 1 [],.osl 4 [],.osl 9 []]) (fun k=>by simp [C.closed,B.closed])
 have hX:=h.lt
 have hz:=s3.box hX
 have z1:=get_lt hz
 have z2:=(List.getElem?_eq_some_iff.mp hz).2
 obtain ⟨b,r1,r2,r3,r4,r5,hb,hx,τ,rfl,hT⟩:=s2.at_
 have h1:=get_lt hx
 have h2:=(List.getElem?_eq_some_iff.mp hx).2
 obtain ⟨l,hl,hc⟩:=fn_tClass hT
 have hc:=hc s 0 0 (Nat.zero_le _)
 have hin:layE p=0→decide (s ∈ namesOf (allL p))=(findC (allL p) s).isSome:=fun hE=>by
  by_cases h:s ∈ namesOf (allL p)
  ·obtain ⟨c,f1,_⟩:=find_name h
   rw [decide_eq_true h,f1];rfl
  ·rw [decide_eq_false h]
   cases hf:findC (allL p) s with
   | none=>rfl
   | some c=>exact absurd (List.mem_map.mpr ⟨c,find_mem hf⟩) h
 have hbut:∀ (o:Ob) (J:List Ob),But X σ (S.set σ.length o ++ J):=fun o J=>⟨by rw [List.length_append,List.length_set];omega,fun i a b=>by rw [List.getElem?_append_left (by rw [List.length_set];omega),List.getElem?_set_ne (by omega)];exact s3.old.2 i a b⟩
 have hdone:∀ c:GClass,Done p X 1 0 (S.set σ.length (cC c) ++ [cC c]):=fun c=>(s4 (cC c) (fun k=>by simp [Ob.closed,C.closed,B.closed])).cC c
 have hse:∀ c o:Ob,(S ++ [c]).set σ.length o=S.set σ.length o ++ [c]:=fun c o=>List.set_append_left _ _ z1
 have n1:¬ S.length=σ.length:=by omega
 have n2:farFrom S.length (.c (.b (.ptr X 0)))=true:=far_ne (by omega)
 have n3:farFrom S.length (.c (.b (.ptr σ.length 0)))=true:=far_ne (by omega)
 have n4:farFrom σ.length (.c (.b (.ptr X 0)))=true:=far_ne (by omega)
 have n5:farFrom σ.length (.c (.b (.ptr S.length 0)))=true:=far_ne (by omega)
 by_cases hE:layE p=0
 ·have hP:=layE_hier hE
  have:=hl hP
  subst this
  rw [← hin hE] at hc
  generalize hcl:(findC (allL p) s).getD noC=cl at hc
  refine ⟨_,cl,?_,hdone cl,hbut _ _,fun _=>hcl.symm⟩
  rw [fn_eq t32 rfl rfl]
  generalize decide (s ∈ namesOf (allL p))=q at *
  simp only [hP,decide_true,Bool.and_true] at hc
  cases q
  all_goals simp [KF,params,f32,List.getElem?_append_left,List.getElem?_append_right,List.set_append_left,List.set_append_right,hse,s1,hX,h1,h2,z1,z2,hc,hE,n1,n2,n3,n4,n5]
 ·generalize (findC l s).getD noC=cl at hc
  refine ⟨_,cl,?_,hdone cl,hbut _ _,fun h=>absurd h hE⟩
  rw [fn_eq t32 rfl rfl]
  generalize ((findC l s).isSome && decide (hierP p=0))=q at hc
  cases q
  all_goals simp [KF,params,f32,List.getElem?_append_left,List.getElem?_append_right,List.set_append_left,List.set_append_right,hse,s1,hX,h1,h2,z1,z2,hc,hE,n1,n2,n3,n4,n5]
end
section
variable {p:GProgram} {X:Nat} {S σ:List Ob}
end
theorem at_cls2 (l:List GClass) (s:ByteArray):(s ∉ namesOf l∧atI l s = -1)∨∃ (i:Nat) (h:i < l.length),s ∈ namesOf l∧atI l s=i∧l[i]=clsN l s∧(clsN l s).name=s:=by
 by_cases hs:s ∈ namesOf l
 ·obtain ⟨i,h,h1,h2,h3⟩:=at_cls hs
  exact .inr ⟨i,h,hs,h1,h2,h3⟩
 ·refine .inl ⟨hs,?_⟩
  rcases at_find (l:=l) (s:=s) with ⟨_,h2⟩ | ⟨i,h,_,_,h3,_⟩
  ·exact h2
  ·exact absurd (List.mem_map.mpr ⟨l[i],List.getElem_mem h,h3⟩) hs
theorem fn_refClass (p:GProgram) (hp:OkP p) (s:ByteArray) (σ:List Ob) (lo tr:Nat):Fn fns 21 [vProgram p,vstr s] σ lo tr=some (vbool (clsB p s),σ):=by
 have hall:=fn_refAll p hp
 have hL:=all_len hp
 have hat:=fn_at (allL p) s (by omega)
 refine fn_gen t21 rfl (σ1:=[]) rfl rfl ?_ σ lo tr
 unfold clsB
 rcases at_cls2 (allL p) s with ⟨hs,h1⟩ | ⟨i,hi,hs,h1,h2,h3⟩
 ·rw [h1] at hat
  simp [KF,params,f21,hall,hat,hs]
 ·rw [h1] at hat
  have h0:(0:Int)≤i:=by omega
  cases hq:(clsN (allL p) s).iface
  all_goals simp [KF,params,f21,hall,hat,hs,hi,h2,h0,hq]
end
end Go.Proofs.YteeofkbhopioiaaGreatDoor.Am
