/- Lemmas that the rows' proofs rest on; each states its own conditions. -/
import Derived.Test.YteeofkbhopioiaaGreatDoorLazMA
namespace Go.Proofs.YteeofkbhopioiaaGreatDoor.Am
set_option linter.unusedSimpArgs false
set_option linter.unusedVariables false
set_option linter.unusedSectionVars false
open Go
section
attribute [local simp ↓] K_seq K_cond K_block K_region K_skip K_exit K_ret K_wrap KA_nil KA_none KA_some str_eq
attribute [local simp] beq_int bne_int dec_eqN dec_ltN dec_leN stepOp St.rd St.raw St.set St.took get_cons V.down C.down Env.keep binV unV arith isShift strs intOf optInt wrapEnd keptAt andK endOf frzV frz1 frzC frzCs frz1s resOf resOne resAll V.closed V.closed1 C.closed B.closed Ob.closed V.cells partsIn rep chunk datas C.data rowsOf getCells put_nil put_zero put_succ mayWrite C.plain eqV_bool eqV_agg eqV_pnn eqV_pnp eqV_ppn eqV_mnn eqV_mmn eqV_snn eqV_sen eqV_san eqV_sdn rs_len rs_getE rs_app rs_take rs_drop rs_all rs_each row_len str_nilP str_nilE str_nilB vagg row_Int row_Bool row_Str k_Int k_Bool k_Str snoc_Int snoc_Bool snoc_Str row_Type k_Type snoc_Type eta_Type sames_Type row_Field k_Field snoc_Field eta_Field sames_Field row_Instr k_Instr snoc_Instr eta_Instr sames_Instr row_Catch k_Catch snoc_Catch eta_Catch sames_Catch row_Method k_Method snoc_Method row_Class k_Class snoc_Class row_Program k_Program snoc_Program row_Slot k_Slot snoc_Slot eta_Slot sames_Slot row_Way k_Way snoc_Way eta_Way sames_Way
theorem wi_len {p:GProgram} (hp:OkP p) (t:GType) (L:List GType) (o l:Int) (hl:l≤3):(waysI p t L o l).length≤L.length+200:=by
 have h1:=there_len p t L 0
 have h2:=kinds_len hp t.name
 unfold waysI newF
 rw [List.length_cons,List.length_append]
 split
 ·simp;omega
 ·split
  ·rw [List.length_map];omega
  ·rw [List.length_map,List.length_range];omega
theorem ways_len {p:GProgram} (hp:OkP p) (t:GType) (L:List GType) (hL:L.length≤1000) (o l:Int):(waysP p t L o l).length≤1000000:=by
 unfold waysP
 split
 ·rename_i h
  have hl:l≤3:=by
   unfold waysX at h
   split at h
   ·split at h
    ·split at h
     ·cases h
     ·omega
    ·cases h
   ·rename_i hE;exact absurd h hE
  have:=wi_len hp t L o l hl
  omega
 ·simp
theorem slotW_len {p:GProgram} (hp:OkP p) (w:GWay):(slotWP p w).length≤1000000:=by
 unfold slotWP
 split
 ·rename_i h
  unfold slotWX at h
  split at h
  ·rename_i hE
   split at h
   ·rename_i hw
    unfold wayOk at hw
    simp only [Bool.or_eq_true,Bool.and_eq_true,decide_eq_true_eq] at hw
    unfold slotW
    rcases hw with ⟨k3,_,_,_,hc⟩ | ⟨k4,_,_,h0,h1⟩
    ·rw [if_pos k3,List.length_map]
     have:=slots_len hp (layE_hier hE) hc
     omega
    ·rw [if_neg (by omega),List.length_replicate];omega
   ·cases h
  ·rename_i hE;exact absurd h hE
 ·simp
set_option maxRecDepth 8000 in
set_option maxHeartbeats 1600000 in
theorem fn_lazExact (p:GProgram) (t:GType) (L:List GType) (o l:Int) (w:GWay) (σ:List Ob) (lo tr:Nat):Fn fns 3 [vProgram p,vType t,vsl L,vint o,vint l,vWay w] σ lo tr=some (vbool true,σ):=by
 refine fn_gen t3 rfl (σ1:=[]) rfl rfl ?_ σ lo tr
 cases hv:heavy p
 case true=>simp [KF,params,f3,fn_heavy,hv]
 by_cases la:(60:Int) < t.name.size
 ·simp [KF,params,f3,fn_heavy,hv,la]
 by_cases lb:(20:Int) < L.length
 ·have lb':20 < L.length:=by omega
  simp [KF,params,f3,fn_heavy,hv,la,lb,lb']
 have lb':¬ 20 < L.length:=by omega
 by_cases lc:(60:Int) < w.type_.name.size
 ·simp [KF,params,f3,fn_heavy,hv,la,lb,lb',lc]
 have hp:=okP hv
 have L0:∀ k:AExit→St→Option (V × List Ob),K fns ⟨0,0⟩ f3_l0 ⟨[(2,vsl L),(3,vint o),(4,vint l),(6,vptr 0),(7,vptr 1),(11,vptr 2),(13,vint 0)],[cP p,cTy t,cWay w]⟩ k =
   if L.any (fun u=>decide ((60:Int) < u.name.size)) then k .ret ⟨[(12,vbool true)],[cP p,cTy t,cWay w]⟩ else k (.exit 0) ⟨[(2,vsl L),(3,vint o),(4,vint l),(6,vptr 0),(7,vptr 1),(11,vptr 2)],[cP p,cTy t,cWay w]⟩:=fun k =>
  scan_any (l:=L) (p:=fun u=>decide ((60:Int) < u.name.size)) (X:=fun i=>K fns ⟨0,0⟩ f3_l0 ⟨[(2,vsl L),(3,vint o),(4,vint l),(6,vptr 0),(7,vptr 1),(11,vptr 2),(13,vint i)],[cP p,cTy t,cWay w]⟩ k)
   (fun i hi=>by
    have hw:=wrap_succ (i:=i) (by omega)
    show K fns _ f3_l0 _ k=_
    rw [u3_l0]
    by_cases hc:(60:Int) < L[i].name.size<;>simp [f3_b0,hi,hw,hc])
   (by show K fns _ f3_l0 _ k=_;rw [u3_l0];simp [f3_b0])
 have h1:=fn_lazyWays p hp t L (by omega) o l
 have h2:=fn_refWays p hp t L (by omega) o l
 have h3:=fn_lazySlots p hp w
 have h4:=fn_refWSlots p hp w
 have wl:=ways_len hp t L (by omega) o l
 have h5:=fn_waysEq (waysP p t L o l) (waysP p t L o l) wl wl
 have sl:=slotW_len hp w
 have h6:=fn_typesR (slotWP p w) sl
 simp only [decide_true] at h5
 generalize waysP p t L o l=W at *
 generalize waysX p t L o l=e1 at *
 generalize slotWP p w=Q at *
 generalize slotWX p w=e2 at *
 cases hq:L.any (fun u=>decide ((60:Int) < u.name.size)) with
 | true =>
  rw [hq] at L0
  simp only [if_true] at L0
  simp [KF,params,f3,fn_heavy,hv,la,lb,lb',lc,L0]
 | false =>
  rw [hq] at L0
  simp only [Bool.false_eq_true,if_false] at L0
  simp [KF,params,f3,fn_heavy,hv,la,lb,lb',lc,L0,h1,h2,h3,h4,h5,h6,fn_wakesL]
end
end Go.Proofs.YteeofkbhopioiaaGreatDoor.Am
