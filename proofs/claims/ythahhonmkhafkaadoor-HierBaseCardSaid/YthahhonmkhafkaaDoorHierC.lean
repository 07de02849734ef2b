/- Twins of programs; all classes. Written by wip/tools/hc.py. -/
import Derived.Test.YthahhonmkhafkaaDoorHierB
namespace Go.Proofs.YthahhonmkhafkaaDoor.Am
set_option linter.unusedSimpArgs false
set_option linter.unusedVariables false
set_option linter.unusedSectionVars false
open Go
attribute [local simp ↓] K_seq K_cond K_block K_region K_skip K_exit K_ret K_wrap KA_nil KA_none KA_some str_eq
attribute [local simp] beq_int bne_int dec_eqN dec_ltN dec_leN stepOp St.rd St.raw St.set St.took get_cons V.down C.down Env.keep binV unV arith isShift strs intOf optInt wrapEnd keptAt andK endOf frzV frz1 frzC frzCs frz1s resOf resOne resAll V.closed V.closed1 C.closed B.closed Ob.closed V.cells partsIn rep chunk datas C.data rowsOf getCells put_nil put_zero put_succ mayWrite C.plain eqV_bool eqV_agg eqV_pnn eqV_pnp eqV_ppn eqV_mnn eqV_mmn eqV_snn eqV_sen eqV_san eqV_sdn rs_len rs_getE rs_app rs_take rs_drop rs_all rs_each row_len str_nilP str_nilE str_nilB vagg row_Int row_Bool row_Str k_Int k_Bool k_Str snoc_Int snoc_Bool snoc_Str row_Type k_Type snoc_Type eta_Type sames_Type row_Field k_Field snoc_Field eta_Field sames_Field row_Instr k_Instr snoc_Instr eta_Instr sames_Instr row_Catch k_Catch snoc_Catch eta_Catch sames_Catch row_Method k_Method snoc_Method row_Class k_Class snoc_Class row_Program k_Program snoc_Program row_Slot k_Slot snoc_Slot eta_Slot sames_Slot row_State k_State snoc_State row_Val k_Val snoc_Val eta_Val sames_Val row_Obj k_Obj snoc_Obj row_Input k_Input snoc_Input row_Frame k_Frame snoc_Frame row_Run k_Run snoc_Run row_Way k_Way snoc_Way eta_Way sames_Way row_Task k_Task snoc_Task eta_Task sames_Task
--let TC delverkeep.TwinClass
--let TP delverkeep.TwinProgram
--let HM hier.TwinMethod
--let HT hier.twin
--let HA hier.All
--let NA delverlaw04.names
--let RA delverref04.All

theorem fn_hTwin (c : GClass) (h : OkC c) (σ : List Ob) (lo tr : Nat) : Fn fns 12 [vClass c] σ lo tr = some (vClass c, σ) := by
  refine fn_gen t12 rfl (σ1 := []) rfl rfl ?_ σ lo tr
  have d := h.methods
  have h1 := fn_cloneS c.ifaces (by have := h.ifaces; omega)
  have h2 := fn_cloneF c.fields (by have := h.fields; omega)
  have L : ∀ (k : AExit → St → Option (V × List Ob)), K fns ⟨0,0⟩ f12_l0 ⟨[(1, vptr 0), (2, vptr 1), (3, .c (.osl 9 [])), (15, vsl c.methods), (16, vint c.methods.length), (17, vint 0)], [cQ c, z6]⟩ k = k (.exit 0) ⟨[(1, vptr 0), (2, vptr 1), (3, .c (.osl 9 (rows (c.methods.map (fun o => o)))))], [cQ c, z6]⟩ := fun k => by
    have := scan_map (l := c.methods) (f := fun o => o) (X := fun i x => K fns ⟨0,0⟩ f12_l0 ⟨[(1, vptr 0), (2, vptr 1), (3, .c (.osl 9 (rows x))), (15, vsl c.methods), (16, vint c.methods.length), (17, vint i)], [cQ c, z6]⟩ k) (e := fun x => k (.exit 0) ⟨[(1, vptr 0), (2, vptr 1), (3, .c (.osl 9 (rows x)))], [cQ c, z6]⟩)
      (fun i x hi hc => by
        have hw := wrap_succ (i := i) (by omega)
        have hf := fn_hTwinMethod (c.methods[i]) (h.ms _ (List.getElem_mem hi))
        have hcl : x.length = i := by rw [hc]; simp; omega
        have q1 : x.length + 1 ≤ 70368744177664 := by omega
        have q2 : (x.length + 1) * 128 ≤ 70368744177664 := by omega
        show K fns _ f12_l0 _ k = _
        rw [u12_l0]
        simp [f12_b0, hi, hw, q1, q2, hf])
      (fun x hc => by
        show K fns _ f12_l0 _ k = _
        rw [u12_l0]
        simp [f12_b0])
    simpa [rs_nil] using this
  simp at L
  simp [KF, params, f12, L, h1, h2]

/-- All classes. -/
def allL (p : GProgram) : List GClass := baseL ++ p.classes

theorem fn_all (p : GProgram) (h : OkP p) (σ : List Ob) (lo tr : Nat) : Fn fns 5 [vProgram p] σ lo tr = some (.c (.osl 6 (rows (allL p))), σ) := by
  refine fn_gen t5 rfl (σ1 := []) rfl rfl ?_ σ lo tr
  have d := h.len
  have hb : baseL.length = 8 := rfl
  have L : ∀ (k : AExit → St → Option (V × List Ob)), K fns ⟨0,0⟩ f5_l0 ⟨[(3, .c (.osl 6 (rows baseL))), (8, vsl p.classes), (9, vint p.classes.length), (10, vint 0)], [cP p]⟩ k = k (.exit 0) ⟨[(3, .c (.osl 6 (rows (baseL ++ p.classes))))], [cP p]⟩ := fun k => by
    have := scan_map (l := p.classes) (f := fun o => o) (X := fun i x => K fns ⟨0,0⟩ f5_l0 ⟨[(3, .c (.osl 6 (rows (baseL ++ x)))), (8, vsl p.classes), (9, vint p.classes.length), (10, vint i)], [cP p]⟩ k) (e := fun x => k (.exit 0) ⟨[(3, .c (.osl 6 (rows (baseL ++ x))))], [cP p]⟩)
      (fun i x hi hc => by
        have hw := wrap_succ (i := i) (by omega)
        have hf := fn_hTwin (p.classes[i]) (h.cs _ (List.getElem_mem hi))
        have hcl : x.length = i := by rw [hc]; simp; omega
        have q1 : 8 + x.length + 1 ≤ 70368744177664 := by omega
        have q2 : (8 + x.length + 1) * 112 ≤ 70368744177664 := by omega
        show K fns _ f5_l0 _ k = _
        rw [u5_l0]
        simp [f5_b0, hi, hw, q1, q2, hf, hb])
      (fun x hc => by
        show K fns _ f5_l0 _ k = _
        rw [u5_l0]
        simp [f5_b0])
    simpa [rs_nil] using this
  simp [KF, params, f5, fn_always, L, allL]

theorem all_len {p : GProgram} (h : OkP p) : (allL p).length ≤ 100 := by
  have := h.len
  have hb : baseL.length = 8 := rfl
  simp [allL, hb]; omega

/-- The names of all. -/
def namesL (p : GProgram) : List ByteArray := (allL p).map (·.name)
end Go.Proofs.YthahhonmkhafkaaDoor.Am
