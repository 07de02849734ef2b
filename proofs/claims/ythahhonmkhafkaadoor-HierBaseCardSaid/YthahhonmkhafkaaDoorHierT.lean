/- A thing is the same as itself; the page's Under and Kinds. Written by wip/tools/ht.py. -/
import Derived.Test.YthahhonmkhafkaaDoorHierS
namespace Go.Proofs.YthahhonmkhafkaaDoor.Am
set_option linter.unusedSimpArgs false
set_option linter.unusedVariables false
set_option linter.unusedSectionVars false
open Go
attribute [local simp ↓] K_seq K_cond K_block K_region K_skip K_exit K_ret K_wrap KA_nil KA_none KA_some str_eq
attribute [local simp] beq_int bne_int dec_eqN dec_ltN dec_leN stepOp St.rd St.raw St.set St.took get_cons V.down C.down Env.keep binV unV arith isShift strs intOf optInt wrapEnd keptAt andK endOf frzV frz1 frzC frzCs frz1s resOf resOne resAll V.closed V.closed1 C.closed B.closed Ob.closed V.cells partsIn rep chunk datas C.data rowsOf getCells put_nil put_zero put_succ mayWrite C.plain eqV_bool eqV_agg eqV_pnn eqV_pnp eqV_ppn eqV_mnn eqV_mmn eqV_snn eqV_sen eqV_san eqV_sdn rs_len rs_getE rs_app rs_take rs_drop rs_all rs_each row_len str_nilP str_nilE str_nilB vagg row_Int row_Bool row_Str k_Int k_Bool k_Str snoc_Int snoc_Bool snoc_Str row_Type k_Type snoc_Type eta_Type sames_Type row_Field k_Field snoc_Field eta_Field sames_Field row_Instr k_Instr snoc_Instr eta_Instr sames_Instr row_Catch k_Catch snoc_Catch eta_Catch sames_Catch row_Method k_Method snoc_Method row_Class k_Class snoc_Class row_Program k_Program snoc_Program row_Slot k_Slot snoc_Slot eta_Slot sames_Slot row_State k_State snoc_State row_Val k_Val snoc_Val eta_Val sames_Val row_Obj k_Obj snoc_Obj row_Input k_Input snoc_Input row_Frame k_Frame snoc_Frame row_Run k_Run snoc_Run row_Way k_Way snoc_Way eta_Way sames_Way row_Task k_Task snoc_Task eta_Task sames_Task
--let KT delverkeep.Types
--let KM delverkeep.Method
--let KC delverkeep.Class
--let KL delverkeep.Classes
--let KP delverkeep.Program
--let RU delverref04.Under
--let RK delverref04.Kinds
theorem h58_0 (k : AExit → St → Option (V × List Ob)) (l : List GType) (hl : l.length ≤ 1000000) : K fns ⟨0,0⟩ f38_l0 ⟨[(0, vsl l), (1, vsl l), (5, vint 0)], []⟩ k = k (.exit 0) ⟨[], []⟩ := by
  have h1 := scan_on (n := l.length) (X := fun i => K fns ⟨0,0⟩ f38_l0 ⟨[(0, vsl l), (1, vsl l), (5, vint i)], []⟩ k)
    (fun i hi => by
      have hw := wrap_succ (i := i) (by omega)
      show K fns _ f38_l0 _ k = _
      rw [u38_l0]
      simp [f38_b0, hi, hw])
  have h2 : K fns ⟨0,0⟩ f38_l0 ⟨[(0, vsl l), (1, vsl l), (5, vint (l.length : Nat))], []⟩ k = k (.exit 0) ⟨[], []⟩ := by
    rw [u38_l0]; simp [f38_b0]
  exact h1.trans h2

theorem fn_typesR (l : List GType) (hl : l.length ≤ 1000000) (σ : List Ob) (lo tr : Nat) : Fn fns 38 [vsl l, vsl l] σ lo tr = some (vbool true, σ) := by
  refine fn_gen t38 rfl (σ1 := []) rfl rfl ?_ σ lo tr
  have L := fun k => h58_0 k l hl
  simp [KF, params, f38, L]

theorem h42_0 (k : AExit → St → Option (V × List Ob)) (m : GMethod) (hl : m.code.length ≤ 1000000) : K fns ⟨0,0⟩ f23_l0 ⟨[(2, vptr 0), (3, vptr 1), (5, vint 0)], [cM m, cM m]⟩ k = k (.exit 0) ⟨[(2, vptr 0), (3, vptr 1)], [cM m, cM m]⟩ := by
  have h1 := scan_on (n := m.code.length) (X := fun i => K fns ⟨0,0⟩ f23_l0 ⟨[(2, vptr 0), (3, vptr 1), (5, vint i)], [cM m, cM m]⟩ k)
    (fun i hi => by
      have hw := wrap_succ (i := i) (by omega)
      show K fns _ f23_l0 _ k = _
      rw [u23_l0]
      simp [f23_b0, hi, hw])
  have h2 : K fns ⟨0,0⟩ f23_l0 ⟨[(2, vptr 0), (3, vptr 1), (5, vint (m.code.length : Nat))], [cM m, cM m]⟩ k = k (.exit 0) ⟨[(2, vptr 0), (3, vptr 1)], [cM m, cM m]⟩ := by
    rw [u23_l0]; simp [f23_b0]
  exact h1.trans h2

theorem h42_1 (k : AExit → St → Option (V × List Ob)) (m : GMethod) (hl : m.catches.length ≤ 1000000) : K fns ⟨0,0⟩ f23_l1 ⟨[(2, vptr 0), (3, vptr 1), (6, vint 0)], [cM m, cM m]⟩ k = k (.exit 2) ⟨[], [cM m, cM m]⟩ := by
  have h1 := scan_on (n := m.catches.length) (X := fun i => K fns ⟨0,0⟩ f23_l1 ⟨[(2, vptr 0), (3, vptr 1), (6, vint i)], [cM m, cM m]⟩ k)
    (fun i hi => by
      have hw := wrap_succ (i := i) (by omega)
      show K fns _ f23_l1 _ k = _
      rw [u23_l1]
      simp [f23_b1, hi, hw])
  have h2 : K fns ⟨0,0⟩ f23_l1 ⟨[(2, vptr 0), (3, vptr 1), (6, vint (m.catches.length : Nat))], [cM m, cM m]⟩ k = k (.exit 2) ⟨[], [cM m, cM m]⟩ := by
    rw [u23_l1]; simp [f23_b1]
  exact h1.trans h2

set_option maxRecDepth 100000 in
set_option maxHeartbeats 8000000 in
theorem fn_methodR (m : GMethod) (h : OkM m) (σ : List Ob) (lo tr : Nat) : Fn fns 23 [vMethod m, vMethod m] σ lo tr = some (vbool true, σ) := by
  refine fn_gen t23 rfl (σ1 := []) rfl rfl ?_ σ lo tr
  have L0 := fun k => h42_0 k m (by have := h.code; omega)
  have L1 := fun k => h42_1 k m (by have := h.catches; omega)
  have ht := fn_typesR m.params (by have := h.params; omega)
  simp (maxSteps := 2000000) [KF, params, f23, L0, L1, ht]

theorem h25_0 (k : AExit → St → Option (V × List Ob)) (c : GClass) (hl : c.fields.length ≤ 1000000) : K fns ⟨0,0⟩ f13_l0 ⟨[(2, vptr 0), (3, vptr 1), (5, vint 0)], [cC c, cC c]⟩ k = k (.exit 0) ⟨[(2, vptr 0), (3, vptr 1)], [cC c, cC c]⟩ := by
  have h1 := scan_on (n := c.fields.length) (X := fun i => K fns ⟨0,0⟩ f13_l0 ⟨[(2, vptr 0), (3, vptr 1), (5, vint i)], [cC c, cC c]⟩ k)
    (fun i hi => by
      have hw := wrap_succ (i := i) (by omega)
      show K fns _ f13_l0 _ k = _
      rw [u13_l0]
      simp [f13_b0, hi, hw])
  have h2 : K fns ⟨0,0⟩ f13_l0 ⟨[(2, vptr 0), (3, vptr 1), (5, vint (c.fields.length : Nat))], [cC c, cC c]⟩ k = k (.exit 0) ⟨[(2, vptr 0), (3, vptr 1)], [cC c, cC c]⟩ := by
    rw [u13_l0]; simp [f13_b0]
  exact h1.trans h2

theorem h25_1 (k : AExit → St → Option (V × List Ob)) (c : GClass) (hl : c.methods.length ≤ 1000000) (hm : ∀ m ∈ c.methods, OkM m) : K fns ⟨0,0⟩ f13_l1 ⟨[(2, vptr 0), (3, vptr 1), (6, vint 0)], [cC c, cC c]⟩ k = k (.exit 2) ⟨[], [cC c, cC c]⟩ := by
  have h1 := scan_on (n := c.methods.length) (X := fun i => K fns ⟨0,0⟩ f13_l1 ⟨[(2, vptr 0), (3, vptr 1), (6, vint i)], [cC c, cC c]⟩ k)
    (fun i hi => by
      have hw := wrap_succ (i := i) (by omega)
      have hk := fn_methodR c.methods[i] (hm _ (List.getElem_mem hi))
      show K fns _ f13_l1 _ k = _
      rw [u13_l1]
      simp [f13_b1, hi, hw, hk])
  have h2 : K fns ⟨0,0⟩ f13_l1 ⟨[(2, vptr 0), (3, vptr 1), (6, vint (c.methods.length : Nat))], [cC c, cC c]⟩ k = k (.exit 2) ⟨[], [cC c, cC c]⟩ := by
    rw [u13_l1]; simp [f13_b1]
  exact h1.trans h2

set_option maxRecDepth 100000 in
set_option maxHeartbeats 8000000 in
theorem fn_classR (c : GClass) (h : OkC c) (σ : List Ob) (lo tr : Nat) : Fn fns 13 [vClass c, vClass c] σ lo tr = some (vbool true, σ) := by
  refine fn_gen t13 rfl (σ1 := []) rfl rfl ?_ σ lo tr
  have L0 := fun k => h25_0 k c (by have := h.fields; omega)
  have L1 := fun k => h25_1 k c (by have := h.methods; omega) h.ms
  have ht := fn_strings c.ifaces c.ifaces (by have := h.ifaces; omega)
  simp only [decide_true] at ht
  simp (maxSteps := 2000000) [KF, params, f13, L0, L1, ht]

theorem h21_0 (k : AExit → St → Option (V × List Ob)) (l : List GClass) (hl : l.length ≤ 1000000) (hc : ∀ c ∈ l, OkC c) : K fns ⟨0,0⟩ f6_l0 ⟨[(0, vsl l), (1, vsl l), (5, vint 0)], []⟩ k = k (.exit 0) ⟨[], []⟩ := by
  have h1 := scan_on (n := l.length) (X := fun i => K fns ⟨0,0⟩ f6_l0 ⟨[(0, vsl l), (1, vsl l), (5, vint i)], []⟩ k)
    (fun i hi => by
      have hw := wrap_succ (i := i) (by omega)
      have hk := fn_classR l[i] (hc _ (List.getElem_mem hi))
      show K fns _ f6_l0 _ k = _
      rw [u6_l0]
      simp [f6_b0, hi, hw, hk])
  have h2 : K fns ⟨0,0⟩ f6_l0 ⟨[(0, vsl l), (1, vsl l), (5, vint (l.length : Nat))], []⟩ k = k (.exit 0) ⟨[], []⟩ := by
    rw [u6_l0]; simp [f6_b0]
  exact h1.trans h2

theorem fn_classesR (l : List GClass) (hl : l.length ≤ 1000000) (hc : ∀ c ∈ l, OkC c) (σ : List Ob) (lo tr : Nat) : Fn fns 6 [vsl l, vsl l] σ lo tr = some (vbool true, σ) := by
  refine fn_gen t6 rfl (σ1 := []) rfl rfl ?_ σ lo tr
  have L := fun k => h21_0 k l hl hc
  simp [KF, params, f6, L]
theorem at_names (l : List GClass) (s : ByteArray) : (atI l s < 0 ∧ s ∉ namesOf l) ∨ (¬ atI l s < 0 ∧ s ∈ namesOf l) := by
  rcases at_find (l := l) (s := s) with ⟨h1, h2⟩ | ⟨i, hi, h1, _, h3, _⟩
  · left
    refine ⟨by omega, fun h => ?_⟩
    obtain ⟨c, hc, e⟩ := List.mem_map.mp h
    have := List.find?_eq_none.mp h1 c hc
    simp [e] at this
  · right
    exact ⟨by omega, List.mem_map.mpr ⟨_, List.getElem_mem hi, h3⟩⟩

/-- The page's Under. -/
def refU (p : GProgram) (a b : ByteArray) : Bool := decide (a ∈ namesOf (allL p)) && (decide (b ∈ namesOf (allL p)) && (decide (b = sObject) || decide (b ∈ reachL (allL p) a)))
theorem refU_eq {p : GProgram} (hp : OkP p) (h : hierP p = 0) (a b : ByteArray) : refU p a b = underP p a b := by
  have hs := sane_of hp h
  rw [Bool.eq_iff_iff]
  unfold refU
  by_cases ha : a ∈ namesOf (allL p)
  · rw [under_iff hp h ha b]
    simp only [ha, decide_true, Bool.true_and, Bool.and_eq_true, decide_eq_true_eq, Bool.or_eq_true]
    rw [reach_iff hs.len (allL_ok hp) hs.whole ha b]
    constructor
    · exact fun h => h.2
    · intro h
      refine ⟨?_, h⟩
      rcases h with rfl | h
      · exact obj_in p
      · exact h.names hs.whole ha
  · simp [ha, underP]

end Go.Proofs.YthahhonmkhafkaaDoor.Am
