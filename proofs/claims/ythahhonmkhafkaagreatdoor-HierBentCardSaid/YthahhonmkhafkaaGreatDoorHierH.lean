/- The page's word whether a program can be shown. Written by wip/tools/hh.py. -/
import Derived.Test.YthahhonmkhafkaaGreatDoorHierG
namespace Go.Proofs.YthahhonmkhafkaaGreatDoor.Am
set_option linter.unusedSimpArgs false
set_option linter.unusedVariables false
set_option linter.unusedSectionVars false
open Go
attribute [local simp ↓] K_seq K_cond K_block K_region K_skip K_exit K_ret K_wrap KA_nil KA_none KA_some str_eq
attribute [local simp] beq_int bne_int dec_eqN dec_ltN dec_leN stepOp St.rd St.raw St.set St.took get_cons V.down C.down Env.keep binV unV arith isShift strs intOf optInt wrapEnd keptAt andK endOf frzV frz1 frzC frzCs frz1s resOf resOne resAll V.closed V.closed1 C.closed B.closed Ob.closed V.cells partsIn rep chunk datas C.data rowsOf getCells put_nil put_zero put_succ mayWrite C.plain eqV_bool eqV_agg eqV_pnn eqV_pnp eqV_ppn eqV_mnn eqV_mmn eqV_snn eqV_sen eqV_san eqV_sdn rs_len rs_getE rs_app rs_take rs_drop rs_all rs_each row_len str_nilP str_nilE str_nilB vagg row_Int row_Bool row_Str k_Int k_Bool k_Str snoc_Int snoc_Bool snoc_Str row_Type k_Type snoc_Type eta_Type sames_Type row_Field k_Field snoc_Field eta_Field sames_Field row_Instr k_Instr snoc_Instr eta_Instr sames_Instr row_Catch k_Catch snoc_Catch eta_Catch sames_Catch row_Method k_Method snoc_Method row_Class k_Class snoc_Class row_Program k_Program snoc_Program row_Slot k_Slot snoc_Slot eta_Slot sames_Slot row_State k_State snoc_State row_Val k_Val snoc_Val eta_Val sames_Val row_Obj k_Obj snoc_Obj row_Input k_Input snoc_Input row_Frame k_Frame snoc_Frame row_Run k_Run snoc_Run row_Way k_Way snoc_Way eta_Way sames_Way row_Task k_Task snoc_Task eta_Task sames_Task
--let RF delverref01.freshName
--let RI delverref01.in
--let RX delverref01.showInstr
--let RM delverref01.showMethod
--let RT delverref01.TypeText
--let RP delverref01.Shown
theorem h45_0 (k : AExit → St → Option (V × List Ob)) (m : GMethod) (hl : m.params.length ≤ 1000000) : K fns ⟨0,0⟩ f45_l0 ⟨[(1, vptr 0), (3, vint 0)], [cM m]⟩ k =
    if m.params.any (fun t => !typedB t) then k .ret ⟨[(2, vbool false)], [cM m]⟩ else k (.exit 0) ⟨[(1, vptr 0)], [cM m]⟩ :=
  scan_any (l := m.params) (p := fun t => !typedB t) (X := fun i => K fns ⟨0,0⟩ f45_l0 ⟨[(1, vptr 0), (3, vint i)], [cM m]⟩ k)
    (fun i hi => by
      have hw := wrap_succ (i := i) (by omega)
      have ht := fn_typeText m.params[i]
      have hn := typeText_nil m.params[i]
      show K fns _ f45_l0 _ k = _
      rw [u45_l0]
      cases c0 : typedB m.params[i] <;> simp [f45_b0, hi, hw, ht, hn, c0]
      )
    (by show K fns _ f45_l0 _ k = _; rw [u45_l0]; simp [f45_b0])

theorem h45_1 (k : AExit → St → Option (V × List Ob)) (m : GMethod) (hl : m.code.length ≤ 1000000) : K fns ⟨0,0⟩ f45_l1 ⟨[(1, vptr 0), (4, vint 0)], [cM m]⟩ k =
    if m.code.any (fun t => !instrB t) then k .ret ⟨[(2, vbool false)], [cM m]⟩ else k (.exit 2) ⟨[(1, vptr 0)], [cM m]⟩ :=
  scan_any (l := m.code) (p := fun t => !instrB t) (X := fun i => K fns ⟨0,0⟩ f45_l1 ⟨[(1, vptr 0), (4, vint i)], [cM m]⟩ k)
    (fun i hi => by
      have hw := wrap_succ (i := i) (by omega)
      have ht := fn_refInstr m.code[i]
      show K fns _ f45_l1 _ k = _
      rw [u45_l1]
      cases c0 : instrB m.code[i] <;> simp [f45_b1, hi, hw, ht, c0]
      )
    (by show K fns _ f45_l1 _ k = _; rw [u45_l1]; simp [f45_b1])

theorem h45_2 (k : AExit → St → Option (V × List Ob)) (m : GMethod) (hl : m.catches.length ≤ 1000000) : K fns ⟨0,0⟩ f45_l2 ⟨[(1, vptr 0), (5, vint 0)], [cM m]⟩ k =
    if m.catches.any (fun t => !catchB t) then k .ret ⟨[(2, vbool false)], [cM m]⟩ else k (.exit 4) ⟨[], [cM m]⟩ :=
  scan_any (l := m.catches) (p := fun t => !catchB t) (X := fun i => K fns ⟨0,0⟩ f45_l2 ⟨[(1, vptr 0), (5, vint i)], [cM m]⟩ k)
    (fun i hi => by
      have hw := wrap_succ (i := i) (by omega)
      have ht := fn_refFresh
      have hr := fn_refIn
      show K fns _ f45_l2 _ k = _
      rw [u45_l2]
      generalize hx : m.catches[i] = x
      cases c0 : freshB x.name
      · simp [f45_b2, hi, hw, ht, hr, hx, catchB, c0]
      cases c1 : inB x.from_ 0 48
      · simp [f45_b2, hi, hw, ht, hr, hx, catchB, c0, c1]
      cases c2 : inB x.to 0 48
      · simp [f45_b2, hi, hw, ht, hr, hx, catchB, c0, c1, c2]
      cases c3 : inB x.at_ 0 48 <;> simp [f45_b2, hi, hw, ht, hr, hx, catchB, c0, c1, c2, c3]
      )
    (by show K fns _ f45_l2 _ k = _; rw [u45_l2]; simp [f45_b2])


theorem fn_refMethod (m : GMethod) (h : OkM m) (σ : List Ob) (lo tr : Nat) : Fn fns 45 [vMethod m] σ lo tr = some (vbool (methodB m), σ) := by
  refine fn_gen t45 rfl (σ1 := []) rfl rfl ?_ σ lo tr
  have b1 := h.params
  have b2 := h.code
  have b3 := h.catches
  have ht := fn_typeText m.ret
  have hn := typeText_nil m.ret
  by_cases c0 : freshB m.name = true
  case neg =>
    simp [KF, params, f45, fn_refFresh, fn_refIn, ht, hn, methodB, c0]
  by_cases c1 : m.params.length ≤ 4
  case neg =>
    have q1_0 : (4 : Int) < m.params.length := by omega
    have q1_1 : ¬ (m.params.length : Int) ≤ 4 := by omega
    simp [KF, params, f45, fn_refFresh, fn_refIn, ht, hn, methodB, c0, c1, q1_0, q1_1]
  have q1_0 : ¬ (4 : Int) < m.params.length := by omega
  have q1_1 : (m.params.length : Int) ≤ 4 := by omega
  by_cases c2 : typedB m.ret = true
  case neg =>
    simp [KF, params, f45, fn_refFresh, fn_refIn, ht, hn, methodB, c0, c1, q1_0, q1_1, c2]
  by_cases c3 : m.code.length ≤ 48
  case neg =>
    have q3_0 : (48 : Int) < m.code.length := by omega
    have q3_1 : ¬ (m.code.length : Int) ≤ 48 := by omega
    simp [KF, params, f45, fn_refFresh, fn_refIn, ht, hn, methodB, c0, c1, q1_0, q1_1, c2, c3, q3_0, q3_1]
  have q3_0 : ¬ (48 : Int) < m.code.length := by omega
  have q3_1 : (m.code.length : Int) ≤ 48 := by omega
  by_cases c4 : m.catches.length ≤ 4
  case neg =>
    have q4_0 : (4 : Int) < m.catches.length := by omega
    have q4_1 : ¬ (m.catches.length : Int) ≤ 4 := by omega
    simp [KF, params, f45, fn_refFresh, fn_refIn, ht, hn, methodB, c0, c1, q1_0, q1_1, c2, c3, q3_0, q3_1, c4, q4_0, q4_1]
  have q4_0 : ¬ (4 : Int) < m.catches.length := by omega
  have q4_1 : (m.catches.length : Int) ≤ 4 := by omega
  by_cases c5 : inB m.locals 0 8 = true
  case neg =>
    simp [KF, params, f45, fn_refFresh, fn_refIn, ht, hn, methodB, c0, c1, q1_0, q1_1, c2, c3, q3_0, q3_1, c4, q4_0, q4_1, c5]
  have hl : 0 ≤ m.locals ∧ m.locals ≤ 8 := by simpa [inB] using c5
  have w1 : IntKind.i64.wrap (m.locals + (m.code.length : Int)) = m.locals + (m.code.length : Int) := wrap_nat (by omega) (by omega)
  have w2 : IntKind.i64.wrap (m.locals + (m.code.length : Int) + (m.catches.length : Int)) = m.locals + (m.code.length : Int) + (m.catches.length : Int) := wrap_nat (by omega) (by omega)
  have L0 := fun k => h45_0 k m (by omega)
  have L1 := fun k => h45_1 k m (by omega)
  have L2 := fun k => h45_2 k m (by omega)
  have n0 : (m.params.any fun t => !typedB t) = !m.params.all typedB := by simp [List.all_eq_not_any_not]
  have n1 : (m.code.any fun t => !instrB t) = !m.code.all instrB := by simp [List.all_eq_not_any_not]
  have n2 : (m.catches.any fun t => !catchB t) = !m.catches.all catchB := by simp [List.all_eq_not_any_not]
  rw [n0] at L0
  rw [n1] at L1
  rw [n2] at L2
  have mb : methodB m = (!(m.abstract_ && (!decide (m.locals = 0) || decide (0 < m.code.length + m.catches.length))) && (m.params.all typedB && (m.code.all instrB && m.catches.all catchB))) := by
    simp [methodB, c0, c1, q1_0, q1_1, c2, c3, q3_0, q3_1, c4, q4_0, q4_1, c5]
  rw [mb]
  have fin : ∀ F : Prop, F → F := fun _ h => h
  cases a0 : m.abstract_ <;> simp only [cM, a0] at L0 L1 L2
  · simp only [Bool.false_and, Bool.not_false, Bool.true_and]
    cases d0 : m.params.all typedB
    · simp [KF, params, f45, fn_refFresh, fn_refIn, ht, hn, w1, w2, L0, L1, L2, a0, d0, c0, c1, q1_0, q1_1, c2, c3, q3_0, q3_1, c4, q4_0, q4_1, c5]
    cases d1 : m.code.all instrB
    · simp [KF, params, f45, fn_refFresh, fn_refIn, ht, hn, w1, w2, L0, L1, L2, a0, d0, d1, c0, c1, q1_0, q1_1, c2, c3, q3_0, q3_1, c4, q4_0, q4_1, c5]
    cases d2 : m.catches.all catchB <;> simp [KF, params, f45, fn_refFresh, fn_refIn, ht, hn, w1, w2, L0, L1, L2, a0, d0, d1, d2, c0, c1, q1_0, q1_1, c2, c3, q3_0, q3_1, c4, q4_0, q4_1, c5]
  · have e : (!decide (m.locals = 0) || decide (0 < m.code.length + m.catches.length)) = decide (0 < m.locals + (m.code.length : Int) + (m.catches.length : Int)) := by
      by_cases e1 : m.locals = 0
      · simp only [e1, decide_true, Bool.not_true, Bool.false_or]
        exact decide_eq_decide.mpr (by omega)
      · simp [e1]; omega
    rw [e]
    by_cases e2 : 0 < m.locals + (m.code.length : Int) + (m.catches.length : Int)
    · simp [KF, params, f45, fn_refFresh, fn_refIn, ht, hn, w1, w2, L0, L1, L2, a0, e2, c0, c1, q1_0, q1_1, c2, c3, q3_0, q3_1, c4, q4_0, q4_1, c5]
    simp only [e2, decide_false, Bool.and_false, Bool.not_false, Bool.true_and]
    cases d0 : m.params.all typedB
    · simp [KF, params, f45, fn_refFresh, fn_refIn, ht, hn, w1, w2, L0, L1, L2, a0, e2, d0, c0, c1, q1_0, q1_1, c2, c3, q3_0, q3_1, c4, q4_0, q4_1, c5]
    cases d1 : m.code.all instrB
    · simp [KF, params, f45, fn_refFresh, fn_refIn, ht, hn, w1, w2, L0, L1, L2, a0, e2, d0, d1, c0, c1, q1_0, q1_1, c2, c3, q3_0, q3_1, c4, q4_0, q4_1, c5]
    cases d2 : m.catches.all catchB <;> simp [KF, params, f45, fn_refFresh, fn_refIn, ht, hn, w1, w2, L0, L1, L2, a0, e2, d0, d1, d2, c0, c1, q1_0, q1_1, c2, c3, q3_0, q3_1, c4, q4_0, q4_1, c5]
theorem h29_0 (k : AExit → St → Option (V × List Ob)) (n3 : Int) (p : GProgram) (c : GClass) (hl : c.ifaces.length ≤ 1000000) : K fns ⟨0,0⟩ f29_l0 ⟨[(1, vptr 0), (3, vint n3), (4, vptr 1), (5, vint 0)], [cP p, cC c]⟩ k =
    if c.ifaces.any (fun t => !freshB t) then k .ret ⟨[(2, vbool false)], [cP p, cC c]⟩ else k (.exit 2) ⟨[(1, vptr 0), (3, vint n3), (4, vptr 1)], [cP p, cC c]⟩ :=
  scan_any (l := c.ifaces) (p := fun t => !freshB t) (X := fun i => K fns ⟨0,0⟩ f29_l0 ⟨[(1, vptr 0), (3, vint n3), (4, vptr 1), (5, vint i)], [cP p, cC c]⟩ k)
    (fun i hi => by
      have hw := wrap_succ (i := i) (by omega)
      have ht := fn_refFresh
      show K fns _ f29_l0 _ k = _
      rw [u29_l0]
      cases c0 : freshB c.ifaces[i] <;> simp [f29_b0, hi, hw, ht, c0]
      )
    (by show K fns _ f29_l0 _ k = _; rw [u29_l0]; simp [f29_b0])

theorem h29_1 (k : AExit → St → Option (V × List Ob)) (n3 : Int) (p : GProgram) (c : GClass) (hl : c.fields.length ≤ 1000000) : K fns ⟨0,0⟩ f29_l1 ⟨[(1, vptr 0), (3, vint n3), (4, vptr 1), (6, vint 0)], [cP p, cC c]⟩ k =
    if c.fields.any (fun t => !fieldB t) then k .ret ⟨[(2, vbool false)], [cP p, cC c]⟩ else k (.exit 4) ⟨[(1, vptr 0), (3, vint n3), (4, vptr 1)], [cP p, cC c]⟩ :=
  scan_any (l := c.fields) (p := fun t => !fieldB t) (X := fun i => K fns ⟨0,0⟩ f29_l1 ⟨[(1, vptr 0), (3, vint n3), (4, vptr 1), (6, vint i)], [cP p, cC c]⟩ k)
    (fun i hi => by
      have hw := wrap_succ (i := i) (by omega)
      have hf := fn_refFresh
      show K fns _ f29_l1 _ k = _
      rw [u29_l1]
      generalize hx : c.fields[i] = x
      have ht := fn_typeText x.type_
      have hn := typeText_nil x.type_
      cases c0 : freshB x.name
      · simp [f29_b1, hi, hw, hf, hx, fieldB, c0]
      cases c1 : typedB x.type_ <;> simp [f29_b1, hi, hw, hf, hx, fieldB, c0, c1, ht, hn]
      )
    (by show K fns _ f29_l1 _ k = _; rw [u29_l1]; simp [f29_b1])

theorem h29_2 (k : AExit → St → Option (V × List Ob)) (n3 : Int) (p : GProgram) (c : GClass) (hm : ∀ m ∈ c.methods, OkM m) (hl : c.methods.length ≤ 1000000) : K fns ⟨0,0⟩ f29_l2 ⟨[(1, vptr 0), (3, vint n3), (4, vptr 1), (7, vint 0)], [cP p, cC c]⟩ k =
    if c.methods.any (fun t => !methodB t) then k .ret ⟨[(2, vbool false)], [cP p, cC c]⟩ else k (.exit 6) ⟨[(1, vptr 0), (3, vint n3)], [cP p, cC c]⟩ :=
  scan_any (l := c.methods) (p := fun t => !methodB t) (X := fun i => K fns ⟨0,0⟩ f29_l2 ⟨[(1, vptr 0), (3, vint n3), (4, vptr 1), (7, vint i)], [cP p, cC c]⟩ k)
    (fun i hi => by
      have hw := wrap_succ (i := i) (by omega)
      have ht := fn_refMethod (c.methods[i]) (hm _ (List.getElem_mem hi))
      show K fns _ f29_l2 _ k = _
      rw [u29_l2]
      cases c0 : methodB c.methods[i] <;> simp [f29_b2, hi, hw, ht, c0]
      )
    (by show K fns _ f29_l2 _ k = _; rw [u29_l2]; simp [f29_b2])


set_option maxHeartbeats 4000000 in
theorem h29_3 (k : AExit → St → Option (V × List Ob)) (p : GProgram) (hp : OkP p) : K fns ⟨0,0⟩ f29_l3 ⟨[(1, vptr 0), (3, vint 0)], [cP p]⟩ k =
    if p.classes.any (fun c => !classB c) then k .ret ⟨[(2, vbool false)], [cP p]⟩ else k (.exit 0) ⟨[], [cP p]⟩ :=
  scan_any (l := p.classes) (p := fun c => !classB c) (X := fun i => K fns ⟨0,0⟩ f29_l3 ⟨[(1, vptr 0), (3, vint i)], [cP p]⟩ k)
    (fun i hi => by
      have hlen := hp.len
      have hw := wrap_succ (i := i) (by omega)
      have hcs := hp.cs _ (List.getElem_mem hi)
      generalize hx : p.classes[i] = c at hcs ⊢
      have b1 := hcs.ifaces
      have b2 := hcs.fields
      have b3 := hcs.methods
      have n0 : (c.ifaces.any fun t => !freshB t) = !c.ifaces.all freshB := by simp [List.all_eq_not_any_not]
      have n1 : (c.fields.any fun t => !fieldB t) = !c.fields.all fieldB := by simp [List.all_eq_not_any_not]
      have n2 : (c.methods.any fun t => !methodB t) = !c.methods.all methodB := by simp [List.all_eq_not_any_not]
      show K fns _ f29_l3 _ k = _
      rw [u29_l3]
      by_cases a0 : c.super = ⟨#[]⟩
      · by_cases c0 : freshB c.name = true
        case neg =>
          simp [f29_b3, fn_refFresh, hi, hx, classB, a0, c0]
        by_cases c1 : c.ifaces.length ≤ 4
        case neg =>
          have q1_0 : (4 : Int) < c.ifaces.length := by omega
          have q1_1 : ¬ (c.ifaces.length : Int) ≤ 4 := by omega
          simp [f29_b3, fn_refFresh, hi, hx, classB, a0, c0, c1, q1_0, q1_1]
        have q1_0 : ¬ (4 : Int) < c.ifaces.length := by omega
        have q1_1 : (c.ifaces.length : Int) ≤ 4 := by omega
        by_cases c2 : c.fields.length ≤ 6
        case neg =>
          have q2_0 : (6 : Int) < c.fields.length := by omega
          have q2_1 : ¬ (c.fields.length : Int) ≤ 6 := by omega
          simp [f29_b3, fn_refFresh, hi, hx, classB, a0, c0, c1, q1_0, q1_1, c2, q2_0, q2_1]
        have q2_0 : ¬ (6 : Int) < c.fields.length := by omega
        have q2_1 : (c.fields.length : Int) ≤ 6 := by omega
        by_cases c3 : c.methods.length ≤ 6
        case neg =>
          have q3_0 : (6 : Int) < c.methods.length := by omega
          have q3_1 : ¬ (c.methods.length : Int) ≤ 6 := by omega
          simp [f29_b3, fn_refFresh, hi, hx, classB, a0, c0, c1, q1_0, q1_1, c2, q2_0, q2_1, c3, q3_0, q3_1]
        have q3_0 : ¬ (6 : Int) < c.methods.length := by omega
        have q3_1 : (c.methods.length : Int) ≤ 6 := by omega
        have L0 := fun k => h29_0 k i p c (by omega)
        have L1 := fun k => h29_1 k i p c (by omega)
        have L2 := fun k => h29_2 k i p c hcs.ms (by omega)
        rw [n0] at L0
        rw [n1] at L1
        rw [n2] at L2
        simp only [cC, a0] at L0 L1 L2
        cases d0 : c.ifaces.all freshB
        · simp [f29_b3, fn_refFresh, hi, hx, classB, a0, L0, L1, L2, hw, c0, c1, q1_0, q1_1, c2, q2_0, q2_1, c3, q3_0, q3_1, d0]
        cases d1 : c.fields.all fieldB
        · simp [f29_b3, fn_refFresh, hi, hx, classB, a0, L0, L1, L2, hw, c0, c1, q1_0, q1_1, c2, q2_0, q2_1, c3, q3_0, q3_1, d0, d1]
        cases d2 : c.methods.all methodB <;> simp [f29_b3, fn_refFresh, hi, hx, classB, a0, L0, L1, L2, hw, c0, c1, q1_0, q1_1, c2, q2_0, q2_1, c3, q3_0, q3_1, d0, d1, d2]
      · cases a1 : c.iface
        case true =>
          cases c0 : freshB c.name <;> simp [f29_b3, fn_refFresh, hi, hx, classB, a0, a1, c0]
        cases a2 : freshB c.super
        case false =>
          cases c0 : freshB c.name <;> simp [f29_b3, fn_refFresh, hi, hx, classB, a0, a1, a2, c0]
        by_cases c0 : freshB c.name = true
        case neg =>
          simp [f29_b3, fn_refFresh, hi, hx, classB, a0, a1, a2, c0]
        by_cases c1 : c.ifaces.length ≤ 4
        case neg =>
          have q1_0 : (4 : Int) < c.ifaces.length := by omega
          have q1_1 : ¬ (c.ifaces.length : Int) ≤ 4 := by omega
          simp [f29_b3, fn_refFresh, hi, hx, classB, a0, a1, a2, c0, c1, q1_0, q1_1]
        have q1_0 : ¬ (4 : Int) < c.ifaces.length := by omega
        have q1_1 : (c.ifaces.length : Int) ≤ 4 := by omega
        by_cases c2 : c.fields.length ≤ 6
        case neg =>
          have q2_0 : (6 : Int) < c.fields.length := by omega
          have q2_1 : ¬ (c.fields.length : Int) ≤ 6 := by omega
          simp [f29_b3, fn_refFresh, hi, hx, classB, a0, a1, a2, c0, c1, q1_0, q1_1, c2, q2_0, q2_1]
        have q2_0 : ¬ (6 : Int) < c.fields.length := by omega
        have q2_1 : (c.fields.length : Int) ≤ 6 := by omega
        by_cases c3 : c.methods.length ≤ 6
        case neg =>
          have q3_0 : (6 : Int) < c.methods.length := by omega
          have q3_1 : ¬ (c.methods.length : Int) ≤ 6 := by omega
          simp [f29_b3, fn_refFresh, hi, hx, classB, a0, a1, a2, c0, c1, q1_0, q1_1, c2, q2_0, q2_1, c3, q3_0, q3_1]
        have q3_0 : ¬ (6 : Int) < c.methods.length := by omega
        have q3_1 : (c.methods.length : Int) ≤ 6 := by omega
        have L0 := fun k => h29_0 k i p c (by omega)
        have L1 := fun k => h29_1 k i p c (by omega)
        have L2 := fun k => h29_2 k i p c hcs.ms (by omega)
        rw [n0] at L0
        rw [n1] at L1
        rw [n2] at L2
        simp only [cC, a0, a1, a2] at L0 L1 L2
        cases d0 : c.ifaces.all freshB
        · simp [f29_b3, fn_refFresh, hi, hx, classB, a0, a1, a2, L0, L1, L2, hw, c0, c1, q1_0, q1_1, c2, q2_0, q2_1, c3, q3_0, q3_1, d0]
        cases d1 : c.fields.all fieldB
        · simp [f29_b3, fn_refFresh, hi, hx, classB, a0, a1, a2, L0, L1, L2, hw, c0, c1, q1_0, q1_1, c2, q2_0, q2_1, c3, q3_0, q3_1, d0, d1]
        cases d2 : c.methods.all methodB <;> simp [f29_b3, fn_refFresh, hi, hx, classB, a0, a1, a2, L0, L1, L2, hw, c0, c1, q1_0, q1_1, c2, q2_0, q2_1, c3, q3_0, q3_1, d0, d1, d2]
      )
    (by show K fns _ f29_l3 _ k = _; rw [u29_l3]; simp [f29_b3])

theorem fn_shown (p : GProgram) (h : OkP p) (σ : List Ob) (lo tr : Nat) : Fn fns 29 [vProgram p] σ lo tr = some (vbool (progB p), σ) := by
  refine fn_gen t29 rfl (σ1 := []) rfl rfl ?_ σ lo tr
  unfold progB
  have L := fun k => h29_3 k p h
  have n0 : (p.classes.any fun t => !classB t) = !p.classes.all classB := by simp [List.all_eq_not_any_not]
  rw [n0] at L
  by_cases c0 : p.classes.length ≤ 10
  · have q0 : ¬ (10 : Int) < p.classes.length := by omega
    have q1 : (p.classes.length : Int) ≤ 10 := by omega
    cases d0 : p.classes.all classB <;> simp [KF, params, f29, c0, q0, q1, L, d0]
  · have q0 : (10 : Int) < p.classes.length := by omega
    have q1 : ¬ (p.classes.length : Int) ≤ 10 := by omega
    simp [KF, params, f29, c0, q0, q1]
end Go.Proofs.YthahhonmkhafkaaGreatDoor.Am
