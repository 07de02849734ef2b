/- How much is played: programs that are not heavy. -/
import Derived.Test.YthahhonmkhafkaaDoorFns
import Derived.Test.YthahhonmkhafkaaDoorMachF
namespace Go.Proofs.YthahhonmkhafkaaDoor.Am
set_option linter.unusedSimpArgs false
set_option linter.unusedVariables false
set_option linter.unusedSectionVars false
open Go
attribute [local simp ↓] K_seq K_cond K_block K_region K_skip K_exit K_ret K_wrap KA_nil KA_none KA_some str_eq
attribute [local simp] beq_int bne_int dec_eqN dec_ltN dec_leN stepOp St.rd St.raw St.set St.took get_cons V.down C.down Env.keep binV unV arith isShift strs intOf optInt wrapEnd keptAt andK endOf frzV frz1 frzC frzCs frz1s resOf resOne resAll V.closed V.closed1 C.closed B.closed Ob.closed V.cells partsIn rep chunk datas C.data rowsOf getCells put_nil put_zero put_succ mayWrite C.plain eqV_bool eqV_agg eqV_pnn eqV_pnp eqV_ppn eqV_mnn eqV_mmn eqV_snn eqV_sen eqV_san eqV_sdn rs_len rs_getE rs_app rs_take rs_drop rs_all rs_each row_len str_nilP str_nilE str_nilB vagg row_Int row_Bool row_Str k_Int k_Bool k_Str snoc_Int snoc_Bool snoc_Str row_Type k_Type snoc_Type eta_Type sames_Type row_Field k_Field snoc_Field eta_Field sames_Field row_Instr k_Instr snoc_Instr eta_Instr sames_Instr row_Catch k_Catch snoc_Catch eta_Catch sames_Catch row_Method k_Method snoc_Method row_Class k_Class snoc_Class row_Program k_Program snoc_Program row_Slot k_Slot snoc_Slot eta_Slot sames_Slot row_State k_State snoc_State row_Val k_Val snoc_Val eta_Val sames_Val row_Obj k_Obj snoc_Obj row_Input k_Input snoc_Input row_Frame k_Frame snoc_Frame row_Run k_Run snoc_Run row_Way k_Way snoc_Way eta_Way sames_Way row_Task k_Task snoc_Task eta_Task sames_Task
--let H delverlaw02.Heavy

/-- Sizes that are played. -/
structure OkM (m : GMethod) : Prop where
  name : m.name.size ≤ 60
  params : m.params.length ≤ 10
  code : m.code.length ≤ 60
  catches : m.catches.length ≤ 10
  ret : m.ret.name.size ≤ 60
  ps : ∀ t ∈ m.params, t.name.size ≤ 60
  is : ∀ x ∈ m.code, x.a.size ≤ 60 ∧ x.b.size ≤ 60
  cs : ∀ c ∈ m.catches, c.name.size ≤ 60

structure OkC (c : GClass) : Prop where
  name : c.name.size ≤ 60
  super : c.super.size ≤ 60
  ifaces : c.ifaces.length ≤ 10
  fields : c.fields.length ≤ 14
  methods : c.methods.length ≤ 14
  fs : ∀ f ∈ c.fields, f.name.size ≤ 60 ∧ f.type_.name.size ≤ 60
  is : ∀ s ∈ c.ifaces, s.size ≤ 60
  ms : ∀ m ∈ c.methods, OkM m

structure OkP (p : GProgram) : Prop where
  len : p.classes.length ≤ 30
  cs : ∀ c ∈ p.classes, OkC c

def bigF (f : GField) : Bool := decide (60 < f.name.size) || decide (60 < f.type_.name.size)
def bigS (s : ByteArray) : Bool := decide (60 < s.size)
def bigI (x : GInstr) : Bool := decide (60 < x.a.size) || decide (60 < x.b.size)
def bigT (t : GType) : Bool := decide (60 < t.name.size)
def bigK (c : GCatch) : Bool := decide (60 < c.name.size)
def bigM (m : GMethod) : Bool := decide (60 < m.name.size) || decide (10 < m.params.length) || decide (60 < m.code.length) || decide (10 < m.catches.length) || decide (60 < m.ret.name.size) || m.code.any bigI || m.params.any bigT || m.catches.any bigK
def bigC (c : GClass) : Bool := decide (14 < c.fields.length) || decide (14 < c.methods.length) || decide (10 < c.ifaces.length) || decide (60 < c.name.size) || decide (60 < c.super.size) || c.fields.any bigF || c.ifaces.any bigS || c.methods.any bigM
def heavy (p : GProgram) : Bool := decide (14 < p.classes.length) || p.classes.any bigC

theorem okM {m : GMethod} (h : bigM m = false) : OkM m := by
  simp only [bigM, Bool.or_eq_false_iff, decide_eq_false_iff_not, List.any_eq_false, bigI, bigT, bigK, Bool.or_eq_true, decide_eq_true_eq, not_or] at h
  obtain ⟨⟨⟨⟨⟨⟨⟨a, b⟩, c⟩, d⟩, e⟩, f⟩, g⟩, i⟩ := h
  exact ⟨by omega, by omega, by omega, by omega, by omega, fun t ht => by have := g t ht; omega, fun t ht => by have := f t ht; omega, fun t ht => by have := i t ht; omega⟩
theorem okC {c : GClass} (h : bigC c = false) : OkC c := by
  simp only [bigC, Bool.or_eq_false_iff, decide_eq_false_iff_not, List.any_eq_false, bigF, bigS, Bool.or_eq_true, decide_eq_true_eq, not_or] at h
  obtain ⟨⟨⟨⟨⟨⟨⟨a, b⟩, c⟩, d⟩, e⟩, f⟩, g⟩, i⟩ := h
  exact ⟨by omega, by omega, by omega, by omega, by omega, fun t ht => by have := f t ht; omega, fun t ht => by have := g t ht; omega, fun t ht => okM (by simpa using i t ht)⟩
theorem okP {p : GProgram} (h : heavy p = false) : OkP p := by
  simp only [heavy, Bool.or_eq_false_iff, decide_eq_false_iff_not, List.any_eq_false] at h
  exact ⟨by omega, fun c hc => okC (by simpa using h.2 c hc)⟩

abbrev cP (p : GProgram) : Ob := .cells [.b (.d (.sl (rows p.classes)))]
abbrev cC (x : GClass) : Ob := .cells [.b (.d (.str x.name)), .b (.d (.bool x.iface)), .b (.d (.str x.super)), .b (.d (.sl (rows x.ifaces))), .b (.d (.sl (rows x.fields))), .b (.d (.sl (rows x.methods)))]
abbrev cM (x : GMethod) : Ob := .cells [.b (.d (.str x.name)), .b (.d (.bool x.static_)), .b (.d (.bool x.abstract_)), .b (.d (.sl (rows x.params))), .b (.d (.int .i64 x.ret.kind)), .b (.d (.str x.ret.name)), .b (.d (.int .i64 x.locals)), .b (.d (.sl (rows x.code))), .b (.d (.sl (rows x.catches)))]
abbrev vptr (l : Nat) : V := .c (.b (.ptr l 0))

section
variable (k : AExit → St → Option (V × List Ob)) (n3 n7 : Int) (p : GProgram) (c : GClass) (m : GMethod)
theorem h9_0 (hl : c.fields.length < 1000000) : K fns ⟨0,0⟩ f4_l0 ⟨[(1, vptr 0), (3, vint n3), (4, vptr 1), (5, vint 0)], [cP p, cC c]⟩ k =
    if c.fields.any bigF then k .ret ⟨[(2, vbool true)], [cP p, cC c]⟩ else k (.exit 2) ⟨[(1, vptr 0), (3, vint n3), (4, vptr 1)], [cP p, cC c]⟩ :=
  scan_any (l := c.fields) (p := bigF) (X := fun i => K fns ⟨0,0⟩ f4_l0 ⟨[(1, vptr 0), (3, vint n3), (4, vptr 1), (5, vint i)], [cP p, cC c]⟩ k)
    (fun i hi => by
      have hw := wrap_succ (i := i) (by omega)
      show K fns _ f4_l0 _ k = _
      rw [u4_l0]
      by_cases d0 : 60 < c.fields[i].name.size
      · have d0' : (60 : Int) < c.fields[i].name.size := by omega
        simp [f4_b0, hi, bigF, d0, d0']
      have d0' : ¬ (60 : Int) < c.fields[i].name.size := by omega
      by_cases d1 : 60 < c.fields[i].type_.name.size
      · have d1' : (60 : Int) < c.fields[i].type_.name.size := by omega
        simp [f4_b0, hi, bigF, d0, d0', d1, d1']
      have d1' : ¬ (60 : Int) < c.fields[i].type_.name.size := by omega
      simp [f4_b0, hi, hw, bigF, d0, d0', d1, d1'])
    (by show K fns _ f4_l0 _ k = _; rw [u4_l0]; simp [f4_b0])
theorem h9_1 (hl : c.ifaces.length < 1000000) : K fns ⟨0,0⟩ f4_l1 ⟨[(1, vptr 0), (3, vint n3), (4, vptr 1), (6, vint 0)], [cP p, cC c]⟩ k =
    if c.ifaces.any bigS then k .ret ⟨[(2, vbool true)], [cP p, cC c]⟩ else k (.exit 4) ⟨[(1, vptr 0), (3, vint n3), (4, vptr 1)], [cP p, cC c]⟩ :=
  scan_any (l := c.ifaces) (p := bigS) (X := fun i => K fns ⟨0,0⟩ f4_l1 ⟨[(1, vptr 0), (3, vint n3), (4, vptr 1), (6, vint i)], [cP p, cC c]⟩ k)
    (fun i hi => by
      have hw := wrap_succ (i := i) (by omega)
      show K fns _ f4_l1 _ k = _
      rw [u4_l1]
      by_cases d0 : 60 < c.ifaces[i].size
      · have d0' : (60 : Int) < c.ifaces[i].size := by omega
        simp [f4_b1, hi, bigS, d0, d0']
      have d0' : ¬ (60 : Int) < c.ifaces[i].size := by omega
      simp [f4_b1, hi, hw, bigS, d0, d0'])
    (by show K fns _ f4_l1 _ k = _; rw [u4_l1]; simp [f4_b1])
theorem h9_2 (hl : m.code.length < 1000000) : K fns ⟨0,0⟩ f4_l2 ⟨[(1, vptr 0), (3, vint n3), (4, vptr 1), (7, vint n7), (8, vptr 2), (9, vint 0)], [cP p, cC c, cM m]⟩ k =
    if m.code.any bigI then k .ret ⟨[(2, vbool true)], [cP p, cC c, cM m]⟩ else k (.exit 8) ⟨[(1, vptr 0), (3, vint n3), (4, vptr 1), (7, vint n7), (8, vptr 2)], [cP p, cC c, cM m]⟩ :=
  scan_any (l := m.code) (p := bigI) (X := fun i => K fns ⟨0,0⟩ f4_l2 ⟨[(1, vptr 0), (3, vint n3), (4, vptr 1), (7, vint n7), (8, vptr 2), (9, vint i)], [cP p, cC c, cM m]⟩ k)
    (fun i hi => by
      have hw := wrap_succ (i := i) (by omega)
      show K fns _ f4_l2 _ k = _
      rw [u4_l2]
      by_cases d0 : 60 < m.code[i].a.size
      · have d0' : (60 : Int) < m.code[i].a.size := by omega
        simp [f4_b2, hi, bigI, d0, d0']
      have d0' : ¬ (60 : Int) < m.code[i].a.size := by omega
      by_cases d1 : 60 < m.code[i].b.size
      · have d1' : (60 : Int) < m.code[i].b.size := by omega
        simp [f4_b2, hi, bigI, d0, d0', d1, d1']
      have d1' : ¬ (60 : Int) < m.code[i].b.size := by omega
      simp [f4_b2, hi, hw, bigI, d0, d0', d1, d1'])
    (by show K fns _ f4_l2 _ k = _; rw [u4_l2]; simp [f4_b2])
theorem h9_3 (hl : m.params.length < 1000000) : K fns ⟨0,0⟩ f4_l3 ⟨[(1, vptr 0), (3, vint n3), (4, vptr 1), (7, vint n7), (8, vptr 2), (10, vint 0)], [cP p, cC c, cM m]⟩ k =
    if m.params.any bigT then k .ret ⟨[(2, vbool true)], [cP p, cC c, cM m]⟩ else k (.exit 10) ⟨[(1, vptr 0), (3, vint n3), (4, vptr 1), (7, vint n7), (8, vptr 2)], [cP p, cC c, cM m]⟩ :=
  scan_any (l := m.params) (p := bigT) (X := fun i => K fns ⟨0,0⟩ f4_l3 ⟨[(1, vptr 0), (3, vint n3), (4, vptr 1), (7, vint n7), (8, vptr 2), (10, vint i)], [cP p, cC c, cM m]⟩ k)
    (fun i hi => by
      have hw := wrap_succ (i := i) (by omega)
      show K fns _ f4_l3 _ k = _
      rw [u4_l3]
      by_cases d0 : 60 < m.params[i].name.size
      · have d0' : (60 : Int) < m.params[i].name.size := by omega
        simp [f4_b3, hi, bigT, d0, d0']
      have d0' : ¬ (60 : Int) < m.params[i].name.size := by omega
      simp [f4_b3, hi, hw, bigT, d0, d0'])
    (by show K fns _ f4_l3 _ k = _; rw [u4_l3]; simp [f4_b3])
theorem h9_4 (hl : m.catches.length < 1000000) : K fns ⟨0,0⟩ f4_l4 ⟨[(1, vptr 0), (3, vint n3), (4, vptr 1), (7, vint n7), (8, vptr 2), (11, vint 0)], [cP p, cC c, cM m]⟩ k =
    if m.catches.any bigK then k .ret ⟨[(2, vbool true)], [cP p, cC c, cM m]⟩ else k (.exit 12) ⟨[(1, vptr 0), (3, vint n3), (4, vptr 1), (7, vint n7)], [cP p, cC c, cM m]⟩ :=
  scan_any (l := m.catches) (p := bigK) (X := fun i => K fns ⟨0,0⟩ f4_l4 ⟨[(1, vptr 0), (3, vint n3), (4, vptr 1), (7, vint n7), (8, vptr 2), (11, vint i)], [cP p, cC c, cM m]⟩ k)
    (fun i hi => by
      have hw := wrap_succ (i := i) (by omega)
      show K fns _ f4_l4 _ k = _
      rw [u4_l4]
      by_cases d0 : 60 < m.catches[i].name.size
      · have d0' : (60 : Int) < m.catches[i].name.size := by omega
        simp [f4_b4, hi, bigK, d0, d0']
      have d0' : ¬ (60 : Int) < m.catches[i].name.size := by omega
      simp [f4_b4, hi, hw, bigK, d0, d0'])
    (by show K fns _ f4_l4 _ k = _; rw [u4_l4]; simp [f4_b4])

theorem h9_5 (hl : c.methods.length < 1000000) : K fns ⟨0,0⟩ f4_l5 ⟨[(1, vptr 0), (3, vint n3), (4, vptr 1), (7, vint 0)], [cP p, cC c]⟩ k =
    if c.methods.any bigM then k .ret ⟨[(2, vbool true)], [cP p, cC c]⟩ else k (.exit 6) ⟨[(1, vptr 0), (3, vint n3)], [cP p, cC c]⟩ :=
  scan_any (l := c.methods) (p := bigM) (X := fun i => K fns ⟨0,0⟩ f4_l5 ⟨[(1, vptr 0), (3, vint n3), (4, vptr 1), (7, vint i)], [cP p, cC c]⟩ k)
    (fun i hi => by
      have hw := wrap_succ (i := i) (by omega)
      show K fns _ f4_l5 _ k = _
      rw [u4_l5]
      generalize hm : c.methods[i] = m
      by_cases d0 : 60 < m.name.size
      · have d0' : (60 : Int) < m.name.size := by omega
        simp [f4_b5, hi, hm, bigM, d0, d0']
      have d0' : ¬ (60 : Int) < m.name.size := by omega
      by_cases d1 : 10 < m.params.length
      · have d1' : (10 : Int) < m.params.length := by omega
        simp [f4_b5, hi, hm, bigM, d0, d0', d1, d1']
      have d1' : ¬ (10 : Int) < m.params.length := by omega
      by_cases d2 : 60 < m.code.length
      · have d2' : (60 : Int) < m.code.length := by omega
        simp [f4_b5, hi, hm, bigM, d0, d0', d1, d1', d2, d2']
      have d2' : ¬ (60 : Int) < m.code.length := by omega
      by_cases d3 : 10 < m.catches.length
      · have d3' : (10 : Int) < m.catches.length := by omega
        simp [f4_b5, hi, hm, bigM, d0, d0', d1, d1', d2, d2', d3, d3']
      have d3' : ¬ (10 : Int) < m.catches.length := by omega
      by_cases d4 : 60 < m.ret.name.size
      · have d4' : (60 : Int) < m.ret.name.size := by omega
        simp [f4_b5, hi, hm, bigM, d0, d0', d1, d1', d2, d2', d3, d3', d4, d4']
      have d4' : ¬ (60 : Int) < m.ret.name.size := by omega
      have hp : bigM m = (m.code.any bigI || m.params.any bigT || m.catches.any bigK) := by simp [bigM, d0, d1, d2, d3, d4]
      rw [hp]
      have L2 := fun k => h9_2 k n3 i p c m (by omega)
      have L3 := fun k => h9_3 k n3 i p c m (by omega)
      have L4 := fun k => h9_4 k n3 i p c m (by omega)
      cases b2 : m.code.any bigI
      case true => simp [f4_b5, hi, hm, d0', d1', d2', d3', d4', L2, b2]
      cases b3 : m.params.any bigT
      case true => simp [f4_b5, hi, hm, d0', d1', d2', d3', d4', L2, b2, L3, b3]
      cases b4 : m.catches.any bigK
      case true => simp [f4_b5, hi, hm, d0', d1', d2', d3', d4', L2, b2, L3, b3, L4, b4]
      simp [f4_b5, hi, hm, hw, d0', d1', d2', d3', d4', L2, b2, L3, b3, L4, b4])
    (by show K fns _ f4_l5 _ k = _; rw [u4_l5]; simp [f4_b5])

theorem h9_6 (hl : p.classes.length < 1000000) : K fns ⟨0,0⟩ f4_l6 ⟨[(1, vptr 0), (3, vint 0)], [cP p]⟩ k =
    if p.classes.any bigC then k .ret ⟨[(2, vbool true)], [cP p]⟩ else k (.exit 0) ⟨[], [cP p]⟩ :=
  scan_any (l := p.classes) (p := bigC) (X := fun i => K fns ⟨0,0⟩ f4_l6 ⟨[(1, vptr 0), (3, vint i)], [cP p]⟩ k)
    (fun i hi => by
      have hw := wrap_succ (i := i) (by omega)
      show K fns _ f4_l6 _ k = _
      rw [u4_l6]
      generalize hm : p.classes[i] = c
      by_cases d0 : 14 < c.fields.length
      · have d0' : (14 : Int) < c.fields.length := by omega
        simp [f4_b6, hi, hm, bigC, d0, d0']
      have d0' : ¬ (14 : Int) < c.fields.length := by omega
      by_cases d1 : 14 < c.methods.length
      · have d1' : (14 : Int) < c.methods.length := by omega
        simp [f4_b6, hi, hm, bigC, d0, d0', d1, d1']
      have d1' : ¬ (14 : Int) < c.methods.length := by omega
      by_cases d2 : 10 < c.ifaces.length
      · have d2' : (10 : Int) < c.ifaces.length := by omega
        simp [f4_b6, hi, hm, bigC, d0, d0', d1, d1', d2, d2']
      have d2' : ¬ (10 : Int) < c.ifaces.length := by omega
      by_cases d3 : 60 < c.name.size
      · have d3' : (60 : Int) < c.name.size := by omega
        simp [f4_b6, hi, hm, bigC, d0, d0', d1, d1', d2, d2', d3, d3']
      have d3' : ¬ (60 : Int) < c.name.size := by omega
      by_cases d4 : 60 < c.super.size
      · have d4' : (60 : Int) < c.super.size := by omega
        simp [f4_b6, hi, hm, bigC, d0, d0', d1, d1', d2, d2', d3, d3', d4, d4']
      have d4' : ¬ (60 : Int) < c.super.size := by omega
      have hp : bigC c = (c.fields.any bigF || c.ifaces.any bigS || c.methods.any bigM) := by simp [bigC, d0, d1, d2, d3, d4]
      rw [hp]
      have L2 := fun k => h9_0 k i p c (by omega)
      have L3 := fun k => h9_1 k i p c (by omega)
      have L4 := fun k => h9_5 k i p c (by omega)
      cases b2 : c.fields.any bigF
      case true => simp [f4_b6, hi, hm, d0', d1', d2', d3', d4', L2, b2]
      cases b3 : c.ifaces.any bigS
      case true => simp [f4_b6, hi, hm, d0', d1', d2', d3', d4', L2, b2, L3, b3]
      cases b4 : c.methods.any bigM
      case true => simp [f4_b6, hi, hm, d0', d1', d2', d3', d4', L2, b2, L3, b3, L4, b4]
      simp [f4_b6, hi, hm, hw, d0', d1', d2', d3', d4', L2, b2, L3, b3, L4, b4])
    (by show K fns _ f4_l6 _ k = _; rw [u4_l6]; simp [f4_b6])
end

theorem fn_heavy (p : GProgram) (σ : List Ob) (lo tr : Nat) : Fn fns 4 [vProgram p] σ lo tr = some (vbool (heavy p), σ) := by
  refine fn_gen t4 rfl (σ1 := []) rfl rfl ?_ σ lo tr
  by_cases c1 : 14 < p.classes.length
  · have c1' : (14 : Int) < p.classes.length := by omega
    simp [KF, params, f4, heavy, c1, c1']
  have c1' : ¬ (14 : Int) < p.classes.length := by omega
  have L := fun k => h9_6 k p (by omega)
  have hc : heavy p = p.classes.any bigC := by simp [heavy, c1]
  rw [hc]
  cases hb : p.classes.any bigC <;> simp [KF, params, f4, c1', L, hb]
end Go.Proofs.YthahhonmkhafkaaDoor.Am
