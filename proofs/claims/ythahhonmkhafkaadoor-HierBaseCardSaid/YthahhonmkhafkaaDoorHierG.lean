/- Instructions, methods, classes, programs that can be shown. Written by wip/tools/hg.py. -/
import Derived.Test.YthahhonmkhafkaaDoorHierF
namespace Go.Proofs.YthahhonmkhafkaaDoor.Am
set_option linter.unusedSimpArgs false
set_option linter.unusedVariables false
set_option linter.unusedSectionVars false
open Go
attribute [local simp ↓] K_seq K_cond K_block K_region K_skip K_exit K_ret K_wrap KA_nil KA_none KA_some str_eq
attribute [local simp] beq_int bne_int dec_eqN dec_ltN dec_leN stepOp St.rd St.raw St.set St.took get_cons V.down C.down Env.keep binV unV arith isShift strs intOf optInt wrapEnd keptAt andK endOf frzV frz1 frzC frzCs frz1s resOf resOne resAll V.closed V.closed1 C.closed B.closed Ob.closed V.cells partsIn rep chunk datas C.data rowsOf getCells put_nil put_zero put_succ mayWrite C.plain eqV_bool eqV_agg eqV_pnn eqV_pnp eqV_ppn eqV_mnn eqV_mmn eqV_snn eqV_sen eqV_san eqV_sdn rs_len rs_getE rs_app rs_take rs_drop rs_all rs_each row_len str_nilP str_nilE str_nilB vagg row_Int row_Bool row_Str k_Int k_Bool k_Str snoc_Int snoc_Bool snoc_Str row_Type k_Type snoc_Type eta_Type sames_Type row_Field k_Field snoc_Field eta_Field sames_Field row_Instr k_Instr snoc_Instr eta_Instr sames_Instr row_Catch k_Catch snoc_Catch eta_Catch sames_Catch row_Method k_Method snoc_Method row_Class k_Class snoc_Class row_Program k_Program snoc_Program row_Slot k_Slot snoc_Slot eta_Slot sames_Slot row_State k_State snoc_State row_Val k_Val snoc_Val eta_Val sames_Val row_Obj k_Obj snoc_Obj row_Input k_Input snoc_Input row_Frame k_Frame snoc_Frame row_Run k_Run snoc_Run row_Way k_Way snoc_Way eta_Way sames_Way row_Task k_Task snoc_Task eta_Task sames_Task
--let RF delverref01.freshName
--let RI delverref01.in
--let RS delverref01.Shape
--let RX delverref01.showInstr
--let RM delverref01.showMethod
--let RT delverref01.TypeText
--let RP delverref01.Shown
--let SI show.in
--let PJ parse.Jump
--let PU parse.Num
--let PA parse.Names
--let SN show.named
--let SX show.instr
--let SK show.catch
--let SF show.field
--let ST show.typed
--let SM show.method
--let SC show.class
--let SP show.Check
--let PF parse.Fresh

/-- What an instruction has: 1 any number, 2 a local, 3 a place, 4 a name, 5 two. -/
def shapeN (n : Int) : Int := if n = 1 then 1 else if n = 3 ∨ n = 4 then 2 else if 14 ≤ n ∧ n ≤ 26 then 3 else if n = 27 ∨ n = 33 ∨ n = 37 ∨ n = 38 then 4 else if (28 ≤ n ∧ n ≤ 31) ∨ n = 39 ∨ n = 40 then 5 else 0

def loN (n : Int) : Int := if shapeN n = 1 then -2147483648 else 0
def hiN (n : Int) : Int := if shapeN n = 1 then 2147483647 else if shapeN n = 2 then 7 else if shapeN n = 3 then 47 else 0
def namedB (s : ByteArray) (is : Bool) : Bool := bif is then freshB s else decide (s = ⟨#[]⟩)
def instrB (x : GInstr) : Bool := inB x.op 0 43 && (inB x.n (loN x.op) (hiN x.op) && (namedB x.a (decide (4 ≤ shapeN x.op)) && namedB x.b (decide (5 ≤ shapeN x.op))))

theorem shape_cases (n : Int) : shapeN n = 0 ∨ shapeN n = 1 ∨ shapeN n = 2 ∨ shapeN n = 3 ∨ shapeN n = 4 ∨ shapeN n = 5 := by
  unfold shapeN
  split
  · simp
  · split
    · simp
    · split
      · simp
      · split
        · simp
        · split <;> simp

theorem fn_jump (n : Int) (σ : List Ob) (lo tr : Nat) : Fn fns 86 [vint n] σ lo tr = some (vbool (decide (shapeN n = 3)), σ) := by
  refine fn_gen t86 rfl (σ1 := []) rfl rfl ?_ σ lo tr
  have : decide (shapeN n = 3) = (decide (14 ≤ n) && decide (n ≤ 26)) := by
    unfold shapeN
    by_cases h1 : n = 1
    · simp [h1]
    by_cases h2 : n = 3 ∨ n = 4
    · rcases h2 with h2 | h2 <;> simp [h2]
    by_cases h3 : 14 ≤ n ∧ n ≤ 26
    · simp [h1, h2, h3]
    have h3' : (decide (14 ≤ n) && decide (n ≤ 26)) = false := by simp; omega
    rw [h3']
    simp only [if_neg h1, if_neg h2, if_neg h3]
    split
    · rfl
    · split <;> rfl
  rw [this]
  by_cases h : 14 ≤ n <;> simp [KF, params, f86, h]

theorem fn_num (n : Int) (σ : List Ob) (lo tr : Nat) : Fn fns 78 [vint n] σ lo tr = some (.tup [vint (loN n), vint (hiN n), vbool (decide (1 ≤ shapeN n) && decide (shapeN n ≤ 3))], σ) := by
  refine fn_gen t78 rfl (σ1 := []) rfl rfl ?_ σ lo tr
  have hj := fn_jump n
  unfold loN hiN
  by_cases h1 : n = 1
  · have : shapeN n = 1 := by simp [shapeN, h1]
    rw [this]
    simp [KF, params, f78, h1]
  by_cases h2 : n = 3
  · have : shapeN n = 2 := by simp [shapeN, h2]
    rw [this]
    simp [KF, params, f78, h2]
  by_cases h3 : n = 4
  · have : shapeN n = 2 := by simp [shapeN, h3]
    rw [this]
    simp [KF, params, f78, h3]
  have n1 : ¬ shapeN n = 1 := by
    unfold shapeN
    simp only [h1, h2, h3, or_self, if_false]
    split
    · decide
    · split
      · decide
      · split <;> decide
  have n2 : ¬ shapeN n = 2 := by
    unfold shapeN
    simp only [h1, h2, h3, or_self, if_false]
    split
    · decide
    · split
      · decide
      · split <;> decide
  by_cases h4 : shapeN n = 3
  · rw [h4] at hj ⊢
    simp [KF, params, f78, h1, h2, h3, hj]
  · have e1 : (decide (1 ≤ shapeN n) && decide (shapeN n ≤ 3)) = false := by
      rcases shape_cases n with h | h | h | h | h | h <;> simp_all
    rw [e1]
    simp only [h4, decide_false] at hj
    simp [KF, params, f78, h1, h2, h3, hj, n1, n2, h4]

theorem fn_names_ (n : Int) : ∃ m : Int, (∀ σ lo tr, Fn fns 80 [vint n] σ lo tr = some (vint m, σ)) ∧ decide (0 < m) = decide (4 ≤ shapeN n) ∧ decide (1 < m) = decide (5 ≤ shapeN n) := by
  by_cases e1 : n = 27
  · exact ⟨1, fun σ lo tr => fn_gen t80 rfl (σ1 := []) rfl rfl (by simp [KF, params, f80, e1]) σ lo tr, by simp [shapeN, e1], by simp [shapeN, e1]⟩
  by_cases e2 : n = 33
  · exact ⟨1, fun σ lo tr => fn_gen t80 rfl (σ1 := []) rfl rfl (by simp [KF, params, f80, e2]) σ lo tr, by simp [shapeN, e2], by simp [shapeN, e2]⟩
  by_cases e3 : n = 37
  · exact ⟨1, fun σ lo tr => fn_gen t80 rfl (σ1 := []) rfl rfl (by simp [KF, params, f80, e3]) σ lo tr, by simp [shapeN, e3], by simp [shapeN, e3]⟩
  by_cases e4 : n = 38
  · exact ⟨1, fun σ lo tr => fn_gen t80 rfl (σ1 := []) rfl rfl (by simp [KF, params, f80, e4]) σ lo tr, by simp [shapeN, e4], by simp [shapeN, e4]⟩
  by_cases g1 : n = 28
  · exact ⟨2, fun σ lo tr => fn_gen t80 rfl (σ1 := []) rfl rfl (by simp [KF, params, f80, g1]) σ lo tr, by simp [shapeN, g1], by simp [shapeN, g1]⟩
  by_cases g2 : n = 29
  · exact ⟨2, fun σ lo tr => fn_gen t80 rfl (σ1 := []) rfl rfl (by simp [KF, params, f80, g2]) σ lo tr, by simp [shapeN, g2], by simp [shapeN, g2]⟩
  by_cases g3 : n = 30
  · exact ⟨2, fun σ lo tr => fn_gen t80 rfl (σ1 := []) rfl rfl (by simp [KF, params, f80, g3]) σ lo tr, by simp [shapeN, g3], by simp [shapeN, g3]⟩
  by_cases g4 : n = 31
  · exact ⟨2, fun σ lo tr => fn_gen t80 rfl (σ1 := []) rfl rfl (by simp [KF, params, f80, g4]) σ lo tr, by simp [shapeN, g4], by simp [shapeN, g4]⟩
  by_cases g5 : n = 39
  · exact ⟨2, fun σ lo tr => fn_gen t80 rfl (σ1 := []) rfl rfl (by simp [KF, params, f80, g5]) σ lo tr, by simp [shapeN, g5], by simp [shapeN, g5]⟩
  by_cases g6 : n = 40
  · exact ⟨2, fun σ lo tr => fn_gen t80 rfl (σ1 := []) rfl rfl (by simp [KF, params, f80, g6]) σ lo tr, by simp [shapeN, g6], by simp [shapeN, g6]⟩
  have hs : shapeN n < 4 := by
    unfold shapeN
    split
    · decide
    · split
      · decide
      · split
        · decide
        · rw [if_neg (by omega), if_neg (by omega)]; decide
  exact ⟨0, fun σ lo tr => fn_gen t80 rfl (σ1 := []) rfl rfl (by simp [KF, params, f80, e1, e2, e3, e4, g1, g2, g3, g4, g5, g6]) σ lo tr, by simp; omega, by simp; omega⟩

theorem fn_named (s : ByteArray) (is : Bool) (σ : List Ob) (lo tr : Nat) : Fn fns 79 [vstr s, vbool is] σ lo tr = some (vbool (namedB s is), σ) := by
  refine fn_gen t79 rfl (σ1 := []) rfl rfl ?_ σ lo tr
  unfold namedB
  cases is
  · simp [KF, params, f79]
  · cases h : freshB s <;> simp [KF, params, f79, fn_fresh, h]

theorem fn_instr (x : GInstr) (σ : List Ob) (lo tr : Nat) : Fn fns 66 [vInstr x] σ lo tr = some (vbool (instrB x), σ) := by
  refine fn_gen t66 rfl (σ1 := []) rfl rfl ?_ σ lo tr
  obtain ⟨m, h1, h2, h3⟩ := fn_names_ x.op
  unfold instrB
  rw [← h2, ← h3]
  cases c0 : inB x.op 0 43
  · simp [KF, params, f66, fn_num, fn_in, fn_named, h1, c0]
  cases c1 : inB x.n (loN x.op) (hiN x.op)
  · simp [KF, params, f66, fn_num, fn_in, fn_named, h1, c0, c1]
  cases c2 : namedB x.a (decide (0 < m))
  · simp [KF, params, f66, fn_num, fn_in, fn_named, h1, c0, c1, c2]
  simp [KF, params, f66, fn_num, fn_in, fn_named, h1, c0, c1, c2]

def catchB (c : GCatch) : Bool := freshB c.name && (inB c.from_ 0 48 && (inB c.to 0 48 && inB c.at_ 0 48))
theorem fn_catch (c : GCatch) (σ : List Ob) (lo tr : Nat) : Fn fns 68 [vCatch c] σ lo tr = some (vbool (catchB c), σ) := by
  refine fn_gen t68 rfl (σ1 := []) rfl rfl ?_ σ lo tr
  unfold catchB
  cases c0 : freshB c.name
  · simp [KF, params, f68, fn_in, fn_fresh, c0]
  cases c1 : inB c.from_ 0 48
  · simp [KF, params, f68, fn_in, fn_fresh, c0, c1]
  cases c2 : inB c.to 0 48
  · simp [KF, params, f68, fn_in, fn_fresh, c0, c1, c2]
  simp [KF, params, f68, fn_in, fn_fresh, c0, c1, c2]

def fieldB (f : GField) : Bool := freshB f.name && typedB f.type_
theorem fn_field (f : GField) (σ : List Ob) (lo tr : Nat) : Fn fns 50 [vField f] σ lo tr = some (vbool (fieldB f), σ) := by
  refine fn_gen t50 rfl (σ1 := []) rfl rfl ?_ σ lo tr
  unfold fieldB
  have h1 := fn_typed f.type_
  cases c0 : freshB f.name <;> simp [KF, params, f50, fn_fresh, h1, c0]

/-- May a method stand in a text? -/
def methodB (m : GMethod) : Bool := !(m.abstract_ && (!decide (m.locals = 0) || decide (0 < m.code.length + m.catches.length))) && (freshB m.name && ((decide ((m.params.length : Int) ≤ 4) && m.params.all typedB) && (typedB m.ret && (inB m.locals 0 8 && ((decide ((m.code.length : Int) ≤ 48) && m.code.all instrB) && (decide ((m.catches.length : Int) ≤ 4) && m.catches.all catchB))))))
theorem fn_method (m : GMethod) (h : OkM m) (σ : List Ob) (lo tr : Nat) : Fn fns 52 [vMethod m] σ lo tr = some (vbool (methodB m), σ) := by
  refine fn_gen t52 rfl (σ1 := []) rfl rfl ?_ σ lo tr
  unfold methodB
  have b1 := h.params
  have b2 := h.code
  have b3 := h.catches
  have hw : IntKind.i64.wrap ((m.code.length : Int) + (m.catches.length : Int)) = ((m.code.length + m.catches.length : Nat) : Int) := by rw [wrap_nat (by omega) (by omega)]; simp
  have hg : ((0 : Int) < (m.code.length : Int) + (m.catches.length : Int)) = (0 < m.code.length + m.catches.length) := by apply propext; omega
  have h1 := fn_typed m.ret
  have h2 := fn_eachT m.params 4 60 typedB (by omega) (fun x _ σ lo tr => fn_typed x σ lo tr)
  have h3 := fn_eachI m.code 48 66 instrB (by omega) (fun x _ σ lo tr => fn_instr x σ lo tr)
  have h4 := fn_eachK m.catches 4 68 catchB (by omega) (fun x _ σ lo tr => fn_catch x σ lo tr)
  cases a0 : m.abstract_
  · simp only [Bool.false_and, Bool.not_false, Bool.true_and]
    cases c0 : freshB m.name
    · simp [KF, params, f52, fn_in, fn_fresh, h1, h2, h3, h4, a0, c0]
    cases c1 : (decide ((m.params.length : Int) ≤ 4) && m.params.all typedB)
    · simp [KF, params, f52, fn_in, fn_fresh, h1, h2, h3, h4, a0, c0, c1]
    cases c2 : typedB m.ret
    · simp [KF, params, f52, fn_in, fn_fresh, h1, h2, h3, h4, a0, c0, c1, c2]
    cases c3 : inB m.locals 0 8
    · simp [KF, params, f52, fn_in, fn_fresh, h1, h2, h3, h4, a0, c0, c1, c2, c3]
    cases c4 : (decide ((m.code.length : Int) ≤ 48) && m.code.all instrB)
    · simp [KF, params, f52, fn_in, fn_fresh, h1, h2, h3, h4, a0, c0, c1, c2, c3, c4]
    simp [KF, params, f52, fn_in, fn_fresh, h1, h2, h3, h4, a0, c0, c1, c2, c3, c4]
  · by_cases a1 : m.locals = 0
    · by_cases a2 : 0 < m.code.length + m.catches.length
      · simp [KF, params, f52, a0, a1, a2, hw, hg]
      · have i0 : inB 0 0 8 = true := rfl
        have e : (true && (!decide (m.locals = 0) || decide (0 < m.code.length + m.catches.length))) = false := by simp [a1, a2]
        rw [e]
        simp only [Bool.not_false, Bool.true_and]
        cases c0 : freshB m.name
        · simp [KF, params, f52, fn_in, fn_fresh, h1, h2, h3, h4, a0, a1, a2, hw, hg, i0, c0]
        cases c1 : (decide ((m.params.length : Int) ≤ 4) && m.params.all typedB)
        · simp [KF, params, f52, fn_in, fn_fresh, h1, h2, h3, h4, a0, a1, a2, hw, hg, i0, c0, c1]
        cases c2 : typedB m.ret
        · simp [KF, params, f52, fn_in, fn_fresh, h1, h2, h3, h4, a0, a1, a2, hw, hg, i0, c0, c1, c2]
        cases c3 : (decide ((m.code.length : Int) ≤ 48) && m.code.all instrB)
        · simp [KF, params, f52, fn_in, fn_fresh, h1, h2, h3, h4, a0, a1, a2, hw, hg, i0, c0, c1, c2, c3]
        simp [KF, params, f52, fn_in, fn_fresh, h1, h2, h3, h4, a0, a1, a2, hw, hg, i0, c0, c1, c2, c3]
    · simp [KF, params, f52, a0, a1]

/-- May a class? -/
def classB (c : GClass) : Bool := freshB c.name && ((decide (c.super = ⟨#[]⟩) || (!c.iface && freshB c.super)) && ((decide ((c.ifaces.length : Int) ≤ 4) && c.ifaces.all freshB) && ((decide ((c.fields.length : Int) ≤ 6) && c.fields.all fieldB) && (decide ((c.methods.length : Int) ≤ 6) && c.methods.all methodB))))
theorem fn_class (c : GClass) (h : OkC c) (σ : List Ob) (lo tr : Nat) : Fn fns 40 [vClass c] σ lo tr = some (vbool (classB c), σ) := by
  refine fn_gen t40 rfl (σ1 := []) rfl rfl ?_ σ lo tr
  unfold classB
  have b1 := h.ifaces
  have b2 := h.fields
  have b3 := h.methods
  have h2 := fn_eachS c.ifaces 4 47 freshB (by omega) (fun x _ σ lo tr => fn_fresh x σ lo tr)
  have h3 := fn_eachF c.fields 6 50 fieldB (by omega) (fun x _ σ lo tr => fn_field x σ lo tr)
  have h4 := fn_eachM c.methods 6 52 methodB (by omega) (fun x hx σ lo tr => fn_method x (h.ms x hx) σ lo tr)
  have fin : ∀ z : Bool, (decide (c.super = ⟨#[]⟩) || (!c.iface && freshB c.super)) = z → True := fun _ _ => trivial
  by_cases a0 : c.super = ⟨#[]⟩
  · simp only [a0, decide_true, Bool.true_or, Bool.true_and]
    cases c0 : freshB c.name
    · simp [KF, params, f40, fn_fresh, h2, h3, h4, a0, c0]
    cases c1 : (decide ((c.ifaces.length : Int) ≤ 4) && c.ifaces.all freshB)
    · simp [KF, params, f40, fn_fresh, h2, h3, h4, a0, c0, c1]
    cases c2 : (decide ((c.fields.length : Int) ≤ 6) && c.fields.all fieldB)
    · simp [KF, params, f40, fn_fresh, h2, h3, h4, a0, c0, c1, c2]
    simp [KF, params, f40, fn_fresh, h2, h3, h4, a0, c0, c1, c2]
  · cases a1 : c.iface
    · cases a2 : freshB c.super
      · simp only [a0, decide_false, Bool.not_false, Bool.and_false, Bool.or_false, Bool.false_and]
        cases c0 : freshB c.name <;> simp [KF, params, f40, fn_fresh, h2, h3, h4, a0, a1, a2, c0]
      · simp only [a0, decide_false, Bool.not_false, Bool.and_true, Bool.or_true, Bool.true_and]
        cases c0 : freshB c.name
        · simp [KF, params, f40, fn_fresh, h2, h3, h4, a0, a1, a2, c0]
        cases c1 : (decide ((c.ifaces.length : Int) ≤ 4) && c.ifaces.all freshB)
        · simp [KF, params, f40, fn_fresh, h2, h3, h4, a0, a1, a2, c0, c1]
        cases c2 : (decide ((c.fields.length : Int) ≤ 6) && c.fields.all fieldB)
        · simp [KF, params, f40, fn_fresh, h2, h3, h4, a0, a1, a2, c0, c1, c2]
        simp [KF, params, f40, fn_fresh, h2, h3, h4, a0, a1, a2, c0, c1, c2]
    · simp only [a0, decide_false, Bool.not_true, Bool.false_and, Bool.or_false, Bool.and_false]
      cases c0 : freshB c.name <;> simp [KF, params, f40, fn_fresh, h2, h3, h4, a0, a1, c0]

/-- May a program? -/
def progB (p : GProgram) : Bool := decide ((p.classes.length : Int) ≤ 10) && p.classes.all classB
theorem fn_check0 (p : GProgram) (h : OkP p) (σ : List Ob) (lo tr : Nat) : Fn fns 24 [vProgram p] σ lo tr = some (vint (bif progB p then 0 else 4), σ) := by
  refine fn_gen t24 rfl (σ1 := []) rfl rfl ?_ σ lo tr
  unfold progB
  have h1 := fn_eachC p.classes 10 40 classB (by have := h.len; omega) (fun x hx σ lo tr => fn_class x (h.cs x hx) σ lo tr)
  cases c0 : (decide ((p.classes.length : Int) ≤ 10) && p.classes.all classB) <;> simp [KF, params, f24, h1, c0]
end Go.Proofs.YthahhonmkhafkaaDoor.Am
