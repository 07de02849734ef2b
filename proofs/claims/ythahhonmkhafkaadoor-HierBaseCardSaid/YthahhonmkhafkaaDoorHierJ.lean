/- Reach; the page's word on a program's order. Written by wip/tools/hj.py. -/
import Derived.Test.YthahhonmkhafkaaDoorHierI
namespace Go.Proofs.YthahhonmkhafkaaDoor.Am
set_option linter.unusedSimpArgs false
set_option linter.unusedVariables false
set_option linter.unusedSectionVars false
open Go
attribute [local simp ↓] K_seq K_cond K_block K_region K_skip K_exit K_ret K_wrap KA_nil KA_none KA_some str_eq
attribute [local simp] beq_int bne_int dec_eqN dec_ltN dec_leN stepOp St.rd St.raw St.set St.took get_cons V.down C.down Env.keep binV unV arith isShift strs intOf optInt wrapEnd keptAt andK endOf frzV frz1 frzC frzCs frz1s resOf resOne resAll V.closed V.closed1 C.closed B.closed Ob.closed V.cells partsIn rep chunk datas C.data rowsOf getCells put_nil put_zero put_succ mayWrite C.plain eqV_bool eqV_agg eqV_pnn eqV_pnp eqV_ppn eqV_mnn eqV_mmn eqV_snn eqV_sen eqV_san eqV_sdn rs_len rs_getE rs_app rs_take rs_drop rs_all rs_each row_len str_nilP str_nilE str_nilB vagg row_Int row_Bool row_Str k_Int k_Bool k_Str snoc_Int snoc_Bool snoc_Str row_Type k_Type snoc_Type eta_Type sames_Type row_Field k_Field snoc_Field eta_Field sames_Field row_Instr k_Instr snoc_Instr eta_Instr sames_Instr row_Catch k_Catch snoc_Catch eta_Catch sames_Catch row_Method k_Method snoc_Method row_Class k_Class snoc_Class row_Program k_Program snoc_Program row_Slot k_Slot snoc_Slot eta_Slot sames_Slot row_State k_State snoc_State row_Val k_Val snoc_Val eta_Val sames_Val row_Obj k_Obj snoc_Obj row_Input k_Input snoc_Input row_Frame k_Frame snoc_Frame row_Run k_Run snoc_Run row_Way k_Way snoc_Way eta_Way sames_Way row_Task k_Task snoc_Task eta_Task sames_Task
--let AT delverref04.At
--let HS delverref04.has
--let SO delverref04.SuperOf
--let AB delverref04.above
--let RE delverref04.reach
--let HI delverref04.Hier
--let RP delverref01.Shown
--let RA delverref04.All

theorem next_len {l : List GClass} (hc : ∀ c ∈ l, OkC c) (s : ByteArray) : (nextL l s).length ≤ 11 := by
  unfold nextL
  split
  · rename_i c h
    have := (hc c (find_mem h).1).ifaces
    unfold aboveL
    by_cases hs : superL c = ⟨#[]⟩ <;> simp [hs] <;> omega
  · simp

theorem reach_len {l : List GClass} (s : ByteArray) (hl : l.length ≤ 100) (hc : ∀ c ∈ l, OkC c) : (reachL l s).length ≤ 1101 := (bfs_bf 3000 0 [s] (bf_one l s)).len hl hc

/-- A class names what there is not. -/
def lostB (l : List GClass) (c : GClass) : Bool := (!decide (superL c = ⟨#[]⟩) && (match l.find? (fun x : GClass => decide (x.name = superL c)) with | some x => x.iface | none => true)) || c.ifaces.any fun s => match l.find? (fun x : GClass => decide (x.name = s)) with | some x => !x.iface | none => true
/-- A class comes of itself. -/
def ringB (l : List GClass) (c : GClass) : Bool := (aboveL c).any fun s => decide (c.name ∈ reachL l s)
def twiceB (l : List GClass) : Bool := l.zipIdx.any fun x => !decide (atI l x.1.name = (x.2 : Int))
def hierE (p : GProgram) : Int := bif progB p then (bif twiceB (allL p) then 6 else bif (allL p).any (lostB (allL p)) then 5 else bif (allL p).any (ringB (allL p)) then 7 else 0) else 4

def noIf (l : List GClass) (s : ByteArray) : Bool := match l.find? (fun x : GClass => decide (x.name = s)) with | some x => !x.iface | none => true
def noSup (l : List GClass) (s : ByteArray) : Bool := match l.find? (fun x : GClass => decide (x.name = s)) with | some x => x.iface | none => true
theorem lostB_eq (l : List GClass) (c : GClass) : lostB l c = ((!decide (superL c = ⟨#[]⟩) && noSup l (superL c)) || c.ifaces.any (noIf l)) := rfl

theorem base_ok : ∀ c ∈ baseL, OkC c := by
  intro c hc
  have : bigC c = false := by
    have : baseL.all (fun c => !bigC c) = true := by decide
    simpa using List.all_eq_true.mp this c hc
  exact okC this
theorem allL_ok {p : GProgram} (h : OkP p) : ∀ c ∈ allL p, OkC c := by
  intro c hc
  rcases List.mem_append.mp hc with a | a
  · exact base_ok c a
  · exact h.cs c a

end Go.Proofs.YthahhonmkhafkaaDoor.Am
