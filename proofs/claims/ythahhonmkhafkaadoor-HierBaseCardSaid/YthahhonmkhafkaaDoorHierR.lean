/- The laws' own check; the law HierOrder. Written by wip/tools/hr.py. -/
import Derived.Test.YthahhonmkhafkaaDoorHierQ
import Derived.Test.YthahhonmkhafkaaDoorMachF
namespace Go.Proofs.YthahhonmkhafkaaDoor.Am
set_option linter.unusedSimpArgs false
set_option linter.unusedVariables false
set_option linter.unusedSectionVars false
open Go
--let HV delverlaw02.Heavy
--let HI delverref04.Hier
--let NA delverlaw04.names
--let KS delverkeep.Strings
--let WA delverlaw04.wakes
--let HO delverlaw04.HierOrder
--let HS hier.Super
--let HK hier.Kinds
--let HA hier.All
--let HC hier.Check
--let HU hier.Under

theorem fn_strings (a b : List ByteArray) (hs : a.length ≤ 1000000) (σ : List Ob) (lo tr : Nat) : Fn fns 18 [vsl a, vsl b] σ lo tr = some (vbool (decide (a = b)), σ) := by
  refine fn_gen t18 rfl (σ1 := []) rfl rfl ?_ σ lo tr
  by_cases hl : a.length = b.length
  · have L : ∀ k : AExit → St → Option (V × List Ob), K fns ⟨0,0⟩ f18_l0 ⟨[(0, vsl a), (1, vsl b), (5, vint 0)], []⟩ k = if a = b then k (.exit 0) ⟨[], []⟩ else k .ret ⟨[(4, vbool false)], []⟩ := fun k =>
      scan_eq hl (X := fun i => K fns ⟨0,0⟩ f18_l0 ⟨[(0, vsl a), (1, vsl b), (5, vint i)], []⟩ k)
        (fun i hi hj => by
          have hw := wrap_succ (i := i) (by omega)
          show K fns _ f18_l0 _ k = _
          rw [u18_l0]
          by_cases hc : a[i] = b[i] <;> simp [f18_b0, ↓K_seq, ↓K_cond, ↓K_block, ↓K_region, ↓K_skip, ↓K_exit, ↓K_ret, ↓K_wrap, ↓KA_nil, ↓KA_none, ↓KA_some, beq_int, bne_int, dec_eqN, dec_ltN, dec_leN, stepOp, St.rd, St.raw, St.set, St.took, get_cons, V.down, C.down, Env.keep, binV, unV, arith, isShift, strs, intOf, optInt, wrapEnd, keptAt, andK, endOf, frzV, frz1, frzC, frzCs, frz1s, resOf, resOne, resAll, V.closed, V.closed1, C.closed, B.closed, Ob.closed, V.cells, partsIn, rep, chunk, datas, C.data, rowsOf, getCells, put_nil, put_zero, put_succ, mayWrite, C.plain, eqV_bool, eqV_agg, eqV_pnn, eqV_pnp, eqV_ppn, eqV_mnn, eqV_mmn, eqV_snn, eqV_sen, eqV_san, eqV_sdn, rs_len, rs_getE, rs_app, rs_take, rs_drop, rs_all, rs_each, row_len, ↓str_eq, str_nilP, str_nilE, str_nilB, vagg, row_Int, row_Bool, row_Str, k_Int, k_Bool, k_Str, snoc_Int, snoc_Bool, snoc_Str, row_Type, k_Type, snoc_Type, eta_Type, sames_Type, row_Field, k_Field, snoc_Field, eta_Field, sames_Field, row_Instr, k_Instr, snoc_Instr, eta_Instr, sames_Instr, row_Catch, k_Catch, snoc_Catch, eta_Catch, sames_Catch, row_Method, k_Method, snoc_Method, row_Class, k_Class, snoc_Class, row_Program, k_Program, snoc_Program, row_Slot, k_Slot, snoc_Slot, eta_Slot, sames_Slot, row_State, k_State, snoc_State, row_Val, k_Val, snoc_Val, eta_Val, sames_Val, row_Obj, k_Obj, snoc_Obj, row_Input, k_Input, snoc_Input, row_Frame, k_Frame, snoc_Frame, row_Run, k_Run, snoc_Run, row_Way, k_Way, snoc_Way, eta_Way, sames_Way, row_Task, k_Task, snoc_Task, eta_Task, sames_Task, hi, hj, hc, hw])
        (by show K fns _ f18_l0 _ k = _; rw [u18_l0]; simp [f18_b0, ↓K_seq, ↓K_cond, ↓K_block, ↓K_region, ↓K_skip, ↓K_exit, ↓K_ret, ↓K_wrap, ↓KA_nil, ↓KA_none, ↓KA_some, beq_int, bne_int, dec_eqN, dec_ltN, dec_leN, stepOp, St.rd, St.raw, St.set, St.took, get_cons, V.down, C.down, Env.keep, binV, unV, arith, isShift, strs, intOf, optInt, wrapEnd, keptAt, andK, endOf, frzV, frz1, frzC, frzCs, frz1s, resOf, resOne, resAll, V.closed, V.closed1, C.closed, B.closed, Ob.closed, V.cells, partsIn, rep, chunk, datas, C.data, rowsOf, getCells, put_nil, put_zero, put_succ, mayWrite, C.plain, eqV_bool, eqV_agg, eqV_pnn, eqV_pnp, eqV_ppn, eqV_mnn, eqV_mmn, eqV_snn, eqV_sen, eqV_san, eqV_sdn, rs_len, rs_getE, rs_app, rs_take, rs_drop, rs_all, rs_each, row_len, ↓str_eq, str_nilP, str_nilE, str_nilB, vagg, row_Int, row_Bool, row_Str, k_Int, k_Bool, k_Str, snoc_Int, snoc_Bool, snoc_Str, row_Type, k_Type, snoc_Type, eta_Type, sames_Type, row_Field, k_Field, snoc_Field, eta_Field, sames_Field, row_Instr, k_Instr, snoc_Instr, eta_Instr, sames_Instr, row_Catch, k_Catch, snoc_Catch, eta_Catch, sames_Catch, row_Method, k_Method, snoc_Method, row_Class, k_Class, snoc_Class, row_Program, k_Program, snoc_Program, row_Slot, k_Slot, snoc_Slot, eta_Slot, sames_Slot, row_State, k_State, snoc_State, row_Val, k_Val, snoc_Val, eta_Val, sames_Val, row_Obj, k_Obj, snoc_Obj, row_Input, k_Input, snoc_Input, row_Frame, k_Frame, snoc_Frame, row_Run, k_Run, snoc_Run, row_Way, k_Way, snoc_Way, eta_Way, sames_Way, row_Task, k_Task, snoc_Task, eta_Task, sames_Task, hl])
    simp [KF, params, f18, ↓K_seq, ↓K_cond, ↓K_block, ↓K_region, ↓K_skip, ↓K_exit, ↓K_ret, ↓K_wrap, ↓KA_nil, ↓KA_none, ↓KA_some, beq_int, bne_int, dec_eqN, dec_ltN, dec_leN, stepOp, St.rd, St.raw, St.set, St.took, get_cons, V.down, C.down, Env.keep, binV, unV, arith, isShift, strs, intOf, optInt, wrapEnd, keptAt, andK, endOf, frzV, frz1, frzC, frzCs, frz1s, resOf, resOne, resAll, V.closed, V.closed1, C.closed, B.closed, Ob.closed, V.cells, partsIn, rep, chunk, datas, C.data, rowsOf, getCells, put_nil, put_zero, put_succ, mayWrite, C.plain, eqV_bool, eqV_agg, eqV_pnn, eqV_pnp, eqV_ppn, eqV_mnn, eqV_mmn, eqV_snn, eqV_sen, eqV_san, eqV_sdn, rs_len, rs_getE, rs_app, rs_take, rs_drop, rs_all, rs_each, row_len, ↓str_eq, str_nilP, str_nilE, str_nilB, vagg, row_Int, row_Bool, row_Str, k_Int, k_Bool, k_Str, snoc_Int, snoc_Bool, snoc_Str, row_Type, k_Type, snoc_Type, eta_Type, sames_Type, row_Field, k_Field, snoc_Field, eta_Field, sames_Field, row_Instr, k_Instr, snoc_Instr, eta_Instr, sames_Instr, row_Catch, k_Catch, snoc_Catch, eta_Catch, sames_Catch, row_Method, k_Method, snoc_Method, row_Class, k_Class, snoc_Class, row_Program, k_Program, snoc_Program, row_Slot, k_Slot, snoc_Slot, eta_Slot, sames_Slot, row_State, k_State, snoc_State, row_Val, k_Val, snoc_Val, eta_Val, sames_Val, row_Obj, k_Obj, snoc_Obj, row_Input, k_Input, snoc_Input, row_Frame, k_Frame, snoc_Frame, row_Run, k_Run, snoc_Run, row_Way, k_Way, snoc_Way, eta_Way, sames_Way, row_Task, k_Task, snoc_Task, eta_Task, sames_Task, hl, L]
    by_cases hab : a = b <;> simp [hab]
  · have hab : a ≠ b := fun h => hl (by rw [h])
    simp [KF, params, f18, ↓K_seq, ↓K_cond, ↓K_block, ↓K_region, ↓K_skip, ↓K_exit, ↓K_ret, ↓K_wrap, ↓KA_nil, ↓KA_none, ↓KA_some, beq_int, bne_int, dec_eqN, dec_ltN, dec_leN, stepOp, St.rd, St.raw, St.set, St.took, get_cons, V.down, C.down, Env.keep, binV, unV, arith, isShift, strs, intOf, optInt, wrapEnd, keptAt, andK, endOf, frzV, frz1, frzC, frzCs, frz1s, resOf, resOne, resAll, V.closed, V.closed1, C.closed, B.closed, Ob.closed, V.cells, partsIn, rep, chunk, datas, C.data, rowsOf, getCells, put_nil, put_zero, put_succ, mayWrite, C.plain, eqV_bool, eqV_agg, eqV_pnn, eqV_pnp, eqV_ppn, eqV_mnn, eqV_mmn, eqV_snn, eqV_sen, eqV_san, eqV_sdn, rs_len, rs_getE, rs_app, rs_take, rs_drop, rs_all, rs_each, row_len, ↓str_eq, str_nilP, str_nilE, str_nilB, vagg, row_Int, row_Bool, row_Str, k_Int, k_Bool, k_Str, snoc_Int, snoc_Bool, snoc_Str, row_Type, k_Type, snoc_Type, eta_Type, sames_Type, row_Field, k_Field, snoc_Field, eta_Field, sames_Field, row_Instr, k_Instr, snoc_Instr, eta_Instr, sames_Instr, row_Catch, k_Catch, snoc_Catch, eta_Catch, sames_Catch, row_Method, k_Method, snoc_Method, row_Class, k_Class, snoc_Class, row_Program, k_Program, snoc_Program, row_Slot, k_Slot, snoc_Slot, eta_Slot, sames_Slot, row_State, k_State, snoc_State, row_Val, k_Val, snoc_Val, eta_Val, sames_Val, row_Obj, k_Obj, snoc_Obj, row_Input, k_Input, snoc_Input, row_Frame, k_Frame, snoc_Frame, row_Run, k_Run, snoc_Run, row_Way, k_Way, snoc_Way, eta_Way, sames_Way, row_Task, k_Task, snoc_Task, eta_Task, sames_Task, hl, hab]

def p0 : GProgram := ⟨[cls (⟨#[65]⟩ : ByteArray) ⟨#[]⟩, cls (⟨#[66]⟩ : ByteArray) (⟨#[65]⟩ : ByteArray)]⟩
def p1 : GProgram := ⟨[cls sError ⟨#[]⟩]⟩
theorem ok0 : OkP p0 := okP (by decide)
theorem ok1 : OkP p1 := okP (by decide)
theorem c0a : hierP p0 = 0 := by kernel_rfl
theorem c0b : supP p0 (⟨#[65]⟩ : ByteArray) = sObject := by kernel_rfl
theorem c0c : kindsP p0 (⟨#[65]⟩ : ByteArray) = [(⟨#[65]⟩ : ByteArray), (⟨#[66]⟩ : ByteArray)] := by kernel_rfl
theorem c0d : underP p0 sNullError sError = true := by kernel_rfl
theorem c0e : underP p0 (⟨#[65]⟩ : ByteArray) (⟨#[66]⟩ : ByteArray) = false := by kernel_rfl
theorem c1a : hierP p1 = 6 := by kernel_rfl
theorem c0f : (allL p0).length = 10 := rfl

theorem fn_wakes (σ : List Ob) (lo tr : Nat) : Fn fns 10 [] σ lo tr = some (vbool true, σ) := by
  refine fn_gen t10 rfl (σ1 := []) rfl rfl ?_ σ lo tr
  have h1 : ∀ σ lo tr, Fn fns 9 [.agg [.b (.d (.sl [[.str (⟨#[65]⟩ : ByteArray), .bool false, .str ⟨#[]⟩, .sl [], .sl [], .sl []], [.str (⟨#[66]⟩ : ByteArray), .bool false, .str (⟨#[65]⟩ : ByteArray), .sl [], .sl [], .sl []]]))], vstr (⟨#[65]⟩ : ByteArray)] σ lo tr = some (.tup [vstr sObject, vbool true], σ) := fun σ lo tr => by
    have := fn_super_ p0 ok0 (⟨#[65]⟩ : ByteArray) σ lo tr
    rw [c0b] at this
    exact this
  have h2 : ∀ σ lo tr, Fn fns 17 [.agg [.b (.d (.sl [[.str (⟨#[65]⟩ : ByteArray), .bool false, .str ⟨#[]⟩, .sl [], .sl [], .sl []], [.str (⟨#[66]⟩ : ByteArray), .bool false, .str (⟨#[65]⟩ : ByteArray), .sl [], .sl [], .sl []]]))], vstr (⟨#[65]⟩ : ByteArray)] σ lo tr = some (.c (.osl 1 (rows [(⟨#[65]⟩ : ByteArray), (⟨#[66]⟩ : ByteArray)])), σ) := fun σ lo tr => by
    have := fn_kinds p0 ok0 (⟨#[65]⟩ : ByteArray) σ lo tr
    rw [c0c] at this
    exact this
  have h3 : ∀ σ lo tr, Fn fns 5 [.agg [.b (.d (.sl [[.str (⟨#[65]⟩ : ByteArray), .bool false, .str ⟨#[]⟩, .sl [], .sl [], .sl []], [.str (⟨#[66]⟩ : ByteArray), .bool false, .str (⟨#[65]⟩ : ByteArray), .sl [], .sl [], .sl []]]))]] σ lo tr = some (.c (.osl 6 (rows (allL p0))), σ) := fun σ lo tr => fn_all p0 ok0 σ lo tr
  have h4 : ∀ σ lo tr, Fn fns 7 [.agg [.b (.d (.sl [[.str (⟨#[65]⟩ : ByteArray), .bool false, .str ⟨#[]⟩, .sl [], .sl [], .sl []], [.str (⟨#[66]⟩ : ByteArray), .bool false, .str (⟨#[65]⟩ : ByteArray), .sl [], .sl [], .sl []]]))]] σ lo tr = some (vint 0, σ) := fun σ lo tr => by
    have := fn_check p0 ok0 σ lo tr
    rw [c0a] at this
    exact this
  have h5 : ∀ σ lo tr, Fn fns 8 [.agg [.b (.d (.sl [[.str (⟨#[65]⟩ : ByteArray), .bool false, .str ⟨#[]⟩, .sl [], .sl [], .sl []], [.str (⟨#[66]⟩ : ByteArray), .bool false, .str (⟨#[65]⟩ : ByteArray), .sl [], .sl [], .sl []]]))], vstr sNullError, vstr sError] σ lo tr = some (vbool true, σ) := fun σ lo tr => by
    have := fn_under p0 ok0 sNullError sError σ lo tr
    rw [c0d] at this
    exact this
  have h6 : ∀ σ lo tr, Fn fns 8 [.agg [.b (.d (.sl [[.str (⟨#[65]⟩ : ByteArray), .bool false, .str ⟨#[]⟩, .sl [], .sl [], .sl []], [.str (⟨#[66]⟩ : ByteArray), .bool false, .str (⟨#[65]⟩ : ByteArray), .sl [], .sl [], .sl []]]))], vstr (⟨#[65]⟩ : ByteArray), vstr (⟨#[66]⟩ : ByteArray)] σ lo tr = some (vbool false, σ) := fun σ lo tr => by
    have := fn_under p0 ok0 (⟨#[65]⟩ : ByteArray) (⟨#[66]⟩ : ByteArray) σ lo tr
    rw [c0e] at this
    exact this
  have h7 : ∀ σ lo tr, Fn fns 7 [.agg [.b (.d (.sl [[.str sError, .bool false, .str ⟨#[]⟩, .sl [], .sl [], .sl []]]))]] σ lo tr = some (vint 6, σ) := fun σ lo tr => by
    have := fn_check p1 ok1 σ lo tr
    rw [c1a] at this
    exact this
  have h8 : ∀ σ lo tr, Fn fns 18 [vsl [(⟨#[65]⟩ : ByteArray), (⟨#[66]⟩ : ByteArray)], vsl [(⟨#[65]⟩ : ByteArray), (⟨#[66]⟩ : ByteArray)]] σ lo tr = some (vbool true, σ) := fun σ lo tr => by
    have := fn_strings [(⟨#[65]⟩ : ByteArray), (⟨#[66]⟩ : ByteArray)] [(⟨#[65]⟩ : ByteArray), (⟨#[66]⟩ : ByteArray)] (by simp) σ lo tr
    simpa using this
  have hr : rows [(⟨#[65]⟩ : ByteArray), (⟨#[66]⟩ : ByteArray)] = [[D.str (⟨#[65]⟩ : ByteArray)], [D.str (⟨#[66]⟩ : ByteArray)]] := rfl
  have hl : (rows (allL p0)).length = 10 := by rw [rs_len]; rfl
  rw [hr] at h2
  simp only [vsl, hr] at h8
  simp [KF, params, f10, ↓K_seq, ↓K_cond, ↓K_block, ↓K_region, ↓K_skip, ↓K_exit, ↓K_ret, ↓K_wrap, ↓KA_nil, ↓KA_none, ↓KA_some, beq_int, bne_int, dec_eqN, dec_ltN, dec_leN, stepOp, St.rd, St.raw, St.set, St.took, get_cons, V.down, C.down, Env.keep, binV, unV, arith, isShift, strs, intOf, optInt, wrapEnd, keptAt, andK, endOf, frzV, frz1, frzC, frzCs, frz1s, resOf, resOne, resAll, V.closed, V.closed1, C.closed, B.closed, Ob.closed, V.cells, partsIn, rep, chunk, datas, C.data, rowsOf, getCells, put_nil, put_zero, put_succ, mayWrite, C.plain, eqV_bool, eqV_agg, eqV_pnn, eqV_pnp, eqV_ppn, eqV_mnn, eqV_mmn, eqV_snn, eqV_sen, eqV_san, eqV_sdn, rs_len, rs_getE, rs_app, rs_take, rs_drop, rs_all, rs_each, row_len, ↓str_eq, str_nilP, str_nilE, str_nilB, vagg, row_Int, row_Bool, row_Str, k_Int, k_Bool, k_Str, snoc_Int, snoc_Bool, snoc_Str, row_Type, k_Type, snoc_Type, eta_Type, sames_Type, row_Field, k_Field, snoc_Field, eta_Field, sames_Field, row_Instr, k_Instr, snoc_Instr, eta_Instr, sames_Instr, row_Catch, k_Catch, snoc_Catch, eta_Catch, sames_Catch, row_Method, k_Method, snoc_Method, row_Class, k_Class, snoc_Class, row_Program, k_Program, snoc_Program, row_Slot, k_Slot, snoc_Slot, eta_Slot, sames_Slot, row_State, k_State, snoc_State, row_Val, k_Val, snoc_Val, eta_Val, sames_Val, row_Obj, k_Obj, snoc_Obj, row_Input, k_Input, snoc_Input, row_Frame, k_Frame, snoc_Frame, row_Run, k_Run, snoc_Run, row_Way, k_Way, snoc_Way, eta_Way, sames_Way, row_Task, k_Task, snoc_Task, eta_Task, sames_Task, h1, h2, h3, h4, h5, h6, h7, h8, c0f]

/-- A place among m things. -/
theorem pick_ix (n : Int) {m : Nat} (h0 : 0 < m) (hm : m ≤ 1000000) : IntKind.u64.wrap (m : Int) = (m : Int) ∧ ∃ k : Nat, k < m ∧ IntKind.i64.wrap ((IntKind.u64.wrap n).tmod (m : Int)) = (k : Int) := by
  have g0 : 0 ≤ IntKind.u64.wrap n := by simp [IntKind.wrap, IntKind.signed, IntKind.bits]; omega
  have h1 : (IntKind.u64.wrap n).tmod (m : Int) = (IntKind.u64.wrap n) % (m : Int) := Int.tmod_eq_emod_of_nonneg g0
  have h2 : 0 ≤ (IntKind.u64.wrap n) % (m : Int) := Int.emod_nonneg _ (by omega)
  have h3 : (IntKind.u64.wrap n) % (m : Int) < (m : Int) := Int.emod_lt_of_pos _ (by omega)
  refine ⟨?_, ((IntKind.u64.wrap n) % (m : Int)).toNat, by omega, ?_⟩
  · simp [IntKind.wrap, IntKind.signed, IntKind.bits]; omega
  · rw [h1, wrap_nat (by omega) (by omega)]; omega

end Go.Proofs.YthahhonmkhafkaaDoor.Am
