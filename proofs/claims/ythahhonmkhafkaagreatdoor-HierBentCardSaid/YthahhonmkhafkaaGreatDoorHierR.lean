/- The laws' own check; the law HierOrder. Written by wip/tools/hr.py. -/
import Derived.Test.YthahhonmkhafkaaGreatDoorHierQ
import Derived.Test.YthahhonmkhafkaaGreatDoorMachF
namespace Go.Proofs.YthahhonmkhafkaaGreatDoor.Am
set_option linter.unusedSimpArgs false
set_option linter.unusedVariables false
set_option linter.unusedSectionVars false
open Go
--let HV delverlaw02.Heavy
--let HI delverref04.Hier
--let NA delverlaw04.names
--let KS delverkeep.Strings
--let WA delverlaw04.wakes
--let HO delverlaw04.HierOrder
--let HS hier.Super
--let HK hier.Kinds
--let HA hier.All
--let HC hier.Check
--let HU hier.Under

theorem fn_strings (a b : List ByteArray) (hs : a.length ≤ 1000000) (σ : List Ob) (lo tr : Nat) : Fn fns 14 [vsl a, vsl b] σ lo tr = some (vbool (decide (a = b)), σ) := by
  refine fn_gen t14 rfl (σ1 := []) rfl rfl ?_ σ lo tr
  by_cases hl : a.length = b.length
  · have L : ∀ k : AExit → St → Option (V × List Ob), K fns ⟨0,0⟩ f14_l0 ⟨[(0, vsl a), (1, vsl b), (5, vint 0)], []⟩ k = if a = b then k (.exit 0) ⟨[], []⟩ else k .ret ⟨[(4, vbool false)], []⟩ := fun k =>
      scan_eq hl (X := fun i => K fns ⟨0,0⟩ f14_l0 ⟨[(0, vsl a), (1, vsl b), (5, vint i)], []⟩ k)
        (fun i hi hj => by
          have hw := wrap_succ (i := i) (by omega)
          show K fns _ f14_l0 _ k = _
          rw [u14_l0]
          by_cases hc : a[i] = b[i] <;> simp [f14_b0, ↓K_seq, ↓K_cond, ↓K_block, ↓K_region, ↓K_skip, ↓K_exit, ↓K_ret, ↓K_wrap, ↓KA_nil, ↓KA_none, ↓KA_some, beq_int, bne_int, dec_eqN, dec_ltN, dec_leN, stepOp, St.rd, St.raw, St.set, St.took, get_cons, V.down, C.down, Env.keep, binV, unV, arith, isShift, strs, intOf, optInt, wrapEnd, keptAt, andK, endOf, frzV, frz1, frzC, frzCs, frz1s, resOf, resOne, resAll, V.closed, V.closed1, C.closed, B.closed, Ob.closed, V.cells, partsIn, rep, chunk, datas, C.data, rowsOf, getCells, put_nil, put_zero, put_succ, mayWrite, C.plain, eqV_bool, eqV_agg, eqV_pnn, eqV_pnp, eqV_ppn, eqV_mnn, eqV_mmn, eqV_snn, eqV_sen, eqV_san, eqV_sdn, rs_len, rs_getE, rs_app, rs_take, rs_drop, rs_all, rs_each, row_len, ↓str_eq, str_nilP, str_nilE, str_nilB, vagg, row_Int, row_Bool, row_Str, k_Int, k_Bool, k_Str, snoc_Int, snoc_Bool, snoc_Str, row_Type, k_Type, snoc_Type, eta_Type, sames_Type, row_Field, k_Field, snoc_Field, eta_Field, sames_Field, row_Instr, k_Instr, snoc_Instr, eta_Instr, sames_Instr, row_Catch, k_Catch, snoc_Catch, eta_Catch, sames_Catch, row_Method, k_Method, snoc_Method, row_Class, k_Class, snoc_Class, row_Program, k_Program, snoc_Program, row_Slot, k_Slot, snoc_Slot, eta_Slot, sames_Slot, row_State, k_State, snoc_State, row_Val, k_Val, snoc_Val, eta_Val, sames_Val, row_Obj, k_Obj, snoc_Obj, row_Input, k_Input, snoc_Input, row_Frame, k_Frame, snoc_Frame, row_Run, k_Run, snoc_Run, row_Way, k_Way, snoc_Way, eta_Way, sames_Way, row_Task, k_Task, snoc_Task, eta_Task, sames_Task, hi, hj, hc, hw])
        (by show K fns _ f14_l0 _ k = _; rw [u14_l0]; simp [f14_b0, ↓K_seq, ↓K_cond, ↓K_block, ↓K_region, ↓K_skip, ↓K_exit, ↓K_ret, ↓K_wrap, ↓KA_nil, ↓KA_none, ↓KA_some, beq_int, bne_int, dec_eqN, dec_ltN, dec_leN, stepOp, St.rd, St.raw, St.set, St.took, get_cons, V.down, C.down, Env.keep, binV, unV, arith, isShift, strs, intOf, optInt, wrapEnd, keptAt, andK, endOf, frzV, frz1, frzC, frzCs, frz1s, resOf, resOne, resAll, V.closed, V.closed1, C.closed, B.closed, Ob.closed, V.cells, partsIn, rep, chunk, datas, C.data, rowsOf, getCells, put_nil, put_zero, put_succ, mayWrite, C.plain, eqV_bool, eqV_agg, eqV_pnn, eqV_pnp, eqV_ppn, eqV_mnn, eqV_mmn, eqV_snn, eqV_sen, eqV_san, eqV_sdn, rs_len, rs_getE, rs_app, rs_take, rs_drop, rs_all, rs_each, row_len, ↓str_eq, str_nilP, str_nilE, str_nilB, vagg, row_Int, row_Bool, row_Str, k_Int, k_Bool, k_Str, snoc_Int, snoc_Bool, snoc_Str, row_Type, k_Type, snoc_Type, eta_Type, sames_Type, row_Field, k_Field, snoc_Field, eta_Field, sames_Field, row_Instr, k_Instr, snoc_Instr, eta_Instr, sames_Instr, row_Catch, k_Catch, snoc_Catch, eta_Catch, sames_Catch, row_Method, k_Method, snoc_Method, row_Class, k_Class, snoc_Class, row_Program, k_Program, snoc_Program, row_Slot, k_Slot, snoc_Slot, eta_Slot, sames_Slot, row_State, k_State, snoc_State, row_Val, k_Val, snoc_Val, eta_Val, sames_Val, row_Obj, k_Obj, snoc_Obj, row_Input, k_Input, snoc_Input, row_Frame, k_Frame, snoc_Frame, row_Run, k_Run, snoc_Run, row_Way, k_Way, snoc_Way, eta_Way, sames_Way, row_Task, k_Task, snoc_Task, eta_Task, sames_Task, hl])
    simp [KF, params, f14, ↓K_seq, ↓K_cond, ↓K_block, ↓K_region, ↓K_skip, ↓K_exit, ↓K_ret, ↓K_wrap, ↓KA_nil, ↓KA_none, ↓KA_some, beq_int, bne_int, dec_eqN, dec_ltN, dec_leN, stepOp, St.rd, St.raw, St.set, St.took, get_cons, V.down, C.down, Env.keep, binV, unV, arith, isShift, strs, intOf, optInt, wrapEnd, keptAt, andK, endOf, frzV, frz1, frzC, frzCs, frz1s, resOf, resOne, resAll, V.closed, V.closed1, C.closed, B.closed, Ob.closed, V.cells, partsIn, rep, chunk, datas, C.data, rowsOf, getCells, put_nil, put_zero, put_succ, mayWrite, C.plain, eqV_bool, eqV_agg, eqV_pnn, eqV_pnp, eqV_ppn, eqV_mnn, eqV_mmn, eqV_snn, eqV_sen, eqV_san, eqV_sdn, rs_len, rs_getE, rs_app, rs_take, rs_drop, rs_all, rs_each, row_len, ↓str_eq, str_nilP, str_nilE, str_nilB, vagg, row_Int, row_Bool, row_Str, k_Int, k_Bool, k_Str, snoc_Int, snoc_Bool, snoc_Str, row_Type, k_Type, snoc_Type, eta_Type, sames_Type, row_Field, k_Field, snoc_Field, eta_Field, sames_Field, row_Instr, k_Instr, snoc_Instr, eta_Instr, sames_Instr, row_Catch, k_Catch, snoc_Catch, eta_Catch, sames_Catch, row_Method, k_Method, snoc_Method, row_Class, k_Class, snoc_Class, row_Program, k_Program, snoc_Program, row_Slot, k_Slot, snoc_Slot, eta_Slot, sames_Slot, row_State, k_State, snoc_State, row_Val, k_Val, snoc_Val, eta_Val, sames_Val, row_Obj, k_Obj, snoc_Obj, row_Input, k_Input, snoc_Input, row_Frame, k_Frame, snoc_Frame, row_Run, k_Run, snoc_Run, row_Way, k_Way, snoc_Way, eta_Way, sames_Way, row_Task, k_Task, snoc_Task, eta_Task, sames_Task, hl, L]
    by_cases hab : a = b <;> simp [hab]
  · have hab : a ≠ b := fun h => hl (by rw [h])
    simp [KF, params, f14, ↓K_seq, ↓K_cond, ↓K_block, ↓K_region, ↓K_skip, ↓K_exit, ↓K_ret, ↓K_wrap, ↓KA_nil, ↓KA_none, ↓KA_some, beq_int, bne_int, dec_eqN, dec_ltN, dec_leN, stepOp, St.rd, St.raw, St.set, St.took, get_cons, V.down, C.down, Env.keep, binV, unV, arith, isShift, strs, intOf, optInt, wrapEnd, keptAt, andK, endOf, frzV, frz1, frzC, frzCs, frz1s, resOf, resOne, resAll, V.closed, V.closed1, C.closed, B.closed, Ob.closed, V.cells, partsIn, rep, chunk, datas, C.data, rowsOf, getCells, put_nil, put_zero, put_succ, mayWrite, C.plain, eqV_bool, eqV_agg, eqV_pnn, eqV_pnp, eqV_ppn, eqV_mnn, eqV_mmn, eqV_snn, eqV_sen, eqV_san, eqV_sdn, rs_len, rs_getE, rs_app, rs_take, rs_drop, rs_all, rs_each, row_len, ↓str_eq, str_nilP, str_nilE, str_nilB, vagg, row_Int, row_Bool, row_Str, k_Int, k_Bool, k_Str, snoc_Int, snoc_Bool, snoc_Str, row_Type, k_Type, snoc_Type, eta_Type, sames_Type, row_Field, k_Field, snoc_Field, eta_Field, sames_Field, row_Instr, k_Instr, snoc_Instr, eta_Instr, sames_Instr, row_Catch, k_Catch, snoc_Catch, eta_Catch, sames_Catch, row_Method, k_Method, snoc_Method, row_Class, k_Class, snoc_Class, row_Program, k_Program, snoc_Program, row_Slot, k_Slot, snoc_Slot, eta_Slot, sames_Slot, row_State, k_State, snoc_State, row_Val, k_Val, snoc_Val, eta_Val, sames_Val, row_Obj, k_Obj, snoc_Obj, row_Input, k_Input, snoc_Input, row_Frame, k_Frame, snoc_Frame, row_Run, k_Run, snoc_Run, row_Way, k_Way, snoc_Way, eta_Way, sames_Way, row_Task, k_Task, snoc_Task, eta_Task, sames_Task, hl, hab]

def p0 : GProgram := ⟨[cls (⟨#[65]⟩ : ByteArray) ⟨#[]⟩, cls (⟨#[66]⟩ : ByteArray) (⟨#[65]⟩ : ByteArray)]⟩
def p1 : GProgram := ⟨[cls sError ⟨#[]⟩]⟩
theorem ok0 : OkP p0 := okP (by decide)
theorem ok1 : OkP p1 := okP (by decide)
theorem c0a : hierP p0 = 0 := by kernel_rfl
theorem c0b : supP p0 (⟨#[65]⟩ : ByteArray) = sObject := by kernel_rfl
theorem c0c : kindsP p0 (⟨#[65]⟩ : ByteArray) = [(⟨#[65]⟩ : ByteArray), (⟨#[66]⟩ : ByteArray)] := by kernel_rfl
theorem c0d : underP p0 sNullError sError = true := by kernel_rfl
theorem c0e : underP p0 (⟨#[65]⟩ : ByteArray) (⟨#[66]⟩ : ByteArray) = false := by kernel_rfl
theorem c1a : hierP p1 = 6 := by kernel_rfl
theorem c0f : (allL p0).length = 10 := rfl

theorem fn_wakes (σ : List Ob) (lo tr : Nat) : Fn fns 13 [] σ lo tr = some (vbool true, σ) := by
  refine fn_gen t13 rfl (σ1 := []) rfl rfl ?_ σ lo tr
  have h1 : ∀ σ lo tr, Fn fns 20 [.agg [.b (.d (.sl [[.str (⟨#[65]⟩ : ByteArray), .bool false, .str ⟨#[]⟩, .sl [], .sl [], .sl []], [.str (⟨#[66]⟩ : ByteArray), .bool false, .str (⟨#[65]⟩ : ByteArray), .sl [], .sl [], .sl []]]))], vstr (⟨#[65]⟩ : ByteArray)] σ lo tr = some (.tup [vstr sObject, vbool true], σ) := fun σ lo tr => by
    have := fn_super_ p0 ok0 (⟨#[65]⟩ : ByteArray) σ lo tr
    rw [c0b] at this
    exact this
  have h2 : ∀ σ lo tr, Fn fns 15 [.agg [.b (.d (.sl [[.str (⟨#[65]⟩ : ByteArray), .bool false, .str ⟨#[]⟩, .sl [], .sl [], .sl []], [.str (⟨#[66]⟩ : ByteArray), .bool false, .str (⟨#[65]⟩ : ByteArray), .sl [], .sl [], .sl []]]))], vstr (⟨#[65]⟩ : ByteArray)] σ lo tr = some (.c (.osl 1 (rows [(⟨#[65]⟩ : ByteArray), (⟨#[66]⟩ : ByteArray)])), σ) := fun σ lo tr => by
    have := fn_kinds p0 ok0 (⟨#[65]⟩ : ByteArray) σ lo tr
    rw [c0c] at this
    exact this
  have h3 : ∀ σ lo tr, Fn fns 22 [.agg [.b (.d (.sl [[.str (⟨#[65]⟩ : ByteArray), .bool false, .str ⟨#[]⟩, .sl [], .sl [], .sl []], [.str (⟨#[66]⟩ : ByteArray), .bool false, .str (⟨#[65]⟩ : ByteArray), .sl [], .sl [], .sl []]]))]] σ lo tr = some (.c (.osl 6 (rows (allL p0))), σ) := fun σ lo tr => fn_all p0 ok0 σ lo tr
  have h4 : ∀ σ lo tr, Fn fns 18 [.agg [.b (.d (.sl [[.str (⟨#[65]⟩ : ByteArray), .bool false, .str ⟨#[]⟩, .sl [], .sl [], .sl []], [.str (⟨#[66]⟩ : ByteArray), .bool false, .str (⟨#[65]⟩ : ByteArray), .sl [], .sl [], .sl []]]))]] σ lo tr = some (vint 0, σ) := fun σ lo tr => by
    have := fn_check p0 ok0 σ lo tr
    rw [c0a] at this
    exact this
  have h5 : ∀ σ lo tr, Fn fns 12 [.agg [.b (.d (.sl [[.str (⟨#[65]⟩ : ByteArray), .bool false, .str ⟨#[]⟩, .sl [], .sl [], .sl []], [.str (⟨#[66]⟩ : ByteArray), .bool false, .str (⟨#[65]⟩ : ByteArray), .sl [], .sl [], .sl []]]))], vstr sNullError, vstr sError] σ lo tr = some (vbool true, σ) := fun σ lo tr => by
    have := fn_under p0 ok0 sNullError sError σ lo tr
    rw [c0d] at this
    exact this
  have h6 : ∀ σ lo tr, Fn fns 12 [.agg [.b (.d (.sl [[.str (⟨#[65]⟩ : ByteArray), .bool false, .str ⟨#[]⟩, .sl [], .sl [], .sl []], [.str (⟨#[66]⟩ : ByteArray), .bool false, .str (⟨#[65]⟩ : ByteArray), .sl [], .sl [], .sl []]]))], vstr (⟨#[65]⟩ : ByteArray), vstr (⟨#[66]⟩ : ByteArray)] σ lo tr = some (vbool false, σ) := fun σ lo tr => by
    have := fn_under p0 ok0 (⟨#[65]⟩ : ByteArray) (⟨#[66]⟩ : ByteArray) σ lo tr
    rw [c0e] at this
    exact this
  have h7 : ∀ σ lo tr, Fn fns 18 [.agg [.b (.d (.sl [[.str sError, .bool false, .str ⟨#[]⟩, .sl [], .sl [], .sl []]]))]] σ lo tr = some (vint 6, σ) := fun σ lo tr => by
    have := fn_check p1 ok1 σ lo tr
    rw [c1a] at this
    exact this
  have h8 : ∀ σ lo tr, Fn fns 14 [vsl [(⟨#[65]⟩ : ByteArray), (⟨#[66]⟩ : ByteArray)], vsl [(⟨#[65]⟩ : ByteArray), (⟨#[66]⟩ : ByteArray)]] σ lo tr = some (vbool true, σ) := fun σ lo tr => by
    have := fn_strings [(⟨#[65]⟩ : ByteArray), (⟨#[66]⟩ : ByteArray)] [(⟨#[65]⟩ : ByteArray), (⟨#[66]⟩ : ByteArray)] (by simp) σ lo tr
    simpa using this
  have hr : rows [(⟨#[65]⟩ : ByteArray), (⟨#[66]⟩ : ByteArray)] = [[D.str (⟨#[65]⟩ : ByteArray)], [D.str (⟨#[66]⟩ : ByteArray)]] := rfl
  have hl : (rows (allL p0)).length = 10 := by rw [rs_len]; rfl
  rw [hr] at h2
  simp only [vsl, hr] at h8
  simp [KF, params, f13, ↓K_seq, ↓K_cond, ↓K_block, ↓K_region, ↓K_skip, ↓K_exit, ↓K_ret, ↓K_wrap, ↓KA_nil, ↓KA_none, ↓KA_some, beq_int, bne_int, dec_eqN, dec_ltN, dec_leN, stepOp, St.rd, St.raw, St.set, St.took, get_cons, V.down, C.down, Env.keep, binV, unV, arith, isShift, strs, intOf, optInt, wrapEnd, keptAt, andK, endOf, frzV, frz1, frzC, frzCs, frz1s, resOf, resOne, resAll, V.closed, V.closed1, C.closed, B.closed, Ob.closed, V.cells, partsIn, rep, chunk, datas, C.data, rowsOf, getCells, put_nil, put_zero, put_succ, mayWrite, C.plain, eqV_bool, eqV_agg, eqV_pnn, eqV_pnp, eqV_ppn, eqV_mnn, eqV_mmn, eqV_snn, eqV_sen, eqV_san, eqV_sdn, rs_len, rs_getE, rs_app, rs_take, rs_drop, rs_all, rs_each, row_len, ↓str_eq, str_nilP, str_nilE, str_nilB, vagg, row_Int, row_Bool, row_Str, k_Int, k_Bool, k_Str, snoc_Int, snoc_Bool, snoc_Str, row_Type, k_Type, snoc_Type, eta_Type, sames_Type, row_Field, k_Field, snoc_Field, eta_Field, sames_Field, row_Instr, k_Instr, snoc_Instr, eta_Instr, sames_Instr, row_Catch, k_Catch, snoc_Catch, eta_Catch, sames_Catch, row_Method, k_Method, snoc_Method, row_Class, k_Class, snoc_Class, row_Program, k_Program, snoc_Program, row_Slot, k_Slot, snoc_Slot, eta_Slot, sames_Slot, row_State, k_State, snoc_State, row_Val, k_Val, snoc_Val, eta_Val, sames_Val, row_Obj, k_Obj, snoc_Obj, row_Input, k_Input, snoc_Input, row_Frame, k_Frame, snoc_Frame, row_Run, k_Run, snoc_Run, row_Way, k_Way, snoc_Way, eta_Way, sames_Way, row_Task, k_Task, snoc_Task, eta_Task, sames_Task, h1, h2, h3, h4, h5, h6, h7, h8, c0f]

/-- A place among m things. -/
theorem pick_ix (n : Int) {m : Nat} (h0 : 0 < m) (hm : m ≤ 1000000) : IntKind.u64.wrap (m : Int) = (m : Int) ∧ ∃ k : Nat, k < m ∧ IntKind.i64.wrap ((IntKind.u64.wrap n).tmod (m : Int)) = (k : Int) := by
  have g0 : 0 ≤ IntKind.u64.wrap n := by simp [IntKind.wrap, IntKind.signed, IntKind.bits]; omega
  have h1 : (IntKind.u64.wrap n).tmod (m : Int) = (IntKind.u64.wrap n) % (m : Int) := Int.tmod_eq_emod_of_nonneg g0
  have h2 : 0 ≤ (IntKind.u64.wrap n) % (m : Int) := Int.emod_nonneg _ (by omega)
  have h3 : (IntKind.u64.wrap n) % (m : Int) < (m : Int) := Int.emod_lt_of_pos _ (by omega)
  refine ⟨?_, ((IntKind.u64.wrap n) % (m : Int)).toNat, by omega, ?_⟩
  · simp [IntKind.wrap, IntKind.signed, IntKind.bits]; omega
  · rw [h1, wrap_nat (by omega) (by omega)]; omega

set_option maxRecDepth 100000 in
set_option maxHeartbeats 8000000 in
theorem fn_order (p : GProgram) (a b c : Int) (σ : List Ob) (lo tr : Nat) : Fn fns 3 [vProgram p, vint a, vint b, vint c] σ lo tr = some (vbool true, σ) := by
  refine fn_gen t3 rfl (σ1 := []) rfl rfl ?_ σ lo tr
  cases hv : heavy p
  case true => simp [KF, params, f3, ↓K_seq, ↓K_cond, ↓K_block, ↓K_region, ↓K_skip, ↓K_exit, ↓K_ret, ↓K_wrap, ↓KA_nil, ↓KA_none, ↓KA_some, beq_int, bne_int, dec_eqN, dec_ltN, dec_leN, stepOp, St.rd, St.raw, St.set, St.took, get_cons, V.down, C.down, Env.keep, binV, unV, arith, isShift, strs, intOf, optInt, wrapEnd, keptAt, andK, endOf, frzV, frz1, frzC, frzCs, frz1s, resOf, resOne, resAll, V.closed, V.closed1, C.closed, B.closed, Ob.closed, V.cells, partsIn, rep, chunk, datas, C.data, rowsOf, getCells, put_nil, put_zero, put_succ, mayWrite, C.plain, eqV_bool, eqV_agg, eqV_pnn, eqV_pnp, eqV_ppn, eqV_mnn, eqV_mmn, eqV_snn, eqV_sen, eqV_san, eqV_sdn, rs_len, rs_getE, rs_app, rs_take, rs_drop, rs_all, rs_each, row_len, ↓str_eq, str_nilP, str_nilE, str_nilB, vagg, row_Int, row_Bool, row_Str, k_Int, k_Bool, k_Str, snoc_Int, snoc_Bool, snoc_Str, row_Type, k_Type, snoc_Type, eta_Type, sames_Type, row_Field, k_Field, snoc_Field, eta_Field, sames_Field, row_Instr, k_Instr, snoc_Instr, eta_Instr, sames_Instr, row_Catch, k_Catch, snoc_Catch, eta_Catch, sames_Catch, row_Method, k_Method, snoc_Method, row_Class, k_Class, snoc_Class, row_Program, k_Program, snoc_Program, row_Slot, k_Slot, snoc_Slot, eta_Slot, sames_Slot, row_State, k_State, snoc_State, row_Val, k_Val, snoc_Val, eta_Val, sames_Val, row_Obj, k_Obj, snoc_Obj, row_Input, k_Input, snoc_Input, row_Frame, k_Frame, snoc_Frame, row_Run, k_Run, snoc_Run, row_Way, k_Way, snoc_Way, eta_Way, sames_Way, row_Task, k_Task, snoc_Task, eta_Task, sames_Task, fn_heavy, hv]
  have hp := okP hv
  have hh := fn_hier p hp
  by_cases hE : hierE p = 0
  case neg => simp [KF, params, f3, ↓K_seq, ↓K_cond, ↓K_block, ↓K_region, ↓K_skip, ↓K_exit, ↓K_ret, ↓K_wrap, ↓KA_nil, ↓KA_none, ↓KA_some, beq_int, bne_int, dec_eqN, dec_ltN, dec_leN, stepOp, St.rd, St.raw, St.set, St.took, get_cons, V.down, C.down, Env.keep, binV, unV, arith, isShift, strs, intOf, optInt, wrapEnd, keptAt, andK, endOf, frzV, frz1, frzC, frzCs, frz1s, resOf, resOne, resAll, V.closed, V.closed1, C.closed, B.closed, Ob.closed, V.cells, partsIn, rep, chunk, datas, C.data, rowsOf, getCells, put_nil, put_zero, put_succ, mayWrite, C.plain, eqV_bool, eqV_agg, eqV_pnn, eqV_pnp, eqV_ppn, eqV_mnn, eqV_mmn, eqV_snn, eqV_sen, eqV_san, eqV_sdn, rs_len, rs_getE, rs_app, rs_take, rs_drop, rs_all, rs_each, row_len, ↓str_eq, str_nilP, str_nilE, str_nilB, vagg, row_Int, row_Bool, row_Str, k_Int, k_Bool, k_Str, snoc_Int, snoc_Bool, snoc_Str, row_Type, k_Type, snoc_Type, eta_Type, sames_Type, row_Field, k_Field, snoc_Field, eta_Field, sames_Field, row_Instr, k_Instr, snoc_Instr, eta_Instr, sames_Instr, row_Catch, k_Catch, snoc_Catch, eta_Catch, sames_Catch, row_Method, k_Method, snoc_Method, row_Class, k_Class, snoc_Class, row_Program, k_Program, snoc_Program, row_Slot, k_Slot, snoc_Slot, eta_Slot, sames_Slot, row_State, k_State, snoc_State, row_Val, k_Val, snoc_Val, eta_Val, sames_Val, row_Obj, k_Obj, snoc_Obj, row_Input, k_Input, snoc_Input, row_Frame, k_Frame, snoc_Frame, row_Run, k_Run, snoc_Run, row_Way, k_Way, snoc_Way, eta_Way, sames_Way, row_Task, k_Task, snoc_Task, eta_Task, sames_Task, fn_heavy, hv, hh, hE]
  have hP : hierP p = 0 := by rw [hier_eq hp]; exact hE
  rw [hE] at hh
  have hn := fn_names p hp
  have hL := all_len hp
  have hnl : (namesL p).length = (allL p).length := by simp [namesL]
  have h0 : 0 < (namesL p).length := by rw [hnl]; simp [allL, baseL]
  have hin : ∀ i (h : i < (namesL p).length), (namesL p)[i] ∈ namesOf (allL p) := fun i h => List.getElem_mem h
  obtain ⟨w1, kx, kx1, kx2⟩ := pick_ix a h0 (by omega)
  obtain ⟨_, ky, ky1, ky2⟩ := pick_ix b h0 (by omega)
  obtain ⟨_, kz, kz1, kz2⟩ := pick_ix c h0 (by omega)
  have hx := hin kx kx1
  have hy := hin ky ky1
  have hz := hin kz kz1
  have hne : ¬ ((namesL p).length : Int) = 0 := by omega
  have hne' : ¬ (namesL p).length = 0 := by omega
  have hne2 : ¬ namesL p = [] := fun h => by rw [h] at h0; simp at h0
  have u1 := under_refl hp hP hx
  have u2 := under_object hp hP hx
  have hu := fn_under p hp
  have t1 := fun (h1 : underP p (namesL p)[kx] (namesL p)[ky] = true) (h2 : underP p (namesL p)[ky] (namesL p)[kz] = true) => under_trans hp hP h1 h2
  have t2 := fun (h1 : underP p (namesL p)[kx] (namesL p)[ky] = true) (h2 : underP p (namesL p)[ky] (namesL p)[kx] = true) => under_anti hp hP h1 h2
  generalize namesL p = nl at *
  obtain ⟨x, gx⟩ : ∃ x, nl[kx] = x := ⟨_, rfl⟩
  obtain ⟨y, gy⟩ : ∃ y, nl[ky] = y := ⟨_, rfl⟩
  obtain ⟨z, gz⟩ : ∃ z, nl[kz] = z := ⟨_, rfl⟩
  rw [gx] at u1 u2
  rw [gx, gy, gz] at t1
  rw [gx, gy] at t2
  clear hin hx hy hz hL hP hnl
  by_cases e : x = y
  · subst e
    cases c2 : underP p x z <;> simp (maxSteps := 2000000) [KF, params, f3, ↓K_seq, ↓K_cond, ↓K_block, ↓K_region, ↓K_skip, ↓K_exit, ↓K_ret, ↓K_wrap, ↓KA_nil, ↓KA_none, ↓KA_some, beq_int, bne_int, dec_eqN, dec_ltN, dec_leN, stepOp, St.rd, St.raw, St.set, St.took, get_cons, V.down, C.down, Env.keep, binV, unV, arith, isShift, strs, intOf, optInt, wrapEnd, keptAt, andK, endOf, frzV, frz1, frzC, frzCs, frz1s, resOf, resOne, resAll, V.closed, V.closed1, C.closed, B.closed, Ob.closed, V.cells, partsIn, rep, chunk, datas, C.data, rowsOf, getCells, put_nil, put_zero, put_succ, mayWrite, C.plain, eqV_bool, eqV_agg, eqV_pnn, eqV_pnp, eqV_ppn, eqV_mnn, eqV_mmn, eqV_snn, eqV_sen, eqV_san, eqV_sdn, rs_len, rs_getE, rs_app, rs_take, rs_drop, rs_all, rs_each, row_len, ↓str_eq, str_nilP, str_nilE, str_nilB, vagg, row_Int, row_Bool, row_Str, k_Int, k_Bool, k_Str, snoc_Int, snoc_Bool, snoc_Str, row_Type, k_Type, snoc_Type, eta_Type, sames_Type, row_Field, k_Field, snoc_Field, eta_Field, sames_Field, row_Instr, k_Instr, snoc_Instr, eta_Instr, sames_Instr, row_Catch, k_Catch, snoc_Catch, eta_Catch, sames_Catch, row_Method, k_Method, snoc_Method, row_Class, k_Class, snoc_Class, row_Program, k_Program, snoc_Program, row_Slot, k_Slot, snoc_Slot, eta_Slot, sames_Slot, row_State, k_State, snoc_State, row_Val, k_Val, snoc_Val, eta_Val, sames_Val, row_Obj, k_Obj, snoc_Obj, row_Input, k_Input, snoc_Input, row_Frame, k_Frame, snoc_Frame, row_Run, k_Run, snoc_Run, row_Way, k_Way, snoc_Way, eta_Way, sames_Way, row_Task, k_Task, snoc_Task, eta_Task, sames_Task, fn_heavy, hv, hh, hn, hne, hne', hne2, w1, kx1, ky1, kz1, kx2, ky2, kz2, gx, gy, gz, hu, u1, u2, fn_wakes, c2]
  · cases c1 : underP p x y
    · simp (maxSteps := 2000000) [KF, params, f3, ↓K_seq, ↓K_cond, ↓K_block, ↓K_region, ↓K_skip, ↓K_exit, ↓K_ret, ↓K_wrap, ↓KA_nil, ↓KA_none, ↓KA_some, beq_int, bne_int, dec_eqN, dec_ltN, dec_leN, stepOp, St.rd, St.raw, St.set, St.took, get_cons, V.down, C.down, Env.keep, binV, unV, arith, isShift, strs, intOf, optInt, wrapEnd, keptAt, andK, endOf, frzV, frz1, frzC, frzCs, frz1s, resOf, resOne, resAll, V.closed, V.closed1, C.closed, B.closed, Ob.closed, V.cells, partsIn, rep, chunk, datas, C.data, rowsOf, getCells, put_nil, put_zero, put_succ, mayWrite, C.plain, eqV_bool, eqV_agg, eqV_pnn, eqV_pnp, eqV_ppn, eqV_mnn, eqV_mmn, eqV_snn, eqV_sen, eqV_san, eqV_sdn, rs_len, rs_getE, rs_app, rs_take, rs_drop, rs_all, rs_each, row_len, ↓str_eq, str_nilP, str_nilE, str_nilB, vagg, row_Int, row_Bool, row_Str, k_Int, k_Bool, k_Str, snoc_Int, snoc_Bool, snoc_Str, row_Type, k_Type, snoc_Type, eta_Type, sames_Type, row_Field, k_Field, snoc_Field, eta_Field, sames_Field, row_Instr, k_Instr, snoc_Instr, eta_Instr, sames_Instr, row_Catch, k_Catch, snoc_Catch, eta_Catch, sames_Catch, row_Method, k_Method, snoc_Method, row_Class, k_Class, snoc_Class, row_Program, k_Program, snoc_Program, row_Slot, k_Slot, snoc_Slot, eta_Slot, sames_Slot, row_State, k_State, snoc_State, row_Val, k_Val, snoc_Val, eta_Val, sames_Val, row_Obj, k_Obj, snoc_Obj, row_Input, k_Input, snoc_Input, row_Frame, k_Frame, snoc_Frame, row_Run, k_Run, snoc_Run, row_Way, k_Way, snoc_Way, eta_Way, sames_Way, row_Task, k_Task, snoc_Task, eta_Task, sames_Task, fn_heavy, hv, hh, hn, hne, hne', hne2, w1, kx1, ky1, kz1, kx2, ky2, kz2, gx, gy, gz, hu, u1, u2, fn_wakes, e, c1]
    · have c3 : underP p y x = false := by rw [Bool.eq_false_iff]; exact fun h => e (t2 c1 h)
      cases c2 : underP p y z
      · simp (maxSteps := 2000000) [KF, params, f3, ↓K_seq, ↓K_cond, ↓K_block, ↓K_region, ↓K_skip, ↓K_exit, ↓K_ret, ↓K_wrap, ↓KA_nil, ↓KA_none, ↓KA_some, beq_int, bne_int, dec_eqN, dec_ltN, dec_leN, stepOp, St.rd, St.raw, St.set, St.took, get_cons, V.down, C.down, Env.keep, binV, unV, arith, isShift, strs, intOf, optInt, wrapEnd, keptAt, andK, endOf, frzV, frz1, frzC, frzCs, frz1s, resOf, resOne, resAll, V.closed, V.closed1, C.closed, B.closed, Ob.closed, V.cells, partsIn, rep, chunk, datas, C.data, rowsOf, getCells, put_nil, put_zero, put_succ, mayWrite, C.plain, eqV_bool, eqV_agg, eqV_pnn, eqV_pnp, eqV_ppn, eqV_mnn, eqV_mmn, eqV_snn, eqV_sen, eqV_san, eqV_sdn, rs_len, rs_getE, rs_app, rs_take, rs_drop, rs_all, rs_each, row_len, ↓str_eq, str_nilP, str_nilE, str_nilB, vagg, row_Int, row_Bool, row_Str, k_Int, k_Bool, k_Str, snoc_Int, snoc_Bool, snoc_Str, row_Type, k_Type, snoc_Type, eta_Type, sames_Type, row_Field, k_Field, snoc_Field, eta_Field, sames_Field, row_Instr, k_Instr, snoc_Instr, eta_Instr, sames_Instr, row_Catch, k_Catch, snoc_Catch, eta_Catch, sames_Catch, row_Method, k_Method, snoc_Method, row_Class, k_Class, snoc_Class, row_Program, k_Program, snoc_Program, row_Slot, k_Slot, snoc_Slot, eta_Slot, sames_Slot, row_State, k_State, snoc_State, row_Val, k_Val, snoc_Val, eta_Val, sames_Val, row_Obj, k_Obj, snoc_Obj, row_Input, k_Input, snoc_Input, row_Frame, k_Frame, snoc_Frame, row_Run, k_Run, snoc_Run, row_Way, k_Way, snoc_Way, eta_Way, sames_Way, row_Task, k_Task, snoc_Task, eta_Task, sames_Task, fn_heavy, hv, hh, hn, hne, hne', hne2, w1, kx1, ky1, kz1, kx2, ky2, kz2, gx, gy, gz, hu, u1, u2, fn_wakes, e, c1, c2, c3]
      · have c4 := t1 c1 c2
        simp (maxSteps := 2000000) [KF, params, f3, ↓K_seq, ↓K_cond, ↓K_block, ↓K_region, ↓K_skip, ↓K_exit, ↓K_ret, ↓K_wrap, ↓KA_nil, ↓KA_none, ↓KA_some, beq_int, bne_int, dec_eqN, dec_ltN, dec_leN, stepOp, St.rd, St.raw, St.set, St.took, get_cons, V.down, C.down, Env.keep, binV, unV, arith, isShift, strs, intOf, optInt, wrapEnd, keptAt, andK, endOf, frzV, frz1, frzC, frzCs, frz1s, resOf, resOne, resAll, V.closed, V.closed1, C.closed, B.closed, Ob.closed, V.cells, partsIn, rep, chunk, datas, C.data, rowsOf, getCells, put_nil, put_zero, put_succ, mayWrite, C.plain, eqV_bool, eqV_agg, eqV_pnn, eqV_pnp, eqV_ppn, eqV_mnn, eqV_mmn, eqV_snn, eqV_sen, eqV_san, eqV_sdn, rs_len, rs_getE, rs_app, rs_take, rs_drop, rs_all, rs_each, row_len, ↓str_eq, str_nilP, str_nilE, str_nilB, vagg, row_Int, row_Bool, row_Str, k_Int, k_Bool, k_Str, snoc_Int, snoc_Bool, snoc_Str, row_Type, k_Type, snoc_Type, eta_Type, sames_Type, row_Field, k_Field, snoc_Field, eta_Field, sames_Field, row_Instr, k_Instr, snoc_Instr, eta_Instr, sames_Instr, row_Catch, k_Catch, snoc_Catch, eta_Catch, sames_Catch, row_Method, k_Method, snoc_Method, row_Class, k_Class, snoc_Class, row_Program, k_Program, snoc_Program, row_Slot, k_Slot, snoc_Slot, eta_Slot, sames_Slot, row_State, k_State, snoc_State, row_Val, k_Val, snoc_Val, eta_Val, sames_Val, row_Obj, k_Obj, snoc_Obj, row_Input, k_Input, snoc_Input, row_Frame, k_Frame, snoc_Frame, row_Run, k_Run, snoc_Run, row_Way, k_Way, snoc_Way, eta_Way, sames_Way, row_Task, k_Task, snoc_Task, eta_Task, sames_Task, fn_heavy, hv, hh, hn, hne, hne', hne2, w1, kx1, ky1, kz1, kx2, ky2, kz2, gx, gy, gz, hu, u1, u2, fn_wakes, e, c1, c2, c3, c4]
end Go.Proofs.YthahhonmkhafkaaGreatDoor.Am
