/- The law IsoExact, run. -/
import Derived.Test.YtjkhkblabhaimaaIsoK
namespace Go.Proofs.Ytjkhkblabhaimaa.Am
set_option linter.unusedSimpArgs false
set_option linter.unusedVariables false
open Go

theorem canon_slots_lt {h : List GObj} {r : List GVal} (H : Small h r) : ∀ o ∈ (canon h r).1, o.slots.length < 1000000000 := by
  intro o ho
  simp only [canon, List.mem_map] at ho
  obtain ⟨i, hi, rfl⟩ := ho
  have := order_in h r i hi
  obtain ⟨j, rfl⟩ : ∃ j : Nat, i = j := ⟨i.toNat, by omega⟩
  have hj : j < h.length := by omega
  have := H.slots _ (List.getElem_mem hj)
  simp [slotsAt_nat hj]; omega

def inCells (a : GInput) : Ob := .cells [.b (.d (.sl (rows a.args))), .b (.d (.sl (rows a.heap)))]

theorem not_heavy2 {x y : Bool} (h : ¬ (x || y) = true) : x = false ∧ y = false := by cases x <;> cases y <;> simp_all

set_option maxRecDepth 100000 in
set_option maxHeartbeats 8000000 in
theorem fn3 (a b : GInput) (σ : List Ob) (lo tr : Nat) : Fn fns 3 [vInput a, vInput b] σ lo tr = some (vbool true, σ) := by
  refine fn_gen t3 rfl (σ1 := []) rfl rfl ?_ σ lo tr
  have ha9 := fn9 a
  have hb9 := fn9 b
  by_cases hv : (heavy a || heavy b) = true
  · cases h1 : heavy a with
    | true => rw [h1] at ha9; simp [KF, params, f3, ↓K_seq, ↓K_cond, ↓K_block, ↓K_region, ↓K_skip, ↓K_exit, ↓K_ret, ↓K_wrap, ↓KA_nil, ↓KA_none, ↓KA_some, beq_int, bne_int, dec_eqN, dec_ltN, dec_leN, stepOp, St.rd, St.raw, St.set, St.took, get_cons, V.down, C.down, Env.keep, binV, unV, arith, isShift, strs, intOf, optInt, wrapEnd, keptAt, andK, endOf, frzV, frz1, frzC, frzCs, frz1s, resOf, resOne, resAll, V.closed, V.closed1, C.closed, B.closed, Ob.closed, V.cells, partsIn, rep, chunk, datas, C.data, rowsOf, getCells, put_nil, put_zero, put_succ, mayWrite, C.plain, eqV_bool, eqV_agg, eqV_pnn, eqV_pnp, eqV_ppn, eqV_mnn, eqV_mmn, eqV_snn, eqV_sen, eqV_san, eqV_sdn, rs_len, rs_getE, rs_app, rs_take, rs_drop, rs_all, rs_each, row_len, str_eq, vagg, row_Int, row_Bool, row_Str, k_Int, k_Bool, k_Str, snoc_Int, snoc_Bool, snoc_Str, row_Type, k_Type, snoc_Type, eta_Type, sames_Type, row_Field, k_Field, snoc_Field, eta_Field, sames_Field, row_Instr, k_Instr, snoc_Instr, eta_Instr, sames_Instr, row_Catch, k_Catch, snoc_Catch, eta_Catch, sames_Catch, row_Method, k_Method, snoc_Method, row_Class, k_Class, snoc_Class, row_Program, k_Program, snoc_Program, row_Slot, k_Slot, snoc_Slot, eta_Slot, sames_Slot, row_State, k_State, snoc_State, row_Val, k_Val, snoc_Val, eta_Val, sames_Val, row_Obj, k_Obj, snoc_Obj, row_Input, k_Input, snoc_Input, row_Frame, k_Frame, snoc_Frame, row_Run, k_Run, snoc_Run, row_Way, k_Way, snoc_Way, eta_Way, sames_Way, row_Task, k_Task, snoc_Task, eta_Task, sames_Task, ha9]
    | false =>
      rw [h1] at ha9
      have h2 : heavy b = true := by simpa [h1] using hv
      rw [h2] at hb9
      simp [KF, params, f3, ↓K_seq, ↓K_cond, ↓K_block, ↓K_region, ↓K_skip, ↓K_exit, ↓K_ret, ↓K_wrap, ↓KA_nil, ↓KA_none, ↓KA_some, beq_int, bne_int, dec_eqN, dec_ltN, dec_leN, stepOp, St.rd, St.raw, St.set, St.took, get_cons, V.down, C.down, Env.keep, binV, unV, arith, isShift, strs, intOf, optInt, wrapEnd, keptAt, andK, endOf, frzV, frz1, frzC, frzCs, frz1s, resOf, resOne, resAll, V.closed, V.closed1, C.closed, B.closed, Ob.closed, V.cells, partsIn, rep, chunk, datas, C.data, rowsOf, getCells, put_nil, put_zero, put_succ, mayWrite, C.plain, eqV_bool, eqV_agg, eqV_pnn, eqV_pnp, eqV_ppn, eqV_mnn, eqV_mmn, eqV_snn, eqV_sen, eqV_san, eqV_sdn, rs_len, rs_getE, rs_app, rs_take, rs_drop, rs_all, rs_each, row_len, str_eq, vagg, row_Int, row_Bool, row_Str, k_Int, k_Bool, k_Str, snoc_Int, snoc_Bool, snoc_Str, row_Type, k_Type, snoc_Type, eta_Type, sames_Type, row_Field, k_Field, snoc_Field, eta_Field, sames_Field, row_Instr, k_Instr, snoc_Instr, eta_Instr, sames_Instr, row_Catch, k_Catch, snoc_Catch, eta_Catch, sames_Catch, row_Method, k_Method, snoc_Method, row_Class, k_Class, snoc_Class, row_Program, k_Program, snoc_Program, row_Slot, k_Slot, snoc_Slot, eta_Slot, sames_Slot, row_State, k_State, snoc_State, row_Val, k_Val, snoc_Val, eta_Val, sames_Val, row_Obj, k_Obj, snoc_Obj, row_Input, k_Input, snoc_Input, row_Frame, k_Frame, snoc_Frame, row_Run, k_Run, snoc_Run, row_Way, k_Way, snoc_Way, eta_Way, sames_Way, row_Task, k_Task, snoc_Task, eta_Task, sames_Task, ha9, hb9]
  · obtain ⟨va, vb⟩ := not_heavy2 hv
    rw [va] at ha9; rw [vb] at hb9
    have la := light va; have lb := light vb
    have ha := la.args; have hb := lb.args
    have Ha := la.small (r := a.args) (by omega)
    have Hb := lb.small (r := b.args) (by omega)
    have hla := la.heap; have hlb := lb.heap
    have ta := fn10 a (by omega) (by omega) (fun o ho => by have := la.slots o ho; omega)
    have tb := fn10 b (by omega) (by omega) (fun o ho => by have := lb.slots o ho; omega)
    have sab := fn13 Ha Hb
    have pab := fn19 Ha Hb
    have o1 := fn15 Ha
    have o2 := fn16 Ha
    have o3 := fn14 (order a.heap a.args) (order a.heap a.args) (order_len Ha)
    rw [decide_eq_true rfl] at o3
    have pc := fn12 Ha
    have kr := fn18 (canon a.heap a.args).2 (canon a.heap a.args).2 (by simp [canon]; omega)
    rw [decide_eq_true rfl] at kr
    have wa := fn20 a a (by omega) (by omega) (fun o ho => by have := la.slots o ho; omega)
    have wb := fn20 b b (by omega) (by omega) (fun o ho => by have := lb.slots o ho; omega)
    rw [decide_eq_true rfl] at wa wb
    have hw21 := fn21
    obtain ⟨v, σ1, ps, g1, g2, g3, g4, g5, g6⟩ := fn11w Ha [inCells a, inCells b, inCells a, inCells b]
    have hpl : ps.length < 1000000000 := by
      have h1 := congrArg List.length g5
      have h2 := order_len Ha
      rw [List.length_map, canon_len] at h1
      omega
    have hpb : ∀ p ∈ ps, p.1.slots.length < 1000000000 := fun p hp => canon_slots_lt Ha _ (by rw [← g5]; exact List.mem_map_of_mem hp)
    have cmp := fn17w g1 hpl hpb (canon a.heap a.args).1
    rw [g5, decide_eq_true rfl] at cmp
    obtain ⟨σ2, q1, q2⟩ := loop3 g1 g2 hpl hpb
    have e0 : σ2[0]? = some (inCells a) := (q1 0 (by omega)).trans (g4 0 (by simp))
    have e1 : σ2[1]? = some (inCells b) := (q1 1 (by omega)).trans (g4 1 (by simp))
    have e2 : σ2[2]? = some (inCells a) := (q1 2 (by omega)).trans (g4 2 (by simp))
    have e3 : σ2[3]? = some (inCells b) := (q1 3 (by omega)).trans (g4 3 (by simp))
    have d0 : σ1[0]? = some (inCells a) := g4 0 (by simp)
    have d1 : σ1[1]? = some (inCells b) := g4 1 (by simp)
    have d2 : σ1[2]? = some (inCells a) := g4 2 (by simp)
    have d3 : σ1[3]? = some (inCells b) := g4 3 (by simp)
    simp only [inCells] at e0 e1 e2 e3 d0 d1 d2 d3 g6
    generalize decide (canon a.heap a.args = canon b.heap b.args) = x at *
    generalize canon a.heap a.args = q at *
    generalize order a.heap a.args = o at *
    have hx : ∀ y : Bool, (y == y) = true := fun y => by cases y <;> rfl
    rcases g1 with ⟨rfl, _⟩ | ⟨M, rfl, _⟩
    · simp [KF, params, f3, ↓K_seq, ↓K_cond, ↓K_block, ↓K_region, ↓K_skip, ↓K_exit, ↓K_ret, ↓K_wrap, ↓KA_nil, ↓KA_none, ↓KA_some, beq_int, bne_int, dec_eqN, dec_ltN, dec_leN, stepOp, St.rd, St.raw, St.set, St.took, get_cons, V.down, C.down, Env.keep, binV, unV, arith, isShift, strs, intOf, optInt, wrapEnd, keptAt, andK, endOf, frzV, frz1, frzC, frzCs, frz1s, resOf, resOne, resAll, V.closed, V.closed1, C.closed, B.closed, Ob.closed, V.cells, partsIn, rep, chunk, datas, C.data, rowsOf, getCells, put_nil, put_zero, put_succ, mayWrite, C.plain, eqV_bool, eqV_agg, eqV_pnn, eqV_pnp, eqV_ppn, eqV_mnn, eqV_mmn, eqV_snn, eqV_sen, eqV_san, eqV_sdn, rs_len, rs_getE, rs_app, rs_take, rs_drop, rs_all, rs_each, row_len, str_eq, vagg, row_Int, row_Bool, row_Str, k_Int, k_Bool, k_Str, snoc_Int, snoc_Bool, snoc_Str, row_Type, k_Type, snoc_Type, eta_Type, sames_Type, row_Field, k_Field, snoc_Field, eta_Field, sames_Field, row_Instr, k_Instr, snoc_Instr, eta_Instr, sames_Instr, row_Catch, k_Catch, snoc_Catch, eta_Catch, sames_Catch, row_Method, k_Method, snoc_Method, row_Class, k_Class, snoc_Class, row_Program, k_Program, snoc_Program, row_Slot, k_Slot, snoc_Slot, eta_Slot, sames_Slot, row_State, k_State, snoc_State, row_Val, k_Val, snoc_Val, eta_Val, sames_Val, row_Obj, k_Obj, snoc_Obj, row_Input, k_Input, snoc_Input, row_Frame, k_Frame, snoc_Frame, row_Run, k_Run, snoc_Run, row_Way, k_Way, snoc_Way, eta_Way, sames_Way, row_Task, k_Task, snoc_Task, eta_Task, sames_Task, ha9, hb9, ta, tb, sab, pab, o1, o2, o3, pc, kr, wa, wb, hw21, g6, cmp, q2, e0, e1, e2, e3, d0, d1, d2, d3, hx]
    · simp [KF, params, f3, ↓K_seq, ↓K_cond, ↓K_block, ↓K_region, ↓K_skip, ↓K_exit, ↓K_ret, ↓K_wrap, ↓KA_nil, ↓KA_none, ↓KA_some, beq_int, bne_int, dec_eqN, dec_ltN, dec_leN, stepOp, St.rd, St.raw, St.set, St.took, get_cons, V.down, C.down, Env.keep, binV, unV, arith, isShift, strs, intOf, optInt, wrapEnd, keptAt, andK, endOf, frzV, frz1, frzC, frzCs, frz1s, resOf, resOne, resAll, V.closed, V.closed1, C.closed, B.closed, Ob.closed, V.cells, partsIn, rep, chunk, datas, C.data, rowsOf, getCells, put_nil, put_zero, put_succ, mayWrite, C.plain, eqV_bool, eqV_agg, eqV_pnn, eqV_pnp, eqV_ppn, eqV_mnn, eqV_mmn, eqV_snn, eqV_sen, eqV_san, eqV_sdn, rs_len, rs_getE, rs_app, rs_take, rs_drop, rs_all, rs_each, row_len, str_eq, vagg, row_Int, row_Bool, row_Str, k_Int, k_Bool, k_Str, snoc_Int, snoc_Bool, snoc_Str, row_Type, k_Type, snoc_Type, eta_Type, sames_Type, row_Field, k_Field, snoc_Field, eta_Field, sames_Field, row_Instr, k_Instr, snoc_Instr, eta_Instr, sames_Instr, row_Catch, k_Catch, snoc_Catch, eta_Catch, sames_Catch, row_Method, k_Method, snoc_Method, row_Class, k_Class, snoc_Class, row_Program, k_Program, snoc_Program, row_Slot, k_Slot, snoc_Slot, eta_Slot, sames_Slot, row_State, k_State, snoc_State, row_Val, k_Val, snoc_Val, eta_Val, sames_Val, row_Obj, k_Obj, snoc_Obj, row_Input, k_Input, snoc_Input, row_Frame, k_Frame, snoc_Frame, row_Run, k_Run, snoc_Run, row_Way, k_Way, snoc_Way, eta_Way, sames_Way, row_Task, k_Task, snoc_Task, eta_Task, sames_Task, ha9, hb9, ta, tb, sab, pab, o1, o2, o3, pc, kr, wa, wb, hw21, g6, cmp, q2, e0, e1, e2, e3, d0, d1, d2, d3, hx]
end Go.Proofs.Ytjkhkblabhaimaa.Am
