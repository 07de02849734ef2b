/- The laws IsoRoots and IsoCanon, run. -/
import Derived.Test.YtjkhkblabhaimaaIsoE
namespace Go.Proofs.Ytjkhkblabhaimaa.Am
set_option linter.unusedSimpArgs false
set_option linter.unusedVariables false
open Go

def isT : Option (V × List Ob) → Bool
  | some (.c (.b (.d (.bool b))), []) => b
  | _ => false
theorem isT_eq {x : Option (V × List Ob)} (h : isT x = true) : x = some (vbool true, []) := by
  unfold isT at h
  split at h
  · subst h; rfl
  · cases h
theorem wakes_run : isT (evf fns 199 21 [] [] 0 0) = true := by kernel_rfl
theorem fn21 (σ : List Ob) (lo tr : Nat) : Fn fns 21 [] σ lo tr = some (vbool true, σ) := fn_run t21 rfl rfl (isT_eq wakes_run) σ lo tr

/-- What is played is small. -/
structure Lt (a : GInput) : Prop where
  args : a.args.length ≤ 20
  heap : a.heap.length ≤ 20
  slots : ∀ o ∈ a.heap, o.slots.length ≤ 80
theorem light {a : GInput} (h : heavy a = false) : Lt a := by
  simp only [heavy, Bool.or_eq_false_iff, decide_eq_false_iff_not, List.any_eq_false, big1, Bool.or_eq_true, decide_eq_true_eq, not_or] at h
  exact ⟨by omega, by omega, fun o ho => by have := (h.2 o ho).1; omega⟩
theorem Lt.small {a : GInput} (h : Lt a) {r : List GVal} (hr : r.length ≤ 60) : Small a.heap r :=
  Small.of (by have := h.heap; omega) (fun o ho => by have := h.slots o ho; omega) (by omega)

theorem below (n : Int) {m : Nat} (hm : m < 1000000) : IntKind.u64.wrap (IntKind.i64.wrap ((m : Int) + 1)) = (m : Int) + 1 ∧ ¬ ((m : Int) + 1 = 0) ∧ ∃ k : Nat, k ≤ m ∧ IntKind.i64.wrap ((IntKind.u64.wrap n).tmod ((m : Int) + 1)) = (k : Int) := by
  have h0 : 0 ≤ IntKind.u64.wrap n := by simp [IntKind.wrap, IntKind.signed, IntKind.bits]; omega
  have h1 : (IntKind.u64.wrap n).tmod ((m : Int) + 1) = (IntKind.u64.wrap n) % ((m : Int) + 1) := Int.tmod_eq_emod_of_nonneg h0
  have h2 : 0 ≤ (IntKind.u64.wrap n) % ((m : Int) + 1) := Int.emod_nonneg _ (by omega)
  have h3 : (IntKind.u64.wrap n) % ((m : Int) + 1) < (m : Int) + 1 := Int.emod_lt_of_pos _ (by omega)
  refine ⟨?_, by omega, ((IntKind.u64.wrap n) % ((m : Int) + 1)).toNat, by omega, ?_⟩
  · rw [wrap_nat (by omega) (by omega)]
    simp [IntKind.wrap, IntKind.signed, IntKind.bits]; omega
  · rw [h1, wrap_nat (by omega) (by omega)]; omega

theorem any_fold (x : Int) : ∀ (l : List Int) (c : Bool), l.foldl (fun c y => c || decide (x = y)) c = (c || decide (x ∈ l))
  | [], c => by simp
  | y :: l, c => by
    rw [List.foldl_cons, any_fold x l]
    by_cases h : x = y <;> simp [h]

theorem fn8 (a : GInput) (n : Int) (σ : List Ob) (lo tr : Nat) : Fn fns 8 [vInput a, vint n] σ lo tr = some (vbool true, σ) := by
  refine fn_gen t8 rfl (σ1 := []) rfl rfl ?_ σ lo tr
  have h9 := fn9 a
  cases hv : heavy a with
  | true =>
    rw [hv] at h9
    simp [KF, params, f8, ↓K_seq, ↓K_cond, ↓K_block, ↓K_region, ↓K_skip, ↓K_exit, ↓K_ret, ↓K_wrap, ↓KA_nil, ↓KA_none, ↓KA_some, beq_int, bne_int, dec_eqN, dec_ltN, dec_leN, stepOp, St.rd, St.raw, St.set, St.took, get_cons, V.down, C.down, Env.keep, binV, unV, arith, isShift, strs, intOf, optInt, wrapEnd, keptAt, andK, endOf, frzV, frz1, frzC, frzCs, frz1s, resOf, resOne, resAll, V.closed, V.closed1, C.closed, B.closed, Ob.closed, V.cells, partsIn, rep, chunk, datas, C.data, rowsOf, getCells, put_nil, put_zero, put_succ, mayWrite, C.plain, eqV_bool, eqV_agg, eqV_pnn, eqV_pnp, eqV_ppn, eqV_mnn, eqV_mmn, eqV_snn, eqV_sen, eqV_san, eqV_sdn, rs_len, rs_getE, rs_app, rs_take, rs_drop, rs_all, rs_each, row_len, str_eq, vagg, row_Int, row_Bool, row_Str, k_Int, k_Bool, k_Str, snoc_Int, snoc_Bool, snoc_Str, row_Type, k_Type, snoc_Type, eta_Type, sames_Type, row_Field, k_Field, snoc_Field, eta_Field, sames_Field, row_Instr, k_Instr, snoc_Instr, eta_Instr, sames_Instr, row_Catch, k_Catch, snoc_Catch, eta_Catch, sames_Catch, row_Method, k_Method, snoc_Method, row_Class, k_Class, snoc_Class, row_Program, k_Program, snoc_Program, row_Slot, k_Slot, snoc_Slot, eta_Slot, sames_Slot, row_State, k_State, snoc_State, row_Val, k_Val, snoc_Val, eta_Val, sames_Val, row_Obj, k_Obj, snoc_Obj, row_Input, k_Input, snoc_Input, row_Frame, k_Frame, snoc_Frame, row_Run, k_Run, snoc_Run, row_Way, k_Way, snoc_Way, eta_Way, sames_Way, row_Task, k_Task, snoc_Task, eta_Task, sames_Task, h9]
  | false =>
    rw [hv] at h9
    have hl := light hv
    have ha := hl.args
    obtain ⟨b1, b2, m, hm, b3⟩ := below n (m := a.args.length) (by omega)
    have o1 := fn15 (hl.small (r := a.args.take m) (by simp; omega))
    have o2 := fn15 (hl.small (r := a.args) (by omega))
    have o3 := fn15 (hl.small (r := a.args ++ a.args.take m) (by simp; omega))
    have o4 := fn15 (hl.small (r := []) (by simp))
    have tw := fn25 a.args (by omega)
    have q1 : order a.heap (a.args ++ a.args.take m) = order a.heap a.args := order_more fun v hv => List.mem_of_mem_take hv
    have q2 : order a.heap [] = [] := by rw [order_B, Bf_nil]
    have hb := order_len (hl.small (r := a.args) (by omega))
    have hs := order_len (hl.small (r := a.args.take m) (by simp; omega))
    have eq := fn14 (order a.heap a.args) (order a.heap a.args) (by omega)
    have hsub := order_take (h := a.heap) (r := a.args) m
    rw [q1] at o3
    rw [q2] at o4
    simp only [vsl, rs_nil] at o4
    generalize order a.heap (a.args.take m) = x at *
    generalize order a.heap a.args = y at *
    have hmle : (m : Int) ≤ a.args.length := by omega
    have L0 : ∀ (k : AExit → St → Option (V × List Ob)) (i : Nat) (hi : i < x.length), K fns ⟨0, 0⟩ f8_l0 ⟨[(1, vint m), (2, .c (.b (.ptr 0 0))), (5, vsl x), (6, vsl y), (7, vint i), (8, vbool false), (9, vint 0)], [.cells [.b (.d (.sl (rows a.args))), .b (.d (.sl (rows a.heap)))]]⟩ k =
        k (.exit 2) ⟨[(1, vint m), (2, .c (.b (.ptr 0 0))), (5, vsl x), (6, vsl y), (7, vint i), (8, vbool true)], [.cells [.b (.d (.sl (rows a.args))), .b (.d (.sl (rows a.heap)))]]⟩ := fun k i hi => by
      have := scan_fold (l := y) (f := fun c z => c || decide (x[i] = z)) (I := fun _ _ => True)
        (X := fun j c => K fns ⟨0, 0⟩ f8_l0 ⟨[(1, vint m), (2, .c (.b (.ptr 0 0))), (5, vsl x), (6, vsl y), (7, vint i), (8, vbool c), (9, vint j)], [.cells [.b (.d (.sl (rows a.args))), .b (.d (.sl (rows a.heap)))]]⟩ k)
        (e := fun c => k (.exit 2) ⟨[(1, vint m), (2, .c (.b (.ptr 0 0))), (5, vsl x), (6, vsl y), (7, vint i), (8, vbool c)], [.cells [.b (.d (.sl (rows a.args))), .b (.d (.sl (rows a.heap)))]]⟩)
        (fun j c hj _ => ⟨by
          have hw := wrap_succ (i := j) (by omega)
          show K fns _ f8_l0 _ k = _
          rw [u8_l0]
          cases c <;> simp [f8_b0, ↓K_seq, ↓K_cond, ↓K_block, ↓K_region, ↓K_skip, ↓K_exit, ↓K_ret, ↓K_wrap, ↓KA_nil, ↓KA_none, ↓KA_some, beq_int, bne_int, dec_eqN, dec_ltN, dec_leN, stepOp, St.rd, St.raw, St.set, St.took, get_cons, V.down, C.down, Env.keep, binV, unV, arith, isShift, strs, intOf, optInt, wrapEnd, keptAt, andK, endOf, frzV, frz1, frzC, frzCs, frz1s, resOf, resOne, resAll, V.closed, V.closed1, C.closed, B.closed, Ob.closed, V.cells, partsIn, rep, chunk, datas, C.data, rowsOf, getCells, put_nil, put_zero, put_succ, mayWrite, C.plain, eqV_bool, eqV_agg, eqV_pnn, eqV_pnp, eqV_ppn, eqV_mnn, eqV_mmn, eqV_snn, eqV_sen, eqV_san, eqV_sdn, rs_len, rs_getE, rs_app, rs_take, rs_drop, rs_all, rs_each, row_len, str_eq, vagg, row_Int, row_Bool, row_Str, k_Int, k_Bool, k_Str, snoc_Int, snoc_Bool, snoc_Str, row_Type, k_Type, snoc_Type, eta_Type, sames_Type, row_Field, k_Field, snoc_Field, eta_Field, sames_Field, row_Instr, k_Instr, snoc_Instr, eta_Instr, sames_Instr, row_Catch, k_Catch, snoc_Catch, eta_Catch, sames_Catch, row_Method, k_Method, snoc_Method, row_Class, k_Class, snoc_Class, row_Program, k_Program, snoc_Program, row_Slot, k_Slot, snoc_Slot, eta_Slot, sames_Slot, row_State, k_State, snoc_State, row_Val, k_Val, snoc_Val, eta_Val, sames_Val, row_Obj, k_Obj, snoc_Obj, row_Input, k_Input, snoc_Input, row_Frame, k_Frame, snoc_Frame, row_Run, k_Run, snoc_Run, row_Way, k_Way, snoc_Way, eta_Way, sames_Way, row_Task, k_Task, snoc_Task, eta_Task, sames_Task, hi, hj, hw], trivial⟩)
        (fun c _ => by
          show K fns _ f8_l0 _ k = _
          rw [u8_l0]
          simp [f8_b0, ↓K_seq, ↓K_cond, ↓K_block, ↓K_region, ↓K_skip, ↓K_exit, ↓K_ret, ↓K_wrap, ↓KA_nil, ↓KA_none, ↓KA_some, beq_int, bne_int, dec_eqN, dec_ltN, dec_leN, stepOp, St.rd, St.raw, St.set, St.took, get_cons, V.down, C.down, Env.keep, binV, unV, arith, isShift, strs, intOf, optInt, wrapEnd, keptAt, andK, endOf, frzV, frz1, frzC, frzCs, frz1s, resOf, resOne, resAll, V.closed, V.closed1, C.closed, B.closed, Ob.closed, V.cells, partsIn, rep, chunk, datas, C.data, rowsOf, getCells, put_nil, put_zero, put_succ, mayWrite, C.plain, eqV_bool, eqV_agg, eqV_pnn, eqV_pnp, eqV_ppn, eqV_mnn, eqV_mmn, eqV_snn, eqV_sen, eqV_san, eqV_sdn, rs_len, rs_getE, rs_app, rs_take, rs_drop, rs_all, rs_each, row_len, str_eq, vagg, row_Int, row_Bool, row_Str, k_Int, k_Bool, k_Str, snoc_Int, snoc_Bool, snoc_Str, row_Type, k_Type, snoc_Type, eta_Type, sames_Type, row_Field, k_Field, snoc_Field, eta_Field, sames_Field, row_Instr, k_Instr, snoc_Instr, eta_Instr, sames_Instr, row_Catch, k_Catch, snoc_Catch, eta_Catch, sames_Catch, row_Method, k_Method, snoc_Method, row_Class, k_Class, snoc_Class, row_Program, k_Program, snoc_Program, row_Slot, k_Slot, snoc_Slot, eta_Slot, sames_Slot, row_State, k_State, snoc_State, row_Val, k_Val, snoc_Val, eta_Val, sames_Val, row_Obj, k_Obj, snoc_Obj, row_Input, k_Input, snoc_Input, row_Frame, k_Frame, snoc_Frame, row_Run, k_Run, snoc_Run, row_Way, k_Way, snoc_Way, eta_Way, sames_Way, row_Task, k_Task, snoc_Task, eta_Task, sames_Task]) (c := false) trivial
      rw [any_fold, decide_eq_true (hsub _ (List.getElem_mem hi))] at this
      exact this
    have L1 : ∀ (k : AExit → St → Option (V × List Ob)), K fns ⟨0, 0⟩ f8_l1 ⟨[(1, vint m), (2, .c (.b (.ptr 0 0))), (5, vsl x), (6, vsl y), (7, vint 0)], [.cells [.b (.d (.sl (rows a.args))), .b (.d (.sl (rows a.heap)))]]⟩ k =
        k (.exit 0) ⟨[(1, vint m), (2, .c (.b (.ptr 0 0))), (6, vsl y)], [.cells [.b (.d (.sl (rows a.args))), .b (.d (.sl (rows a.heap)))]]⟩ := fun k => by
      have := scan_on (n := x.length) (X := fun i => K fns ⟨0, 0⟩ f8_l1 ⟨[(1, vint m), (2, .c (.b (.ptr 0 0))), (5, vsl x), (6, vsl y), (7, vint i)], [.cells [.b (.d (.sl (rows a.args))), .b (.d (.sl (rows a.heap)))]]⟩ k)
        (fun i hi => by
          have hw := wrap_succ (i := i) (by omega)
          show K fns _ f8_l1 _ k = _
          rw [u8_l1]
          simp [f8_b1, ↓K_seq, ↓K_cond, ↓K_block, ↓K_region, ↓K_skip, ↓K_exit, ↓K_ret, ↓K_wrap, ↓KA_nil, ↓KA_none, ↓KA_some, beq_int, bne_int, dec_eqN, dec_ltN, dec_leN, stepOp, St.rd, St.raw, St.set, St.took, get_cons, V.down, C.down, Env.keep, binV, unV, arith, isShift, strs, intOf, optInt, wrapEnd, keptAt, andK, endOf, frzV, frz1, frzC, frzCs, frz1s, resOf, resOne, resAll, V.closed, V.closed1, C.closed, B.closed, Ob.closed, V.cells, partsIn, rep, chunk, datas, C.data, rowsOf, getCells, put_nil, put_zero, put_succ, mayWrite, C.plain, eqV_bool, eqV_agg, eqV_pnn, eqV_pnp, eqV_ppn, eqV_mnn, eqV_mmn, eqV_snn, eqV_sen, eqV_san, eqV_sdn, rs_len, rs_getE, rs_app, rs_take, rs_drop, rs_all, rs_each, row_len, str_eq, vagg, row_Int, row_Bool, row_Str, k_Int, k_Bool, k_Str, snoc_Int, snoc_Bool, snoc_Str, row_Type, k_Type, snoc_Type, eta_Type, sames_Type, row_Field, k_Field, snoc_Field, eta_Field, sames_Field, row_Instr, k_Instr, snoc_Instr, eta_Instr, sames_Instr, row_Catch, k_Catch, snoc_Catch, eta_Catch, sames_Catch, row_Method, k_Method, snoc_Method, row_Class, k_Class, snoc_Class, row_Program, k_Program, snoc_Program, row_Slot, k_Slot, snoc_Slot, eta_Slot, sames_Slot, row_State, k_State, snoc_State, row_Val, k_Val, snoc_Val, eta_Val, sames_Val, row_Obj, k_Obj, snoc_Obj, row_Input, k_Input, snoc_Input, row_Frame, k_Frame, snoc_Frame, row_Run, k_Run, snoc_Run, row_Way, k_Way, snoc_Way, eta_Way, sames_Way, row_Task, k_Task, snoc_Task, eta_Task, sames_Task, hi, hw, L0 _ i hi])
      refine this.trans ?_
      rw [u8_l1]
      simp [f8_b1, ↓K_seq, ↓K_cond, ↓K_block, ↓K_region, ↓K_skip, ↓K_exit, ↓K_ret, ↓K_wrap, ↓KA_nil, ↓KA_none, ↓KA_some, beq_int, bne_int, dec_eqN, dec_ltN, dec_leN, stepOp, St.rd, St.raw, St.set, St.took, get_cons, V.down, C.down, Env.keep, binV, unV, arith, isShift, strs, intOf, optInt, wrapEnd, keptAt, andK, endOf, frzV, frz1, frzC, frzCs, frz1s, resOf, resOne, resAll, V.closed, V.closed1, C.closed, B.closed, Ob.closed, V.cells, partsIn, rep, chunk, datas, C.data, rowsOf, getCells, put_nil, put_zero, put_succ, mayWrite, C.plain, eqV_bool, eqV_agg, eqV_pnn, eqV_pnp, eqV_ppn, eqV_mnn, eqV_mmn, eqV_snn, eqV_sen, eqV_san, eqV_sdn, rs_len, rs_getE, rs_app, rs_take, rs_drop, rs_all, rs_each, row_len, str_eq, vagg, row_Int, row_Bool, row_Str, k_Int, k_Bool, k_Str, snoc_Int, snoc_Bool, snoc_Str, row_Type, k_Type, snoc_Type, eta_Type, sames_Type, row_Field, k_Field, snoc_Field, eta_Field, sames_Field, row_Instr, k_Instr, snoc_Instr, eta_Instr, sames_Instr, row_Catch, k_Catch, snoc_Catch, eta_Catch, sames_Catch, row_Method, k_Method, snoc_Method, row_Class, k_Class, snoc_Class, row_Program, k_Program, snoc_Program, row_Slot, k_Slot, snoc_Slot, eta_Slot, sames_Slot, row_State, k_State, snoc_State, row_Val, k_Val, snoc_Val, eta_Val, sames_Val, row_Obj, k_Obj, snoc_Obj, row_Input, k_Input, snoc_Input, row_Frame, k_Frame, snoc_Frame, row_Run, k_Run, snoc_Run, row_Way, k_Way, snoc_Way, eta_Way, sames_Way, row_Task, k_Task, snoc_Task, eta_Task, sames_Task]
    have hw21 := fn21
    have hle : m ≤ a.args.length := hm
    have q3 : a.args.length + m ≤ 70368744177664 := by omega
    have q4 : (a.args.length + m) * 16 ≤ 70368744177664 := by omega
    simp [KF, params, f8, ↓K_seq, ↓K_cond, ↓K_block, ↓K_region, ↓K_skip, ↓K_exit, ↓K_ret, ↓K_wrap, ↓KA_nil, ↓KA_none, ↓KA_some, beq_int, bne_int, dec_eqN, dec_ltN, dec_leN, stepOp, St.rd, St.raw, St.set, St.took, get_cons, V.down, C.down, Env.keep, binV, unV, arith, isShift, strs, intOf, optInt, wrapEnd, keptAt, andK, endOf, frzV, frz1, frzC, frzCs, frz1s, resOf, resOne, resAll, V.closed, V.closed1, C.closed, B.closed, Ob.closed, V.cells, partsIn, rep, chunk, datas, C.data, rowsOf, getCells, put_nil, put_zero, put_succ, mayWrite, C.plain, eqV_bool, eqV_agg, eqV_pnn, eqV_pnp, eqV_ppn, eqV_mnn, eqV_mmn, eqV_snn, eqV_sen, eqV_san, eqV_sdn, rs_len, rs_getE, rs_app, rs_take, rs_drop, rs_all, rs_each, row_len, str_eq, vagg, row_Int, row_Bool, row_Str, k_Int, k_Bool, k_Str, snoc_Int, snoc_Bool, snoc_Str, row_Type, k_Type, snoc_Type, eta_Type, sames_Type, row_Field, k_Field, snoc_Field, eta_Field, sames_Field, row_Instr, k_Instr, snoc_Instr, eta_Instr, sames_Instr, row_Catch, k_Catch, snoc_Catch, eta_Catch, sames_Catch, row_Method, k_Method, snoc_Method, row_Class, k_Class, snoc_Class, row_Program, k_Program, snoc_Program, row_Slot, k_Slot, snoc_Slot, eta_Slot, sames_Slot, row_State, k_State, snoc_State, row_Val, k_Val, snoc_Val, eta_Val, sames_Val, row_Obj, k_Obj, snoc_Obj, row_Input, k_Input, snoc_Input, row_Frame, k_Frame, snoc_Frame, row_Run, k_Run, snoc_Run, row_Way, k_Way, snoc_Way, eta_Way, sames_Way, row_Task, k_Task, snoc_Task, eta_Task, sames_Task, h9, b1, b2, b3, hmle, hle, o1, o2, L1, tw, q3, q4, o3, o4, eq, hw21]

set_option maxRecDepth 100000 in
set_option maxHeartbeats 8000000 in
theorem fn5 (a : GInput) (σ : List Ob) (lo tr : Nat) : Fn fns 5 [vInput a] σ lo tr = some (vbool true, σ) := by
  refine fn_gen t5 rfl (σ1 := []) rfl rfl ?_ σ lo tr
  have h9 := fn9 a
  cases hv : heavy a with
  | true =>
    rw [hv] at h9
    simp [KF, params, f5, ↓K_seq, ↓K_cond, ↓K_block, ↓K_region, ↓K_skip, ↓K_exit, ↓K_ret, ↓K_wrap, ↓KA_nil, ↓KA_none, ↓KA_some, beq_int, bne_int, dec_eqN, dec_ltN, dec_leN, stepOp, St.rd, St.raw, St.set, St.took, get_cons, V.down, C.down, Env.keep, binV, unV, arith, isShift, strs, intOf, optInt, wrapEnd, keptAt, andK, endOf, frzV, frz1, frzC, frzCs, frz1s, resOf, resOne, resAll, V.closed, V.closed1, C.closed, B.closed, Ob.closed, V.cells, partsIn, rep, chunk, datas, C.data, rowsOf, getCells, put_nil, put_zero, put_succ, mayWrite, C.plain, eqV_bool, eqV_agg, eqV_pnn, eqV_pnp, eqV_ppn, eqV_mnn, eqV_mmn, eqV_snn, eqV_sen, eqV_san, eqV_sdn, rs_len, rs_getE, rs_app, rs_take, rs_drop, rs_all, rs_each, row_len, str_eq, vagg, row_Int, row_Bool, row_Str, k_Int, k_Bool, k_Str, snoc_Int, snoc_Bool, snoc_Str, row_Type, k_Type, snoc_Type, eta_Type, sames_Type, row_Field, k_Field, snoc_Field, eta_Field, sames_Field, row_Instr, k_Instr, snoc_Instr, eta_Instr, sames_Instr, row_Catch, k_Catch, snoc_Catch, eta_Catch, sames_Catch, row_Method, k_Method, snoc_Method, row_Class, k_Class, snoc_Class, row_Program, k_Program, snoc_Program, row_Slot, k_Slot, snoc_Slot, eta_Slot, sames_Slot, row_State, k_State, snoc_State, row_Val, k_Val, snoc_Val, eta_Val, sames_Val, row_Obj, k_Obj, snoc_Obj, row_Input, k_Input, snoc_Input, row_Frame, k_Frame, snoc_Frame, row_Run, k_Run, snoc_Run, row_Way, k_Way, snoc_Way, eta_Way, sames_Way, row_Task, k_Task, snoc_Task, eta_Task, sames_Task, h9]
  | false =>
    rw [hv] at h9
    have hl := light hv
    have ha := hl.args
    have H := hl.small (r := a.args) (by omega)
    have H' := canon_small H
    have c1 := fn11 H
    have c2 := fn11 H'
    rw [canon_canon] at c2
    have o1 := fn15 H
    have hlen := canon_len a.heap a.args
    have hr : (canon a.heap a.args).2.length = a.args.length := by simp [canon]
    have hs := order_len H
    have e1 := fn17 (canon a.heap a.args).1 (canon a.heap a.args).1 (by omega) (fun o ho => by have := H'.slots o ho; omega)
    have e2 := fn18 (canon a.heap a.args).2 (canon a.heap a.args).2 (by omega)
    have e3 := fn13 H H'
    rw [canon_canon] at e3
    have hin := order_in a.heap a.args
    have hnd := order_nodup a.heap a.args
    have hget : ∀ (i : Nat) (h1 : i < (canon a.heap a.args).1.length) (h2 : i < (order a.heap a.args).length), (canon a.heap a.args).1[i] = ⟨((a.heap[((order a.heap a.args)[i]).toNat]?).getD default).type_, (slotsAt a.heap (order a.heap a.args)[i]).map (ren (order a.heap a.args))⟩ := fun i h1 h2 => canon_get h1 h2
    generalize hg : (canon a.heap a.args).1 = g at *
    generalize (canon a.heap a.args).2 = r at *
    generalize ren (order a.heap a.args) = rn at *
    generalize order a.heap a.args = x at *
    have L0 : ∀ (k : AExit → St → Option (V × List Ob)) (i : Nat) (hi : i < x.length), K fns ⟨0, 0⟩ f5_l0 ⟨[(1, .c (.b (.ptr 0 0))), (3, vsl g), (7, vsl x), (8, vint i), (9, vint 0)], [.cells [.b (.d (.sl (rows a.args))), .b (.d (.sl (rows a.heap)))]]⟩ k =
        k (.exit 2) ⟨[(1, .c (.b (.ptr 0 0))), (3, vsl g), (7, vsl x), (8, vint i)], [.cells [.b (.d (.sl (rows a.args))), .b (.d (.sl (rows a.heap)))]]⟩ := fun k i hi => by
      have := scan_on (n := i) (X := fun j => K fns ⟨0, 0⟩ f5_l0 ⟨[(1, .c (.b (.ptr 0 0))), (3, vsl g), (7, vsl x), (8, vint i), (9, vint j)], [.cells [.b (.d (.sl (rows a.args))), .b (.d (.sl (rows a.heap)))]]⟩ k)
        (fun j hj => by
          have hw := wrap_succ (i := j) (by omega)
          have hj' : j < x.length := by omega
          have hne : ¬ x[j] = x[i] := fun h => by
            have := (List.getElem_inj hnd).mp h
            omega
          show K fns _ f5_l0 _ k = _
          rw [u5_l0]
          simp [f5_b0, ↓K_seq, ↓K_cond, ↓K_block, ↓K_region, ↓K_skip, ↓K_exit, ↓K_ret, ↓K_wrap, ↓KA_nil, ↓KA_none, ↓KA_some, beq_int, bne_int, dec_eqN, dec_ltN, dec_leN, stepOp, St.rd, St.raw, St.set, St.took, get_cons, V.down, C.down, Env.keep, binV, unV, arith, isShift, strs, intOf, optInt, wrapEnd, keptAt, andK, endOf, frzV, frz1, frzC, frzCs, frz1s, resOf, resOne, resAll, V.closed, V.closed1, C.closed, B.closed, Ob.closed, V.cells, partsIn, rep, chunk, datas, C.data, rowsOf, getCells, put_nil, put_zero, put_succ, mayWrite, C.plain, eqV_bool, eqV_agg, eqV_pnn, eqV_pnp, eqV_ppn, eqV_mnn, eqV_mmn, eqV_snn, eqV_sen, eqV_san, eqV_sdn, rs_len, rs_getE, rs_app, rs_take, rs_drop, rs_all, rs_each, row_len, str_eq, vagg, row_Int, row_Bool, row_Str, k_Int, k_Bool, k_Str, snoc_Int, snoc_Bool, snoc_Str, row_Type, k_Type, snoc_Type, eta_Type, sames_Type, row_Field, k_Field, snoc_Field, eta_Field, sames_Field, row_Instr, k_Instr, snoc_Instr, eta_Instr, sames_Instr, row_Catch, k_Catch, snoc_Catch, eta_Catch, sames_Catch, row_Method, k_Method, snoc_Method, row_Class, k_Class, snoc_Class, row_Program, k_Program, snoc_Program, row_Slot, k_Slot, snoc_Slot, eta_Slot, sames_Slot, row_State, k_State, snoc_State, row_Val, k_Val, snoc_Val, eta_Val, sames_Val, row_Obj, k_Obj, snoc_Obj, row_Input, k_Input, snoc_Input, row_Frame, k_Frame, snoc_Frame, row_Run, k_Run, snoc_Run, row_Way, k_Way, snoc_Way, eta_Way, sames_Way, row_Task, k_Task, snoc_Task, eta_Task, sames_Task, hi, hj, hj', hw, hne])
      refine this.trans ?_
      show K fns _ f5_l0 _ k = _
      rw [u5_l0]
      simp [f5_b0, ↓K_seq, ↓K_cond, ↓K_block, ↓K_region, ↓K_skip, ↓K_exit, ↓K_ret, ↓K_wrap, ↓KA_nil, ↓KA_none, ↓KA_some, beq_int, bne_int, dec_eqN, dec_ltN, dec_leN, stepOp, St.rd, St.raw, St.set, St.took, get_cons, V.down, C.down, Env.keep, binV, unV, arith, isShift, strs, intOf, optInt, wrapEnd, keptAt, andK, endOf, frzV, frz1, frzC, frzCs, frz1s, resOf, resOne, resAll, V.closed, V.closed1, C.closed, B.closed, Ob.closed, V.cells, partsIn, rep, chunk, datas, C.data, rowsOf, getCells, put_nil, put_zero, put_succ, mayWrite, C.plain, eqV_bool, eqV_agg, eqV_pnn, eqV_pnp, eqV_ppn, eqV_mnn, eqV_mmn, eqV_snn, eqV_sen, eqV_san, eqV_sdn, rs_len, rs_getE, rs_app, rs_take, rs_drop, rs_all, rs_each, row_len, str_eq, vagg, row_Int, row_Bool, row_Str, k_Int, k_Bool, k_Str, snoc_Int, snoc_Bool, snoc_Str, row_Type, k_Type, snoc_Type, eta_Type, sames_Type, row_Field, k_Field, snoc_Field, eta_Field, sames_Field, row_Instr, k_Instr, snoc_Instr, eta_Instr, sames_Instr, row_Catch, k_Catch, snoc_Catch, eta_Catch, sames_Catch, row_Method, k_Method, snoc_Method, row_Class, k_Class, snoc_Class, row_Program, k_Program, snoc_Program, row_Slot, k_Slot, snoc_Slot, eta_Slot, sames_Slot, row_State, k_State, snoc_State, row_Val, k_Val, snoc_Val, eta_Val, sames_Val, row_Obj, k_Obj, snoc_Obj, row_Input, k_Input, snoc_Input, row_Frame, k_Frame, snoc_Frame, row_Run, k_Run, snoc_Run, row_Way, k_Way, snoc_Way, eta_Way, sames_Way, row_Task, k_Task, snoc_Task, eta_Task, sames_Task]
    have L1 : ∀ (k : AExit → St → Option (V × List Ob)), K fns ⟨0, 0⟩ f5_l1 ⟨[(1, .c (.b (.ptr 0 0))), (3, vsl g), (7, vsl x), (8, vint 0)], [.cells [.b (.d (.sl (rows a.args))), .b (.d (.sl (rows a.heap)))]]⟩ k =
        k (.exit 0) ⟨[], [.cells [.b (.d (.sl (rows a.args))), .b (.d (.sl (rows a.heap)))]]⟩ := fun k => by
      have := scan_on (n := x.length) (X := fun i => K fns ⟨0, 0⟩ f5_l1 ⟨[(1, .c (.b (.ptr 0 0))), (3, vsl g), (7, vsl x), (8, vint i)], [.cells [.b (.d (.sl (rows a.args))), .b (.d (.sl (rows a.heap)))]]⟩ k)
        (fun i hi => by
          have hw := wrap_succ (i := i) (by omega)
          obtain ⟨j, hj⟩ : ∃ j : Nat, x[i] = j := ⟨x[i].toNat, by have := hin _ (List.getElem_mem hi); omega⟩
          have hjl : j < a.heap.length := by have := hin _ (List.getElem_mem hi); omega
          have hig : i < g.length := by omega
          have hgi := hget i hig hi
          rw [hj] at hgi
          have hnat : ¬ a.heap.length ≤ j := by omega
          have hj0 : ¬ ((j : Int) < 0) := by omega
          show K fns _ f5_l1 _ k = _
          rw [u5_l1]
          simp [f5_b1, ↓K_seq, ↓K_cond, ↓K_block, ↓K_region, ↓K_skip, ↓K_exit, ↓K_ret, ↓K_wrap, ↓KA_nil, ↓KA_none, ↓KA_some, beq_int, bne_int, dec_eqN, dec_ltN, dec_leN, stepOp, St.rd, St.raw, St.set, St.took, get_cons, V.down, C.down, Env.keep, binV, unV, arith, isShift, strs, intOf, optInt, wrapEnd, keptAt, andK, endOf, frzV, frz1, frzC, frzCs, frz1s, resOf, resOne, resAll, V.closed, V.closed1, C.closed, B.closed, Ob.closed, V.cells, partsIn, rep, chunk, datas, C.data, rowsOf, getCells, put_nil, put_zero, put_succ, mayWrite, C.plain, eqV_bool, eqV_agg, eqV_pnn, eqV_pnp, eqV_ppn, eqV_mnn, eqV_mmn, eqV_snn, eqV_sen, eqV_san, eqV_sdn, rs_len, rs_getE, rs_app, rs_take, rs_drop, rs_all, rs_each, row_len, str_eq, vagg, row_Int, row_Bool, row_Str, k_Int, k_Bool, k_Str, snoc_Int, snoc_Bool, snoc_Str, row_Type, k_Type, snoc_Type, eta_Type, sames_Type, row_Field, k_Field, snoc_Field, eta_Field, sames_Field, row_Instr, k_Instr, snoc_Instr, eta_Instr, sames_Instr, row_Catch, k_Catch, snoc_Catch, eta_Catch, sames_Catch, row_Method, k_Method, snoc_Method, row_Class, k_Class, snoc_Class, row_Program, k_Program, snoc_Program, row_Slot, k_Slot, snoc_Slot, eta_Slot, sames_Slot, row_State, k_State, snoc_State, row_Val, k_Val, snoc_Val, eta_Val, sames_Val, row_Obj, k_Obj, snoc_Obj, row_Input, k_Input, snoc_Input, row_Frame, k_Frame, snoc_Frame, row_Run, k_Run, snoc_Run, row_Way, k_Way, snoc_Way, eta_Way, sames_Way, row_Task, k_Task, snoc_Task, eta_Task, sames_Task, hi, hw, hig, L0 _ i hi, hgi, hj, hjl, hnat, hj0, slotsAt_nat hjl])
      refine this.trans ?_
      rw [u5_l1]
      simp [f5_b1, ↓K_seq, ↓K_cond, ↓K_block, ↓K_region, ↓K_skip, ↓K_exit, ↓K_ret, ↓K_wrap, ↓KA_nil, ↓KA_none, ↓KA_some, beq_int, bne_int, dec_eqN, dec_ltN, dec_leN, stepOp, St.rd, St.raw, St.set, St.took, get_cons, V.down, C.down, Env.keep, binV, unV, arith, isShift, strs, intOf, optInt, wrapEnd, keptAt, andK, endOf, frzV, frz1, frzC, frzCs, frz1s, resOf, resOne, resAll, V.closed, V.closed1, C.closed, B.closed, Ob.closed, V.cells, partsIn, rep, chunk, datas, C.data, rowsOf, getCells, put_nil, put_zero, put_succ, mayWrite, C.plain, eqV_bool, eqV_agg, eqV_pnn, eqV_pnp, eqV_ppn, eqV_mnn, eqV_mmn, eqV_snn, eqV_sen, eqV_san, eqV_sdn, rs_len, rs_getE, rs_app, rs_take, rs_drop, rs_all, rs_each, row_len, str_eq, vagg, row_Int, row_Bool, row_Str, k_Int, k_Bool, k_Str, snoc_Int, snoc_Bool, snoc_Str, row_Type, k_Type, snoc_Type, eta_Type, sames_Type, row_Field, k_Field, snoc_Field, eta_Field, sames_Field, row_Instr, k_Instr, snoc_Instr, eta_Instr, sames_Instr, row_Catch, k_Catch, snoc_Catch, eta_Catch, sames_Catch, row_Method, k_Method, snoc_Method, row_Class, k_Class, snoc_Class, row_Program, k_Program, snoc_Program, row_Slot, k_Slot, snoc_Slot, eta_Slot, sames_Slot, row_State, k_State, snoc_State, row_Val, k_Val, snoc_Val, eta_Val, sames_Val, row_Obj, k_Obj, snoc_Obj, row_Input, k_Input, snoc_Input, row_Frame, k_Frame, snoc_Frame, row_Run, k_Run, snoc_Run, row_Way, k_Way, snoc_Way, eta_Way, sames_Way, row_Task, k_Task, snoc_Task, eta_Task, sames_Task]
    have hw21 := fn21
    simp [KF, params, f5, ↓K_seq, ↓K_cond, ↓K_block, ↓K_region, ↓K_skip, ↓K_exit, ↓K_ret, ↓K_wrap, ↓KA_nil, ↓KA_none, ↓KA_some, beq_int, bne_int, dec_eqN, dec_ltN, dec_leN, stepOp, St.rd, St.raw, St.set, St.took, get_cons, V.down, C.down, Env.keep, binV, unV, arith, isShift, strs, intOf, optInt, wrapEnd, keptAt, andK, endOf, frzV, frz1, frzC, frzCs, frz1s, resOf, resOne, resAll, V.closed, V.closed1, C.closed, B.closed, Ob.closed, V.cells, partsIn, rep, chunk, datas, C.data, rowsOf, getCells, put_nil, put_zero, put_succ, mayWrite, C.plain, eqV_bool, eqV_agg, eqV_pnn, eqV_pnp, eqV_ppn, eqV_mnn, eqV_mmn, eqV_snn, eqV_sen, eqV_san, eqV_sdn, rs_len, rs_getE, rs_app, rs_take, rs_drop, rs_all, rs_each, row_len, str_eq, vagg, row_Int, row_Bool, row_Str, k_Int, k_Bool, k_Str, snoc_Int, snoc_Bool, snoc_Str, row_Type, k_Type, snoc_Type, eta_Type, sames_Type, row_Field, k_Field, snoc_Field, eta_Field, sames_Field, row_Instr, k_Instr, snoc_Instr, eta_Instr, sames_Instr, row_Catch, k_Catch, snoc_Catch, eta_Catch, sames_Catch, row_Method, k_Method, snoc_Method, row_Class, k_Class, snoc_Class, row_Program, k_Program, snoc_Program, row_Slot, k_Slot, snoc_Slot, eta_Slot, sames_Slot, row_State, k_State, snoc_State, row_Val, k_Val, snoc_Val, eta_Val, sames_Val, row_Obj, k_Obj, snoc_Obj, row_Input, k_Input, snoc_Input, row_Frame, k_Frame, snoc_Frame, row_Run, k_Run, snoc_Run, row_Way, k_Way, snoc_Way, eta_Way, sames_Way, row_Task, k_Task, snoc_Task, eta_Task, sames_Task, h9, c1, c2, o1, e1, e2, e3, hlen, hr, L1, hw21]
end Go.Proofs.Ytjkhkblabhaimaa.Am
