/- The page's order and places. -/
import Derived.Test.YtjkhkblabhaimaaIsoF
namespace Go.Proofs.Ytjkhkblabhaimaa.Am
set_option linter.unusedSimpArgs false
set_option linter.unusedVariables false
open Go

theorem scan_find {α β : Type} [DecidableEq α] {l : List α} {a : α} {X : Nat → β} {R : Nat → β} {e : β} (h : ∀ i (hi : i < l.length), X i = if l[i] = a then R i else X (i + 1)) (he : X l.length = e) : X 0 = if a ∈ l then R (l.idxOf a) else e := by
  have key : ∀ n i, i + n = l.length → X i = if a ∈ l.drop i then R (i + (l.drop i).idxOf a) else e := by
    intro n
    induction n with
    | zero =>
      intro i hi
      have h1 : i = l.length := by omega
      subst h1
      rw [he]; simp
    | succ n ih =>
      intro i hi
      have hia : i < l.length := by omega
      rw [h i hia, ih (i + 1) (by omega), List.drop_eq_getElem_cons hia]
      generalize l.drop (i + 1) = A
      by_cases h1 : l[i] = a
      · subst h1; simp
      · have h2 : ¬ a = l[i] := fun e => h1 e.symm
        by_cases h3 : a ∈ A
        · have h4 : (l[i] == a) = false := by simp [h1]
          simp [h1, h2, h3, List.idxOf_cons, h4, Nat.add_assoc, Nat.add_comm 1]
        · simp [h1, h2, h3]
  simpa using key l.length 0 (by omega)

theorem fn33 (n a b : Int) (σ : List Ob) (lo tr : Nat) : Fn fns 33 [vint n, vint a, vint b] σ lo tr = some (vbool (decide (a ≤ n ∧ n ≤ b)), σ) := by
  refine fn_gen t33 rfl (σ1 := []) rfl rfl ?_ σ lo tr
  by_cases h : a ≤ n
  · simp [KF, params, f33, ↓K_seq, ↓K_cond, ↓K_block, ↓K_region, ↓K_skip, ↓K_exit, ↓K_ret, ↓K_wrap, ↓KA_nil, ↓KA_none, ↓KA_some, beq_int, bne_int, dec_eqN, dec_ltN, dec_leN, stepOp, St.rd, St.raw, St.set, St.took, get_cons, V.down, C.down, Env.keep, binV, unV, arith, isShift, strs, intOf, optInt, wrapEnd, keptAt, andK, endOf, frzV, frz1, frzC, frzCs, frz1s, resOf, resOne, resAll, V.closed, V.closed1, C.closed, B.closed, Ob.closed, V.cells, partsIn, rep, chunk, datas, C.data, rowsOf, getCells, put_nil, put_zero, put_succ, mayWrite, C.plain, eqV_bool, eqV_agg, eqV_pnn, eqV_pnp, eqV_ppn, eqV_mnn, eqV_mmn, eqV_snn, eqV_sen, eqV_san, eqV_sdn, rs_len, rs_getE, rs_app, rs_take, rs_drop, rs_all, rs_each, row_len, str_eq, vagg, row_Int, row_Bool, row_Str, k_Int, k_Bool, k_Str, snoc_Int, snoc_Bool, snoc_Str, row_Type, k_Type, snoc_Type, eta_Type, sames_Type, row_Field, k_Field, snoc_Field, eta_Field, sames_Field, row_Instr, k_Instr, snoc_Instr, eta_Instr, sames_Instr, row_Catch, k_Catch, snoc_Catch, eta_Catch, sames_Catch, row_Method, k_Method, snoc_Method, row_Class, k_Class, snoc_Class, row_Program, k_Program, snoc_Program, row_Slot, k_Slot, snoc_Slot, eta_Slot, sames_Slot, row_State, k_State, snoc_State, row_Val, k_Val, snoc_Val, eta_Val, sames_Val, row_Obj, k_Obj, snoc_Obj, row_Input, k_Input, snoc_Input, row_Frame, k_Frame, snoc_Frame, row_Run, k_Run, snoc_Run, row_Way, k_Way, snoc_Way, eta_Way, sames_Way, row_Task, k_Task, snoc_Task, eta_Task, sames_Task, h]
  · simp [KF, params, f33, ↓K_seq, ↓K_cond, ↓K_block, ↓K_region, ↓K_skip, ↓K_exit, ↓K_ret, ↓K_wrap, ↓KA_nil, ↓KA_none, ↓KA_some, beq_int, bne_int, dec_eqN, dec_ltN, dec_leN, stepOp, St.rd, St.raw, St.set, St.took, get_cons, V.down, C.down, Env.keep, binV, unV, arith, isShift, strs, intOf, optInt, wrapEnd, keptAt, andK, endOf, frzV, frz1, frzC, frzCs, frz1s, resOf, resOne, resAll, V.closed, V.closed1, C.closed, B.closed, Ob.closed, V.cells, partsIn, rep, chunk, datas, C.data, rowsOf, getCells, put_nil, put_zero, put_succ, mayWrite, C.plain, eqV_bool, eqV_agg, eqV_pnn, eqV_pnp, eqV_ppn, eqV_mnn, eqV_mmn, eqV_snn, eqV_sen, eqV_san, eqV_sdn, rs_len, rs_getE, rs_app, rs_take, rs_drop, rs_all, rs_each, row_len, str_eq, vagg, row_Int, row_Bool, row_Str, k_Int, k_Bool, k_Str, snoc_Int, snoc_Bool, snoc_Str, row_Type, k_Type, snoc_Type, eta_Type, sames_Type, row_Field, k_Field, snoc_Field, eta_Field, sames_Field, row_Instr, k_Instr, snoc_Instr, eta_Instr, sames_Instr, row_Catch, k_Catch, snoc_Catch, eta_Catch, sames_Catch, row_Method, k_Method, snoc_Method, row_Class, k_Class, snoc_Class, row_Program, k_Program, snoc_Program, row_Slot, k_Slot, snoc_Slot, eta_Slot, sames_Slot, row_State, k_State, snoc_State, row_Val, k_Val, snoc_Val, eta_Val, sames_Val, row_Obj, k_Obj, snoc_Obj, row_Input, k_Input, snoc_Input, row_Frame, k_Frame, snoc_Frame, row_Run, k_Run, snoc_Run, row_Way, k_Way, snoc_Way, eta_Way, sames_Way, row_Task, k_Task, snoc_Task, eta_Task, sames_Task, h]

theorem fn29 (l : List Int) (v : GVal) (hl : l.length < 1000000000) (σ : List Ob) (lo tr : Nat) : Fn fns 29 [vsl l, vVal v] σ lo tr = some (vVal (ren l v), σ) := by
  refine fn_gen t29 rfl (σ1 := []) rfl rfl ?_ σ lo tr
  cases hr : v.isRef with
  | false =>
    have e : ren l v = v := by simp [ren, hr]
    rw [e]
    simp [KF, params, f29, ↓K_seq, ↓K_cond, ↓K_block, ↓K_region, ↓K_skip, ↓K_exit, ↓K_ret, ↓K_wrap, ↓KA_nil, ↓KA_none, ↓KA_some, beq_int, bne_int, dec_eqN, dec_ltN, dec_leN, stepOp, St.rd, St.raw, St.set, St.took, get_cons, V.down, C.down, Env.keep, binV, unV, arith, isShift, strs, intOf, optInt, wrapEnd, keptAt, andK, endOf, frzV, frz1, frzC, frzCs, frz1s, resOf, resOne, resAll, V.closed, V.closed1, C.closed, B.closed, Ob.closed, V.cells, partsIn, rep, chunk, datas, C.data, rowsOf, getCells, put_nil, put_zero, put_succ, mayWrite, C.plain, eqV_bool, eqV_agg, eqV_pnn, eqV_pnp, eqV_ppn, eqV_mnn, eqV_mmn, eqV_snn, eqV_sen, eqV_san, eqV_sdn, rs_len, rs_getE, rs_app, rs_take, rs_drop, rs_all, rs_each, row_len, str_eq, vagg, row_Int, row_Bool, row_Str, k_Int, k_Bool, k_Str, snoc_Int, snoc_Bool, snoc_Str, row_Type, k_Type, snoc_Type, eta_Type, sames_Type, row_Field, k_Field, snoc_Field, eta_Field, sames_Field, row_Instr, k_Instr, snoc_Instr, eta_Instr, sames_Instr, row_Catch, k_Catch, snoc_Catch, eta_Catch, sames_Catch, row_Method, k_Method, snoc_Method, row_Class, k_Class, snoc_Class, row_Program, k_Program, snoc_Program, row_Slot, k_Slot, snoc_Slot, eta_Slot, sames_Slot, row_State, k_State, snoc_State, row_Val, k_Val, snoc_Val, eta_Val, sames_Val, row_Obj, k_Obj, snoc_Obj, row_Input, k_Input, snoc_Input, row_Frame, k_Frame, snoc_Frame, row_Run, k_Run, snoc_Run, row_Way, k_Way, snoc_Way, eta_Way, sames_Way, row_Task, k_Task, snoc_Task, eta_Task, sames_Task, hr]
  | true =>
    have e : ren l v = ⟨true, ixOf l v.n⟩ := by simp [ren, hr]
    rw [e]
    have L : ∀ k : AExit → St → Option (V × List Ob), K fns ⟨0, 0⟩ f29_l0 ⟨[(0, vsl l), (3, .c (.b (.ptr 0 0))), (4, .c (.b (.ptr 1 0))), (5, vint 0)], [.cells [.b (.d (.bool true)), .b (.d (.int .i64 v.n))], .cells [.b (.d (.bool false)), .b (.d (.int .i64 0))]]⟩ k =
        if v.n ∈ l then k .ret ⟨[(4, .c (.b (.ptr 1 0)))], [.cells [.b (.d (.bool true)), .b (.d (.int .i64 v.n))], .cells [.b (.d (.bool true)), .b (.d (.int .i64 (l.idxOf v.n : Nat)))]]⟩
        else k (.exit 0) ⟨[(4, .c (.b (.ptr 1 0)))], [.cells [.b (.d (.bool true)), .b (.d (.int .i64 v.n))], .cells [.b (.d (.bool false)), .b (.d (.int .i64 0))]]⟩ := fun k =>
      scan_find (l := l) (a := v.n) (X := fun i => K fns ⟨0, 0⟩ f29_l0 ⟨[(0, vsl l), (3, .c (.b (.ptr 0 0))), (4, .c (.b (.ptr 1 0))), (5, vint i)], [.cells [.b (.d (.bool true)), .b (.d (.int .i64 v.n))], .cells [.b (.d (.bool false)), .b (.d (.int .i64 0))]]⟩ k)
        (R := fun i => k .ret ⟨[(4, .c (.b (.ptr 1 0)))], [.cells [.b (.d (.bool true)), .b (.d (.int .i64 v.n))], .cells [.b (.d (.bool true)), .b (.d (.int .i64 (i : Nat)))]]⟩)
        (fun i hi => by
          have hw := wrap_succ (i := i) (by omega)
          show K fns _ f29_l0 _ k = _
          rw [u29_l0]
          by_cases hc : l[i] = v.n <;> simp [f29_b0, ↓K_seq, ↓K_cond, ↓K_block, ↓K_region, ↓K_skip, ↓K_exit, ↓K_ret, ↓K_wrap, ↓KA_nil, ↓KA_none, ↓KA_some, beq_int, bne_int, dec_eqN, dec_ltN, dec_leN, stepOp, St.rd, St.raw, St.set, St.took, get_cons, V.down, C.down, Env.keep, binV, unV, arith, isShift, strs, intOf, optInt, wrapEnd, keptAt, andK, endOf, frzV, frz1, frzC, frzCs, frz1s, resOf, resOne, resAll, V.closed, V.closed1, C.closed, B.closed, Ob.closed, V.cells, partsIn, rep, chunk, datas, C.data, rowsOf, getCells, put_nil, put_zero, put_succ, mayWrite, C.plain, eqV_bool, eqV_agg, eqV_pnn, eqV_pnp, eqV_ppn, eqV_mnn, eqV_mmn, eqV_snn, eqV_sen, eqV_san, eqV_sdn, rs_len, rs_getE, rs_app, rs_take, rs_drop, rs_all, rs_each, row_len, str_eq, vagg, row_Int, row_Bool, row_Str, k_Int, k_Bool, k_Str, snoc_Int, snoc_Bool, snoc_Str, row_Type, k_Type, snoc_Type, eta_Type, sames_Type, row_Field, k_Field, snoc_Field, eta_Field, sames_Field, row_Instr, k_Instr, snoc_Instr, eta_Instr, sames_Instr, row_Catch, k_Catch, snoc_Catch, eta_Catch, sames_Catch, row_Method, k_Method, snoc_Method, row_Class, k_Class, snoc_Class, row_Program, k_Program, snoc_Program, row_Slot, k_Slot, snoc_Slot, eta_Slot, sames_Slot, row_State, k_State, snoc_State, row_Val, k_Val, snoc_Val, eta_Val, sames_Val, row_Obj, k_Obj, snoc_Obj, row_Input, k_Input, snoc_Input, row_Frame, k_Frame, snoc_Frame, row_Run, k_Run, snoc_Run, row_Way, k_Way, snoc_Way, eta_Way, sames_Way, row_Task, k_Task, snoc_Task, eta_Task, sames_Task, hi, hc, hw])
        (by show K fns _ f29_l0 _ k = _; rw [u29_l0]; simp [f29_b0, ↓K_seq, ↓K_cond, ↓K_block, ↓K_region, ↓K_skip, ↓K_exit, ↓K_ret, ↓K_wrap, ↓KA_nil, ↓KA_none, ↓KA_some, beq_int, bne_int, dec_eqN, dec_ltN, dec_leN, stepOp, St.rd, St.raw, St.set, St.took, get_cons, V.down, C.down, Env.keep, binV, unV, arith, isShift, strs, intOf, optInt, wrapEnd, keptAt, andK, endOf, frzV, frz1, frzC, frzCs, frz1s, resOf, resOne, resAll, V.closed, V.closed1, C.closed, B.closed, Ob.closed, V.cells, partsIn, rep, chunk, datas, C.data, rowsOf, getCells, put_nil, put_zero, put_succ, mayWrite, C.plain, eqV_bool, eqV_agg, eqV_pnn, eqV_pnp, eqV_ppn, eqV_mnn, eqV_mmn, eqV_snn, eqV_sen, eqV_san, eqV_sdn, rs_len, rs_getE, rs_app, rs_take, rs_drop, rs_all, rs_each, row_len, str_eq, vagg, row_Int, row_Bool, row_Str, k_Int, k_Bool, k_Str, snoc_Int, snoc_Bool, snoc_Str, row_Type, k_Type, snoc_Type, eta_Type, sames_Type, row_Field, k_Field, snoc_Field, eta_Field, sames_Field, row_Instr, k_Instr, snoc_Instr, eta_Instr, sames_Instr, row_Catch, k_Catch, snoc_Catch, eta_Catch, sames_Catch, row_Method, k_Method, snoc_Method, row_Class, k_Class, snoc_Class, row_Program, k_Program, snoc_Program, row_Slot, k_Slot, snoc_Slot, eta_Slot, sames_Slot, row_State, k_State, snoc_State, row_Val, k_Val, snoc_Val, eta_Val, sames_Val, row_Obj, k_Obj, snoc_Obj, row_Input, k_Input, snoc_Input, row_Frame, k_Frame, snoc_Frame, row_Run, k_Run, snoc_Run, row_Way, k_Way, snoc_Way, eta_Way, sames_Way, row_Task, k_Task, snoc_Task, eta_Task, sames_Task])
    by_cases hm : v.n ∈ l
    · rw [ixOf_mem hm]
      simp [KF, params, f29, ↓K_seq, ↓K_cond, ↓K_block, ↓K_region, ↓K_skip, ↓K_exit, ↓K_ret, ↓K_wrap, ↓KA_nil, ↓KA_none, ↓KA_some, beq_int, bne_int, dec_eqN, dec_ltN, dec_leN, stepOp, St.rd, St.raw, St.set, St.took, get_cons, V.down, C.down, Env.keep, binV, unV, arith, isShift, strs, intOf, optInt, wrapEnd, keptAt, andK, endOf, frzV, frz1, frzC, frzCs, frz1s, resOf, resOne, resAll, V.closed, V.closed1, C.closed, B.closed, Ob.closed, V.cells, partsIn, rep, chunk, datas, C.data, rowsOf, getCells, put_nil, put_zero, put_succ, mayWrite, C.plain, eqV_bool, eqV_agg, eqV_pnn, eqV_pnp, eqV_ppn, eqV_mnn, eqV_mmn, eqV_snn, eqV_sen, eqV_san, eqV_sdn, rs_len, rs_getE, rs_app, rs_take, rs_drop, rs_all, rs_each, row_len, str_eq, vagg, row_Int, row_Bool, row_Str, k_Int, k_Bool, k_Str, snoc_Int, snoc_Bool, snoc_Str, row_Type, k_Type, snoc_Type, eta_Type, sames_Type, row_Field, k_Field, snoc_Field, eta_Field, sames_Field, row_Instr, k_Instr, snoc_Instr, eta_Instr, sames_Instr, row_Catch, k_Catch, snoc_Catch, eta_Catch, sames_Catch, row_Method, k_Method, snoc_Method, row_Class, k_Class, snoc_Class, row_Program, k_Program, snoc_Program, row_Slot, k_Slot, snoc_Slot, eta_Slot, sames_Slot, row_State, k_State, snoc_State, row_Val, k_Val, snoc_Val, eta_Val, sames_Val, row_Obj, k_Obj, snoc_Obj, row_Input, k_Input, snoc_Input, row_Frame, k_Frame, snoc_Frame, row_Run, k_Run, snoc_Run, row_Way, k_Way, snoc_Way, eta_Way, sames_Way, row_Task, k_Task, snoc_Task, eta_Task, sames_Task, hr, L, hm]
    · rw [ixOf_not hm]
      simp [KF, params, f29, ↓K_seq, ↓K_cond, ↓K_block, ↓K_region, ↓K_skip, ↓K_exit, ↓K_ret, ↓K_wrap, ↓KA_nil, ↓KA_none, ↓KA_some, beq_int, bne_int, dec_eqN, dec_ltN, dec_leN, stepOp, St.rd, St.raw, St.set, St.took, get_cons, V.down, C.down, Env.keep, binV, unV, arith, isShift, strs, intOf, optInt, wrapEnd, keptAt, andK, endOf, frzV, frz1, frzC, frzCs, frz1s, resOf, resOne, resAll, V.closed, V.closed1, C.closed, B.closed, Ob.closed, V.cells, partsIn, rep, chunk, datas, C.data, rowsOf, getCells, put_nil, put_zero, put_succ, mayWrite, C.plain, eqV_bool, eqV_agg, eqV_pnn, eqV_pnp, eqV_ppn, eqV_mnn, eqV_mmn, eqV_snn, eqV_sen, eqV_san, eqV_sdn, rs_len, rs_getE, rs_app, rs_take, rs_drop, rs_all, rs_each, row_len, str_eq, vagg, row_Int, row_Bool, row_Str, k_Int, k_Bool, k_Str, snoc_Int, snoc_Bool, snoc_Str, row_Type, k_Type, snoc_Type, eta_Type, sames_Type, row_Field, k_Field, snoc_Field, eta_Field, sames_Field, row_Instr, k_Instr, snoc_Instr, eta_Instr, sames_Instr, row_Catch, k_Catch, snoc_Catch, eta_Catch, sames_Catch, row_Method, k_Method, snoc_Method, row_Class, k_Class, snoc_Class, row_Program, k_Program, snoc_Program, row_Slot, k_Slot, snoc_Slot, eta_Slot, sames_Slot, row_State, k_State, snoc_State, row_Val, k_Val, snoc_Val, eta_Val, sames_Val, row_Obj, k_Obj, snoc_Obj, row_Input, k_Input, snoc_Input, row_Frame, k_Frame, snoc_Frame, row_Run, k_Run, snoc_Run, row_Way, k_Way, snoc_Way, eta_Way, sames_Way, row_Task, k_Task, snoc_Task, eta_Task, sames_Task, hr, L, hm]

def metB (n : Nat) (o : List Int) : List Bool := (List.range n).map fun j => decide (((j : Nat) : Int) ∈ o)
theorem metB_len (n : Nat) (o : List Int) : (metB n o).length = n := by simp [metB]
theorem metB_get {n : Nat} {o : List Int} {j : Nat} (h : j < (metB n o).length) : (metB n o)[j] = decide ((j : Int) ∈ o) := by simp [metB]
theorem metB_set {n : Nat} {o : List Int} {k : Nat} (hk : k < n) : (metB n o).set k true = metB n (o ++ [(k : Int)]) := by
  apply List.ext_getElem (by simp [metB])
  intro i h1 h2
  rw [List.getElem_set, metB_get, metB_get]
  by_cases e : k = i
  · subst e; simp
  · rw [if_neg e]
    have : ¬ ((i : Int) = k) := by omega
    simp [this]
theorem metB_nil (n : Nat) : metB n [] = List.replicate n false := by
  apply List.ext_getElem (by simp [metB])
  intro i h1 h2
  rw [metB_get]; simp

theorem loop16 {h : List GObj} (hh : h.length ≤ 40) {β : Type} {k : AExit → St → Option β} : ∀ (n : Nat) (o : List Int) (l : List GVal) (i : Nat), i ≤ l.length → fuel h o (l.drop i) = n → 2 * fuel h o (l.drop i) + o.length + i < 1000000000 →
    K fns ⟨0, 0⟩ f16_l0 ⟨[(0, vsl h), (5, .c (.b (.arr 1 0 0 h.length))), (6, .c (.osl 2 (rows l))), (7, .c (.osl 1 (rows o))), (8, vint i)], [.cells (cellsOf (metB h.length o))]⟩ k =
    k (.exit 0) ⟨[(7, .c (.osl 1 (rows (bfs h (fuel h o (l.drop i)) o (l.drop i)))))], [.cells (cellsOf (metB h.length (bfs h (fuel h o (l.drop i)) o (l.drop i))))]⟩
  | 0, o, l, i, hi, hn, hlt => by simp [fuel] at hn
  | n + 1, o, l, i, hi, hn, hlt => by
    by_cases he : i = l.length
    · subst he
      rw [List.drop_length, bfs_end, u16_l0]
      simp [f16_b0, ↓K_seq, ↓K_cond, ↓K_block, ↓K_region, ↓K_skip, ↓K_exit, ↓K_ret, ↓K_wrap, ↓KA_nil, ↓KA_none, ↓KA_some, beq_int, bne_int, dec_eqN, dec_ltN, dec_leN, stepOp, St.rd, St.raw, St.set, St.took, get_cons, V.down, C.down, Env.keep, binV, unV, arith, isShift, strs, intOf, optInt, wrapEnd, keptAt, andK, endOf, frzV, frz1, frzC, frzCs, frz1s, resOf, resOne, resAll, V.closed, V.closed1, C.closed, B.closed, Ob.closed, V.cells, partsIn, rep, chunk, datas, C.data, rowsOf, getCells, put_nil, put_zero, put_succ, mayWrite, C.plain, eqV_bool, eqV_agg, eqV_pnn, eqV_pnp, eqV_ppn, eqV_mnn, eqV_mmn, eqV_snn, eqV_sen, eqV_san, eqV_sdn, rs_len, rs_getE, rs_app, rs_take, rs_drop, rs_all, rs_each, row_len, str_eq, vagg, row_Int, row_Bool, row_Str, k_Int, k_Bool, k_Str, snoc_Int, snoc_Bool, snoc_Str, row_Type, k_Type, snoc_Type, eta_Type, sames_Type, row_Field, k_Field, snoc_Field, eta_Field, sames_Field, row_Instr, k_Instr, snoc_Instr, eta_Instr, sames_Instr, row_Catch, k_Catch, snoc_Catch, eta_Catch, sames_Catch, row_Method, k_Method, snoc_Method, row_Class, k_Class, snoc_Class, row_Program, k_Program, snoc_Program, row_Slot, k_Slot, snoc_Slot, eta_Slot, sames_Slot, row_State, k_State, snoc_State, row_Val, k_Val, snoc_Val, eta_Val, sames_Val, row_Obj, k_Obj, snoc_Obj, row_Input, k_Input, snoc_Input, row_Frame, k_Frame, snoc_Frame, row_Run, k_Run, snoc_Run, row_Way, k_Way, snoc_Way, eta_Way, sames_Way, row_Task, k_Task, snoc_Task, eta_Task, sames_Task, cl_closed]
    · have hil : i < l.length := by omega
      have hd := List.drop_eq_getElem_cons hil
      rw [hd] at hn hlt ⊢
      have e : fuel h o (l[i] :: l.drop (i + 1)) = fuel h o (l.drop (i + 1)) + 1 := by simp only [fuel, List.length_cons]; omega
      have ih1 := loop16 hh (k := k) n o l (i + 1) (by omega) (by omega) (by omega)
      have hw := wrap_succ (i := i) (by omega)
      have hwl : IntKind.i64.wrap ((h.length : Int) - 1) = (h.length : Int) - 1 := wrap_nat (by omega) (by omega)
      have f33 := fn33 l[i].n 0 ((h.length : Int) - 1)
      rw [bfs_step, u16_l0]
      cases hr : l[i].isRef with
      | false =>
        have hk : ¬ (ok h l[i] = true ∧ l[i].n ∉ o) := by simp [ok, hr]
        rw [if_neg hk, ← ih1]
        simp [f16_b0, ↓K_seq, ↓K_cond, ↓K_block, ↓K_region, ↓K_skip, ↓K_exit, ↓K_ret, ↓K_wrap, ↓KA_nil, ↓KA_none, ↓KA_some, beq_int, bne_int, dec_eqN, dec_ltN, dec_leN, stepOp, St.rd, St.raw, St.set, St.took, get_cons, V.down, C.down, Env.keep, binV, unV, arith, isShift, strs, intOf, optInt, wrapEnd, keptAt, andK, endOf, frzV, frz1, frzC, frzCs, frz1s, resOf, resOne, resAll, V.closed, V.closed1, C.closed, B.closed, Ob.closed, V.cells, partsIn, rep, chunk, datas, C.data, rowsOf, getCells, put_nil, put_zero, put_succ, mayWrite, C.plain, eqV_bool, eqV_agg, eqV_pnn, eqV_pnp, eqV_ppn, eqV_mnn, eqV_mmn, eqV_snn, eqV_sen, eqV_san, eqV_sdn, rs_len, rs_getE, rs_app, rs_take, rs_drop, rs_all, rs_each, row_len, str_eq, vagg, row_Int, row_Bool, row_Str, k_Int, k_Bool, k_Str, snoc_Int, snoc_Bool, snoc_Str, row_Type, k_Type, snoc_Type, eta_Type, sames_Type, row_Field, k_Field, snoc_Field, eta_Field, sames_Field, row_Instr, k_Instr, snoc_Instr, eta_Instr, sames_Instr, row_Catch, k_Catch, snoc_Catch, eta_Catch, sames_Catch, row_Method, k_Method, snoc_Method, row_Class, k_Class, snoc_Class, row_Program, k_Program, snoc_Program, row_Slot, k_Slot, snoc_Slot, eta_Slot, sames_Slot, row_State, k_State, snoc_State, row_Val, k_Val, snoc_Val, eta_Val, sames_Val, row_Obj, k_Obj, snoc_Obj, row_Input, k_Input, snoc_Input, row_Frame, k_Frame, snoc_Frame, row_Run, k_Run, snoc_Run, row_Way, k_Way, snoc_Way, eta_Way, sames_Way, row_Task, k_Task, snoc_Task, eta_Task, sames_Task, hil, cl_closed, hr, hw]
      | true =>
        by_cases c1 : 0 ≤ l[i].n ∧ l[i].n ≤ (h.length : Int) - 1
        · obtain ⟨j, hj⟩ : ∃ j : Nat, l[i].n = j := ⟨l[i].n.toNat, by omega⟩
          have hjl : j < h.length := by omega
          have hj' : j < (metB h.length o).length := by rw [metB_len]; exact hjl
          have hpl : (cellsOf (metB h.length o))[j]? = some (.b (.d (.bool (decide ((j : Int) ∈ o))))) := by
            have := cl_get k_Bool hj' (j := 0) (by omega)
            simpa [row_Bool, metB_get, box1] using this
          rw [decide_eq_true c1] at f33
          rw [hj] at f33
          by_cases c3 : (j : Int) ∈ o
          · have hk : ¬ (ok h l[i] = true ∧ l[i].n ∉ o) := by rw [hj]; simp [c3]
            rw [if_neg hk, ← ih1]
            simp [f16_b0, ↓K_seq, ↓K_cond, ↓K_block, ↓K_region, ↓K_skip, ↓K_exit, ↓K_ret, ↓K_wrap, ↓KA_nil, ↓KA_none, ↓KA_some, beq_int, bne_int, dec_eqN, dec_ltN, dec_leN, stepOp, St.rd, St.raw, St.set, St.took, get_cons, V.down, C.down, Env.keep, binV, unV, arith, isShift, strs, intOf, optInt, wrapEnd, keptAt, andK, endOf, frzV, frz1, frzC, frzCs, frz1s, resOf, resOne, resAll, V.closed, V.closed1, C.closed, B.closed, Ob.closed, V.cells, partsIn, rep, chunk, datas, C.data, rowsOf, getCells, put_nil, put_zero, put_succ, mayWrite, C.plain, eqV_bool, eqV_agg, eqV_pnn, eqV_pnp, eqV_ppn, eqV_mnn, eqV_mmn, eqV_snn, eqV_sen, eqV_san, eqV_sdn, rs_len, rs_getE, rs_app, rs_take, rs_drop, rs_all, rs_each, row_len, str_eq, vagg, row_Int, row_Bool, row_Str, k_Int, k_Bool, k_Str, snoc_Int, snoc_Bool, snoc_Str, row_Type, k_Type, snoc_Type, eta_Type, sames_Type, row_Field, k_Field, snoc_Field, eta_Field, sames_Field, row_Instr, k_Instr, snoc_Instr, eta_Instr, sames_Instr, row_Catch, k_Catch, snoc_Catch, eta_Catch, sames_Catch, row_Method, k_Method, snoc_Method, row_Class, k_Class, snoc_Class, row_Program, k_Program, snoc_Program, row_Slot, k_Slot, snoc_Slot, eta_Slot, sames_Slot, row_State, k_State, snoc_State, row_Val, k_Val, snoc_Val, eta_Val, sames_Val, row_Obj, k_Obj, snoc_Obj, row_Input, k_Input, snoc_Input, row_Frame, k_Frame, snoc_Frame, row_Run, k_Run, snoc_Run, row_Way, k_Way, snoc_Way, eta_Way, sames_Way, row_Task, k_Task, snoc_Task, eta_Task, sames_Task, hil, cl_closed, hr, hw, hwl, f33, hj, hjl, hpl, c3]
          · have hk : ok h l[i] = true ∧ l[i].n ∉ o := ⟨by simp [ok, hr]; omega, by rw [hj]; exact c3⟩
            have hput : putAt (cellsOf (metB h.length o)) j [.b (.d (.bool true))] = some (cellsOf (metB h.length (o ++ [(j : Int)]))) := by
              have := cl_put k_Bool hj' (j := 0) (v := true) (ds := [.bool true]) (by simp) (by simp [row_Bool])
              rw [metB_set hjl] at this
              simpa [box1] using this
            have hs := slotsAt_nat hjl
            have hu := unmet_snoc hjl c3
            rw [if_pos hk, hj]
            have eq2 : l.drop (i + 1) ++ slotsAt h j = (l ++ slotsAt h j).drop (i + 1) := by rw [List.drop_append_of_le_length (by omega)]
            rw [eq2]
            have ih2 := loop16 hh (k := k) n (o ++ [(j : Int)]) (l ++ slotsAt h j) (i + 1) (by simp; omega)
              (by rw [← eq2]; simp only [fuel, List.length_append] at hn ⊢; simp only [List.length_cons] at hn; omega)
              (by rw [← eq2]; simp only [fuel, List.length_append, List.length_cons, List.length_nil] at hlt ⊢; omega)
            rw [← ih2, hs]
            have q0 : h[j].slots.length ≤ unmet h o := by rw [← hs]; omega
            have q5 : unmet h o < 1000000000 := by simp only [fuel] at hlt; omega
            have q6 : l.length = i + 1 + (l.drop (i + 1)).length := by rw [List.length_drop]; omega
            have q7 : l.length < 1000000000 := by simp only [fuel, List.length_cons] at hlt; omega
            have q1 : o.length + 1 ≤ 70368744177664 := by omega
            have q2 : (o.length + 1) * 8 ≤ 70368744177664 := by omega
            have q3 : l.length + h[j].slots.length ≤ 70368744177664 := by omega
            have q4 : (l.length + h[j].slots.length) * 16 ≤ 70368744177664 := by omega
            simp [f16_b0, ↓K_seq, ↓K_cond, ↓K_block, ↓K_region, ↓K_skip, ↓K_exit, ↓K_ret, ↓K_wrap, ↓KA_nil, ↓KA_none, ↓KA_some, beq_int, bne_int, dec_eqN, dec_ltN, dec_leN, stepOp, St.rd, St.raw, St.set, St.took, get_cons, V.down, C.down, Env.keep, binV, unV, arith, isShift, strs, intOf, optInt, wrapEnd, keptAt, andK, endOf, frzV, frz1, frzC, frzCs, frz1s, resOf, resOne, resAll, V.closed, V.closed1, C.closed, B.closed, Ob.closed, V.cells, partsIn, rep, chunk, datas, C.data, rowsOf, getCells, put_nil, put_zero, put_succ, mayWrite, C.plain, eqV_bool, eqV_agg, eqV_pnn, eqV_pnp, eqV_ppn, eqV_mnn, eqV_mmn, eqV_snn, eqV_sen, eqV_san, eqV_sdn, rs_len, rs_getE, rs_app, rs_take, rs_drop, rs_all, rs_each, row_len, str_eq, vagg, row_Int, row_Bool, row_Str, k_Int, k_Bool, k_Str, snoc_Int, snoc_Bool, snoc_Str, row_Type, k_Type, snoc_Type, eta_Type, sames_Type, row_Field, k_Field, snoc_Field, eta_Field, sames_Field, row_Instr, k_Instr, snoc_Instr, eta_Instr, sames_Instr, row_Catch, k_Catch, snoc_Catch, eta_Catch, sames_Catch, row_Method, k_Method, snoc_Method, row_Class, k_Class, snoc_Class, row_Program, k_Program, snoc_Program, row_Slot, k_Slot, snoc_Slot, eta_Slot, sames_Slot, row_State, k_State, snoc_State, row_Val, k_Val, snoc_Val, eta_Val, sames_Val, row_Obj, k_Obj, snoc_Obj, row_Input, k_Input, snoc_Input, row_Frame, k_Frame, snoc_Frame, row_Run, k_Run, snoc_Run, row_Way, k_Way, snoc_Way, eta_Way, sames_Way, row_Task, k_Task, snoc_Task, eta_Task, sames_Task, hil, cl_closed, hr, hw, hwl, f33, hj, hjl, hpl, c3, hput, q1, q2, q3, q4]
        · have hk : ¬ (ok h l[i] = true ∧ l[i].n ∉ o) := by simp [ok]; omega
          rw [decide_eq_false c1] at f33
          rw [if_neg hk, ← ih1]
          simp [f16_b0, ↓K_seq, ↓K_cond, ↓K_block, ↓K_region, ↓K_skip, ↓K_exit, ↓K_ret, ↓K_wrap, ↓KA_nil, ↓KA_none, ↓KA_some, beq_int, bne_int, dec_eqN, dec_ltN, dec_leN, stepOp, St.rd, St.raw, St.set, St.took, get_cons, V.down, C.down, Env.keep, binV, unV, arith, isShift, strs, intOf, optInt, wrapEnd, keptAt, andK, endOf, frzV, frz1, frzC, frzCs, frz1s, resOf, resOne, resAll, V.closed, V.closed1, C.closed, B.closed, Ob.closed, V.cells, partsIn, rep, chunk, datas, C.data, rowsOf, getCells, put_nil, put_zero, put_succ, mayWrite, C.plain, eqV_bool, eqV_agg, eqV_pnn, eqV_pnp, eqV_ppn, eqV_mnn, eqV_mmn, eqV_snn, eqV_sen, eqV_san, eqV_sdn, rs_len, rs_getE, rs_app, rs_take, rs_drop, rs_all, rs_each, row_len, str_eq, vagg, row_Int, row_Bool, row_Str, k_Int, k_Bool, k_Str, snoc_Int, snoc_Bool, snoc_Str, row_Type, k_Type, snoc_Type, eta_Type, sames_Type, row_Field, k_Field, snoc_Field, eta_Field, sames_Field, row_Instr, k_Instr, snoc_Instr, eta_Instr, sames_Instr, row_Catch, k_Catch, snoc_Catch, eta_Catch, sames_Catch, row_Method, k_Method, snoc_Method, row_Class, k_Class, snoc_Class, row_Program, k_Program, snoc_Program, row_Slot, k_Slot, snoc_Slot, eta_Slot, sames_Slot, row_State, k_State, snoc_State, row_Val, k_Val, snoc_Val, eta_Val, sames_Val, row_Obj, k_Obj, snoc_Obj, row_Input, k_Input, snoc_Input, row_Frame, k_Frame, snoc_Frame, row_Run, k_Run, snoc_Run, row_Way, k_Way, snoc_Way, eta_Way, sames_Way, row_Task, k_Task, snoc_Task, eta_Task, sames_Task, hil, cl_closed, hr, hw, hwl, f33]
  termination_by n => n

theorem fn16 {h : List GObj} {roots : List GVal} (H : Small h roots) (σ : List Ob) (lo tr : Nat) : Fn fns 16 [vsl h, vsl roots] σ lo tr = some (.c (.osl 1 (rows (order h roots))), σ) := by
  refine fn_gen t16 rfl (σ1 := []) rfl rfl ?_ σ lo tr
  have h2 := fn25 roots (by have := H.roots; omega)
  have L : ∀ k : AExit → St → Option (V × List Ob), K fns ⟨0, 0⟩ f16_l0 ⟨[(0, vsl h), (5, .c (.b (.arr 1 0 0 h.length))), (6, .c (.osl 2 (rows roots))), (7, .c (.osl 1 [])), (8, vint 0)], [.cells (cellsOf (List.replicate h.length false))]⟩ k =
      k (.exit 0) ⟨[(7, .c (.osl 1 (rows (order h roots))))], [.cells (cellsOf (metB h.length (order h roots)))]⟩ := fun k => by
    have := loop16 (h := h) H.len (k := k) _ [] roots 0 (by omega) rfl (by have := H.roots; have := H.all; simp [fuel]; omega)
    rw [metB_nil] at this
    exact this
  have hrep : (List.replicate h.length [C.b (.d (.bool false))]).flatten = cellsOf (List.replicate h.length false) := by
    simp [cellsOf, rows, row_Bool]
  have hlen := H.len
  have q1 : (h.length : Int) ≤ 140737488355328 := by omega
  have q2 : h.length ≤ 140737488355328 := by omega
  have hrep2 : cellsOf (List.replicate h.length false) = List.replicate h.length (C.b (.d (.bool false))) := by rw [← hrep]; simp
  rw [hrep2] at L
  simp [KF, params, f16, ↓K_seq, ↓K_cond, ↓K_block, ↓K_region, ↓K_skip, ↓K_exit, ↓K_ret, ↓K_wrap, ↓KA_nil, ↓KA_none, ↓KA_some, beq_int, bne_int, dec_eqN, dec_ltN, dec_leN, stepOp, St.rd, St.raw, St.set, St.took, get_cons, V.down, C.down, Env.keep, binV, unV, arith, isShift, strs, intOf, optInt, wrapEnd, keptAt, andK, endOf, frzV, frz1, frzC, frzCs, frz1s, resOf, resOne, resAll, V.closed, V.closed1, C.closed, B.closed, Ob.closed, V.cells, partsIn, rep, chunk, datas, C.data, rowsOf, getCells, put_nil, put_zero, put_succ, mayWrite, C.plain, eqV_bool, eqV_agg, eqV_pnn, eqV_pnp, eqV_ppn, eqV_mnn, eqV_mmn, eqV_snn, eqV_sen, eqV_san, eqV_sdn, rs_len, rs_getE, rs_app, rs_take, rs_drop, rs_all, rs_each, row_len, str_eq, vagg, row_Int, row_Bool, row_Str, k_Int, k_Bool, k_Str, snoc_Int, snoc_Bool, snoc_Str, row_Type, k_Type, snoc_Type, eta_Type, sames_Type, row_Field, k_Field, snoc_Field, eta_Field, sames_Field, row_Instr, k_Instr, snoc_Instr, eta_Instr, sames_Instr, row_Catch, k_Catch, snoc_Catch, eta_Catch, sames_Catch, row_Method, k_Method, snoc_Method, row_Class, k_Class, snoc_Class, row_Program, k_Program, snoc_Program, row_Slot, k_Slot, snoc_Slot, eta_Slot, sames_Slot, row_State, k_State, snoc_State, row_Val, k_Val, snoc_Val, eta_Val, sames_Val, row_Obj, k_Obj, snoc_Obj, row_Input, k_Input, snoc_Input, row_Frame, k_Frame, snoc_Frame, row_Run, k_Run, snoc_Run, row_Way, k_Way, snoc_Way, eta_Way, sames_Way, row_Task, k_Task, snoc_Task, eta_Task, sames_Task, h2, L, q1, q2]

end Go.Proofs.Ytjkhkblabhaimaa.Am
