/- met, moved, Canon, Order, Same, whole. -/
import Derived.Test.YtjkhkblabhaimaaIsoC
namespace Go.Proofs.Ytjkhkblabhaimaa.Am
set_option linter.unusedSimpArgs false
set_option linter.unusedVariables false
open Go

theorem bfs_le {h : List GObj} : ∀ (n : Nat) (o : List Int) (t : List GVal), (bfs h n o t).length ≤ o.length + n
  | 0, o, t => by simp [bfs]
  | n + 1, o, [] => by simp [bfs]
  | n + 1, o, v :: t => by
    rw [bfs]
    split
    · have := bfs_le (h := h) n (o ++ [v.n]) (t ++ slotsAt h v.n); simp at this; omega
    · have := bfs_le (h := h) n o t; omega

theorem order_len {h : List GObj} {roots : List GVal} (H : Small h roots) : (order h roots).length < 1000000000 := by
  have := bfs_le (h := h) (fuel h [] roots) [] roots
  have h1 := H.roots; have h2 := H.all
  simp only [order, fuel, List.length_nil] at this ⊢
  omega

theorem placeOf_nil (n : Nat) : placeOf n [] = List.replicate n (-1) := by
  apply List.ext_getElem (by simp [placeOf])
  intro i h1 h2
  rw [placeOf_get]; simp [ixOf]

theorem fn27 {h : List GObj} {roots : List GVal} (H : Small h roots) (σ : List Ob) (lo tr : Nat) : Fn fns 27 [vsl h, vsl roots] σ lo tr = some (.tup [vsl (order h roots), vsl (placeOf h.length (order h roots))], σ) := by
  refine fn_gen t27 rfl (σ1 := []) rfl rfl ?_ σ lo tr
  have h1 := fn35 H.len
  have h2 := fn36 roots (by have := H.roots; omega)
  have L : ∀ k : AExit → St → Option (V × List Ob), K fns ⟨0, 0⟩ f27_l0 ⟨[(0, vsl h), (4, .c (.osl 1 [])), (5, .c (.b (.arr 1 0 0 h.length))), (6, .c (.osl 2 (rows roots)))], [.cells (cellsOf (List.replicate h.length (-1 : Int)))]⟩ k =
      k (.exit 0) ⟨[(4, .c (.osl 1 (rows (order h roots)))), (5, .c (.b (.arr 1 0 0 h.length)))], [.cells (cellsOf (placeOf h.length (order h roots)))]⟩ := fun k => by
    have := loop27 (h := h) H.len rfl (k := k) _ [] roots rfl (by have := H.roots; have := H.all; simp [fuel]; omega)
    rw [placeOf_nil] at this
    exact this
  have hch : chunk 1 h.length (cellsOf (placeOf h.length (order h roots))) = some (rows (placeOf h.length (order h roots))) := by
    have := chunk_cl k_Int (placeOf h.length (order h roots))
    rwa [placeOf_len] at this
  have hr : rows [(-1 : Int)] = [[.int .i64 (-1)]] := rfl
  simp only [vsl, hr] at h1
  simp [KF, params, f27, ↓K_seq, ↓K_cond, ↓K_block, ↓K_region, ↓K_skip, ↓K_exit, ↓K_ret, ↓K_wrap, ↓KA_nil, ↓KA_none, ↓KA_some, beq_int, bne_int, dec_eqN, dec_ltN, dec_leN, stepOp, St.rd, St.raw, St.set, St.took, get_cons, V.down, C.down, Env.keep, binV, unV, arith, isShift, strs, intOf, optInt, wrapEnd, keptAt, andK, endOf, frzV, frz1, frzC, frzCs, frz1s, resOf, resOne, resAll, V.closed, V.closed1, C.closed, B.closed, Ob.closed, V.cells, partsIn, rep, chunk, datas, C.data, rowsOf, getCells, put_nil, put_zero, put_succ, mayWrite, C.plain, eqV_bool, eqV_agg, eqV_pnn, eqV_pnp, eqV_ppn, eqV_mnn, eqV_mmn, eqV_snn, eqV_sen, eqV_san, eqV_sdn, rs_len, rs_getE, rs_app, rs_take, rs_drop, rs_all, rs_each, row_len, str_eq, vagg, row_Int, row_Bool, row_Str, k_Int, k_Bool, k_Str, snoc_Int, snoc_Bool, snoc_Str, row_Type, k_Type, snoc_Type, eta_Type, sames_Type, row_Field, k_Field, snoc_Field, eta_Field, sames_Field, row_Instr, k_Instr, snoc_Instr, eta_Instr, sames_Instr, row_Catch, k_Catch, snoc_Catch, eta_Catch, sames_Catch, row_Method, k_Method, snoc_Method, row_Class, k_Class, snoc_Class, row_Program, k_Program, snoc_Program, row_Slot, k_Slot, snoc_Slot, eta_Slot, sames_Slot, row_State, k_State, snoc_State, row_Val, k_Val, snoc_Val, eta_Val, sames_Val, row_Obj, k_Obj, snoc_Obj, row_Input, k_Input, snoc_Input, row_Frame, k_Frame, snoc_Frame, row_Run, k_Run, snoc_Run, row_Way, k_Way, snoc_Way, eta_Way, sames_Way, row_Task, k_Task, snoc_Task, eta_Task, sames_Task, h1, h2, L, hch]

theorem fn15 {h : List GObj} {roots : List GVal} (H : Small h roots) (σ : List Ob) (lo tr : Nat) : Fn fns 15 [vsl h, vsl roots] σ lo tr = some (vsl (order h roots), σ) := by
  refine fn_gen t15 rfl (σ1 := []) rfl rfl ?_ σ lo tr
  have h1 := fn27 H
  simp [KF, params, f15, ↓K_seq, ↓K_cond, ↓K_block, ↓K_region, ↓K_skip, ↓K_exit, ↓K_ret, ↓K_wrap, ↓KA_nil, ↓KA_none, ↓KA_some, beq_int, bne_int, dec_eqN, dec_ltN, dec_leN, stepOp, St.rd, St.raw, St.set, St.took, get_cons, V.down, C.down, Env.keep, binV, unV, arith, isShift, strs, intOf, optInt, wrapEnd, keptAt, andK, endOf, frzV, frz1, frzC, frzCs, frz1s, resOf, resOne, resAll, V.closed, V.closed1, C.closed, B.closed, Ob.closed, V.cells, partsIn, rep, chunk, datas, C.data, rowsOf, getCells, put_nil, put_zero, put_succ, mayWrite, C.plain, eqV_bool, eqV_agg, eqV_pnn, eqV_pnp, eqV_ppn, eqV_mnn, eqV_mmn, eqV_snn, eqV_sen, eqV_san, eqV_sdn, rs_len, rs_getE, rs_app, rs_take, rs_drop, rs_all, rs_each, row_len, str_eq, vagg, row_Int, row_Bool, row_Str, k_Int, k_Bool, k_Str, snoc_Int, snoc_Bool, snoc_Str, row_Type, k_Type, snoc_Type, eta_Type, sames_Type, row_Field, k_Field, snoc_Field, eta_Field, sames_Field, row_Instr, k_Instr, snoc_Instr, eta_Instr, sames_Instr, row_Catch, k_Catch, snoc_Catch, eta_Catch, sames_Catch, row_Method, k_Method, snoc_Method, row_Class, k_Class, snoc_Class, row_Program, k_Program, snoc_Program, row_Slot, k_Slot, snoc_Slot, eta_Slot, sames_Slot, row_State, k_State, snoc_State, row_Val, k_Val, snoc_Val, eta_Val, sames_Val, row_Obj, k_Obj, snoc_Obj, row_Input, k_Input, snoc_Input, row_Frame, k_Frame, snoc_Frame, row_Run, k_Run, snoc_Run, row_Way, k_Way, snoc_Way, eta_Way, sames_Way, row_Task, k_Task, snoc_Task, eta_Task, sames_Task, h1]

/-- A value by its place. -/
def ren (o : List Int) (v : GVal) : GVal := if v.isRef then ⟨true, ixOf o v.n⟩ else v
def mvP (place : List Int) (v : GVal) : GVal := if v.isRef then ⟨true, if 0 ≤ v.n ∧ v.n < place.length then (place[v.n.toNat]?).getD 0 else -1⟩ else v

theorem mvP_ren {n : Nat} {o : List Int} (ho : ∀ x ∈ o, 0 ≤ x ∧ x < n) (v : GVal) : mvP (placeOf n o) v = ren o v := by
  unfold mvP ren
  split
  · congr 1
    rw [placeOf_len]
    split
    · rename_i h1
      have : v.n.toNat < (placeOf n o).length := by rw [placeOf_len]; omega
      rw [List.getElem?_eq_getElem this, Option.getD_some, placeOf_get]
      congr 1; omega
    · rename_i h1
      rw [ixOf_not (fun h2 => h1 (ho _ h2))]
  · rfl

theorem fn28 (l : List GVal) (place : List Int) (hl : l.length < 1000000000) (σ : List Ob) (lo tr : Nat) : Fn fns 28 [vsl l, vsl place] σ lo tr = some (vsl (l.map (mvP place)), σ) := by
  refine fn_gen t28 rfl (σ1 := []) rfl rfl ?_ σ lo tr
  cases hl0 : l with
  | nil =>
    have h1 : Fn fns 4132 [vsl ([] : List GVal)] [] 0 0 = some (.c (.b (.d (.sl []))), []) := 
      fn_split_free t36v1 (by simp [f36v1]) rfl (σ2 := []) (by simp [KF, params, f36v1, ↓K_seq, ↓K_cond, ↓K_block, ↓K_region, ↓K_skip, ↓K_exit, ↓K_ret, ↓K_wrap, ↓KA_nil, ↓KA_none, ↓KA_some, beq_int, bne_int, dec_eqN, dec_ltN, dec_leN, stepOp, St.rd, St.raw, St.set, St.took, get_cons, V.down, C.down, Env.keep, binV, unV, arith, isShift, strs, intOf, optInt, wrapEnd, keptAt, andK, endOf, frzV, frz1, frzC, frzCs, frz1s, resOf, resOne, resAll, V.closed, V.closed1, C.closed, B.closed, Ob.closed, V.cells, partsIn, rep, chunk, datas, C.data, rowsOf, getCells, put_nil, put_zero, put_succ, mayWrite, C.plain, eqV_bool, eqV_agg, eqV_pnn, eqV_pnp, eqV_ppn, eqV_mnn, eqV_mmn, eqV_snn, eqV_sen, eqV_san, eqV_sdn, rs_len, rs_getE, rs_app, rs_take, rs_drop, rs_all, rs_each, row_len, str_eq, vagg, row_Int, row_Bool, row_Str, k_Int, k_Bool, k_Str, snoc_Int, snoc_Bool, snoc_Str, row_Type, k_Type, snoc_Type, eta_Type, sames_Type, row_Field, k_Field, snoc_Field, eta_Field, sames_Field, row_Instr, k_Instr, snoc_Instr, eta_Instr, sames_Instr, row_Catch, k_Catch, snoc_Catch, eta_Catch, sames_Catch, row_Method, k_Method, snoc_Method, row_Class, k_Class, snoc_Class, row_Program, k_Program, snoc_Program, row_Slot, k_Slot, snoc_Slot, eta_Slot, sames_Slot, row_State, k_State, snoc_State, row_Val, k_Val, snoc_Val, eta_Val, sames_Val, row_Obj, k_Obj, snoc_Obj, row_Input, k_Input, snoc_Input, row_Frame, k_Frame, snoc_Frame, row_Run, k_Run, snoc_Run, row_Way, k_Way, snoc_Way, eta_Way, sames_Way, row_Task, k_Task, snoc_Task, eta_Task, sames_Task]) (by simp [KF, params, f36v1, ↓K_seq, ↓K_cond, ↓K_block, ↓K_region, ↓K_skip, ↓K_exit, ↓K_ret, ↓K_wrap, ↓KA_nil, ↓KA_none, ↓KA_some, beq_int, bne_int, dec_eqN, dec_ltN, dec_leN, stepOp, St.rd, St.raw, St.set, St.took, get_cons, V.down, C.down, Env.keep, binV, unV, arith, isShift, strs, intOf, optInt, wrapEnd, keptAt, andK, endOf, frzV, frz1, frzC, frzCs, frz1s, resOf, resOne, resAll, V.closed, V.closed1, C.closed, B.closed, Ob.closed, V.cells, partsIn, rep, chunk, datas, C.data, rowsOf, getCells, put_nil, put_zero, put_succ, mayWrite, C.plain, eqV_bool, eqV_agg, eqV_pnn, eqV_pnp, eqV_ppn, eqV_mnn, eqV_mmn, eqV_snn, eqV_sen, eqV_san, eqV_sdn, rs_len, rs_getE, rs_app, rs_take, rs_drop, rs_all, rs_each, row_len, str_eq, vagg, row_Int, row_Bool, row_Str, k_Int, k_Bool, k_Str, snoc_Int, snoc_Bool, snoc_Str, row_Type, k_Type, snoc_Type, eta_Type, sames_Type, row_Field, k_Field, snoc_Field, eta_Field, sames_Field, row_Instr, k_Instr, snoc_Instr, eta_Instr, sames_Instr, row_Catch, k_Catch, snoc_Catch, eta_Catch, sames_Catch, row_Method, k_Method, snoc_Method, row_Class, k_Class, snoc_Class, row_Program, k_Program, snoc_Program, row_Slot, k_Slot, snoc_Slot, eta_Slot, sames_Slot, row_State, k_State, snoc_State, row_Val, k_Val, snoc_Val, eta_Val, sames_Val, row_Obj, k_Obj, snoc_Obj, row_Input, k_Input, snoc_Input, row_Frame, k_Frame, snoc_Frame, row_Run, k_Run, snoc_Run, row_Way, k_Way, snoc_Way, eta_Way, sames_Way, row_Task, k_Task, snoc_Task, eta_Task, sames_Task, elems]) rfl
    simp only [vsl, rs_nil] at h1
    simp [KF, params, f28, ↓K_seq, ↓K_cond, ↓K_block, ↓K_region, ↓K_skip, ↓K_exit, ↓K_ret, ↓K_wrap, ↓KA_nil, ↓KA_none, ↓KA_some, beq_int, bne_int, dec_eqN, dec_ltN, dec_leN, stepOp, St.rd, St.raw, St.set, St.took, get_cons, V.down, C.down, Env.keep, binV, unV, arith, isShift, strs, intOf, optInt, wrapEnd, keptAt, andK, endOf, frzV, frz1, frzC, frzCs, frz1s, resOf, resOne, resAll, V.closed, V.closed1, C.closed, B.closed, Ob.closed, V.cells, partsIn, rep, chunk, datas, C.data, rowsOf, getCells, put_nil, put_zero, put_succ, mayWrite, C.plain, eqV_bool, eqV_agg, eqV_pnn, eqV_pnp, eqV_ppn, eqV_mnn, eqV_mmn, eqV_snn, eqV_sen, eqV_san, eqV_sdn, rs_len, rs_getE, rs_app, rs_take, rs_drop, rs_all, rs_each, row_len, str_eq, vagg, row_Int, row_Bool, row_Str, k_Int, k_Bool, k_Str, snoc_Int, snoc_Bool, snoc_Str, row_Type, k_Type, snoc_Type, eta_Type, sames_Type, row_Field, k_Field, snoc_Field, eta_Field, sames_Field, row_Instr, k_Instr, snoc_Instr, eta_Instr, sames_Instr, row_Catch, k_Catch, snoc_Catch, eta_Catch, sames_Catch, row_Method, k_Method, snoc_Method, row_Class, k_Class, snoc_Class, row_Program, k_Program, snoc_Program, row_Slot, k_Slot, snoc_Slot, eta_Slot, sames_Slot, row_State, k_State, snoc_State, row_Val, k_Val, snoc_Val, eta_Val, sames_Val, row_Obj, k_Obj, snoc_Obj, row_Input, k_Input, snoc_Input, row_Frame, k_Frame, snoc_Frame, row_Run, k_Run, snoc_Run, row_Way, k_Way, snoc_Way, eta_Way, sames_Way, row_Task, k_Task, snoc_Task, eta_Task, sames_Task, rs_nil, h1]
    rw [u28_l0]
    simp [f28_b0, ↓K_seq, ↓K_cond, ↓K_block, ↓K_region, ↓K_skip, ↓K_exit, ↓K_ret, ↓K_wrap, ↓KA_nil, ↓KA_none, ↓KA_some, beq_int, bne_int, dec_eqN, dec_ltN, dec_leN, stepOp, St.rd, St.raw, St.set, St.took, get_cons, V.down, C.down, Env.keep, binV, unV, arith, isShift, strs, intOf, optInt, wrapEnd, keptAt, andK, endOf, frzV, frz1, frzC, frzCs, frz1s, resOf, resOne, resAll, V.closed, V.closed1, C.closed, B.closed, Ob.closed, V.cells, partsIn, rep, chunk, datas, C.data, rowsOf, getCells, put_nil, put_zero, put_succ, mayWrite, C.plain, eqV_bool, eqV_agg, eqV_pnn, eqV_pnp, eqV_ppn, eqV_mnn, eqV_mmn, eqV_snn, eqV_sen, eqV_san, eqV_sdn, rs_len, rs_getE, rs_app, rs_take, rs_drop, rs_all, rs_each, row_len, str_eq, vagg, row_Int, row_Bool, row_Str, k_Int, k_Bool, k_Str, snoc_Int, snoc_Bool, snoc_Str, row_Type, k_Type, snoc_Type, eta_Type, sames_Type, row_Field, k_Field, snoc_Field, eta_Field, sames_Field, row_Instr, k_Instr, snoc_Instr, eta_Instr, sames_Instr, row_Catch, k_Catch, snoc_Catch, eta_Catch, sames_Catch, row_Method, k_Method, snoc_Method, row_Class, k_Class, snoc_Class, row_Program, k_Program, snoc_Program, row_Slot, k_Slot, snoc_Slot, eta_Slot, sames_Slot, row_State, k_State, snoc_State, row_Val, k_Val, snoc_Val, eta_Val, sames_Val, row_Obj, k_Obj, snoc_Obj, row_Input, k_Input, snoc_Input, row_Frame, k_Frame, snoc_Frame, row_Run, k_Run, snoc_Run, row_Way, k_Way, snoc_Way, eta_Way, sames_Way, row_Task, k_Task, snoc_Task, eta_Task, sames_Task, rs_nil]
  | cons v0 l0 =>
  rw [← hl0]
  have hne : l ≠ [] := by rw [hl0]; simp
  have h1 := fn36v l hl hne
  have L : ∀ k : AExit → St → Option (V × List Ob), K fns ⟨0, 0⟩ f28_l0 ⟨[(1, vsl place), (5, .c (.b (.arr 2 1 0 l.length))), (10, .c (.b (.arr 2 1 0 l.length))), (11, vint l.length), (12, vint 0)], [.dead, .cells (cellsOf l)]⟩ k =
      k (.exit 0) ⟨[(5, .c (.b (.arr 2 1 0 l.length)))], [.dead, .cells (cellsOf (l.map (mvP place)))]⟩ := fun k =>
    scan_upd (l := l) (f := mvP place) (X := fun i c => K fns ⟨0, 0⟩ f28_l0 ⟨[(1, vsl place), (5, .c (.b (.arr 2 1 0 l.length))), (10, .c (.b (.arr 2 1 0 l.length))), (11, vint l.length), (12, vint i)], [.dead, .cells (cellsOf c)]⟩ k)
      (e := fun c => k (.exit 0) ⟨[(5, .c (.b (.arr 2 1 0 l.length)))], [.dead, .cells (cellsOf c)]⟩)
      (fun i c hi hi' hcl hci => by
        have hw := wrap_succ (i := i) (by omega)
        have hlen := cl_len k_Val c
        have hle : i * 2 + 2 ≤ c.length * 2 := by omega
        have htk := cl_take k_Val hi
        rw [row_Val] at htk
        simp only [box1, List.map_cons, List.map_nil] at htk
        have hput : ∀ x : Int, putAt (cellsOf c) (i * 2 + 1) [.b (.d (.int .i64 x))] = some (cellsOf (c.set i ⟨c[i].isRef, x⟩)) := fun x => by
          have := cl_put k_Val hi (j := 1) (v := ⟨c[i].isRef, x⟩) (ds := [.int .i64 x]) (by simp) (by simp [row_Val])
          simpa [box1] using this
        have hput2 : ∀ x y : Int, putAt (cellsOf (c.set i ⟨true, y⟩)) (i * 2 + 1) [.b (.d (.int .i64 x))] = some (cellsOf (c.set i ⟨true, x⟩)) := fun x y => by
          have hi2 : i < (c.set i (⟨true, y⟩ : GVal)).length := by simpa using hi
          have := cl_put k_Val hi2 (j := 1) (v := ⟨true, x⟩) (ds := [.int .i64 x]) (by simp) (by simp [row_Val])
          simpa [box1] using this
        show K fns _ f28_l0 _ k = _
        rw [u28_l0]
        cases hr : c[i].isRef with
        | false =>
          have e : c.set i (mvP place c[i]) = c := by
            have : mvP place c[i] = c[i] := by simp [mvP, hr]
            rw [this]; simp
          rw [e]
          simp [f28_b0, ↓K_seq, ↓K_cond, ↓K_block, ↓K_region, ↓K_skip, ↓K_exit, ↓K_ret, ↓K_wrap, ↓KA_nil, ↓KA_none, ↓KA_some, beq_int, bne_int, dec_eqN, dec_ltN, dec_leN, stepOp, St.rd, St.raw, St.set, St.took, get_cons, V.down, C.down, Env.keep, binV, unV, arith, isShift, strs, intOf, optInt, wrapEnd, keptAt, andK, endOf, frzV, frz1, frzC, frzCs, frz1s, resOf, resOne, resAll, V.closed, V.closed1, C.closed, B.closed, Ob.closed, V.cells, partsIn, rep, chunk, datas, C.data, rowsOf, getCells, put_nil, put_zero, put_succ, mayWrite, C.plain, eqV_bool, eqV_agg, eqV_pnn, eqV_pnp, eqV_ppn, eqV_mnn, eqV_mmn, eqV_snn, eqV_sen, eqV_san, eqV_sdn, rs_len, rs_getE, rs_app, rs_take, rs_drop, rs_all, rs_each, row_len, str_eq, vagg, row_Int, row_Bool, row_Str, k_Int, k_Bool, k_Str, snoc_Int, snoc_Bool, snoc_Str, row_Type, k_Type, snoc_Type, eta_Type, sames_Type, row_Field, k_Field, snoc_Field, eta_Field, sames_Field, row_Instr, k_Instr, snoc_Instr, eta_Instr, sames_Instr, row_Catch, k_Catch, snoc_Catch, eta_Catch, sames_Catch, row_Method, k_Method, snoc_Method, row_Class, k_Class, snoc_Class, row_Program, k_Program, snoc_Program, row_Slot, k_Slot, snoc_Slot, eta_Slot, sames_Slot, row_State, k_State, snoc_State, row_Val, k_Val, snoc_Val, eta_Val, sames_Val, row_Obj, k_Obj, snoc_Obj, row_Input, k_Input, snoc_Input, row_Frame, k_Frame, snoc_Frame, row_Run, k_Run, snoc_Run, row_Way, k_Way, snoc_Way, eta_Way, sames_Way, row_Task, k_Task, snoc_Task, eta_Task, sames_Task, hi', hle, hlen, htk, hr, hw, cl_closed]
        | true =>
          have hm : mvP place c[i] = ⟨c[i].isRef, if 0 ≤ c[i].n ∧ c[i].n < place.length then (place[c[i].n.toNat]?).getD 0 else -1⟩ := by simp [mvP, hr]
          rw [hm]
          by_cases c1 : 0 ≤ c[i].n
          · by_cases c2 : c[i].n < place.length
            · obtain ⟨j, hj⟩ : ∃ j : Nat, c[i].n = j := ⟨c[i].n.toNat, by omega⟩
              rw [hj] at c1 c2
              have hjl : j < place.length := by omega
              rw [hj, if_pos ⟨c1, c2⟩]
              simp [f28_b0, ↓K_seq, ↓K_cond, ↓K_block, ↓K_region, ↓K_skip, ↓K_exit, ↓K_ret, ↓K_wrap, ↓KA_nil, ↓KA_none, ↓KA_some, beq_int, bne_int, dec_eqN, dec_ltN, dec_leN, stepOp, St.rd, St.raw, St.set, St.took, get_cons, V.down, C.down, Env.keep, binV, unV, arith, isShift, strs, intOf, optInt, wrapEnd, keptAt, andK, endOf, frzV, frz1, frzC, frzCs, frz1s, resOf, resOne, resAll, V.closed, V.closed1, C.closed, B.closed, Ob.closed, V.cells, partsIn, rep, chunk, datas, C.data, rowsOf, getCells, put_nil, put_zero, put_succ, mayWrite, C.plain, eqV_bool, eqV_agg, eqV_pnn, eqV_pnp, eqV_ppn, eqV_mnn, eqV_mmn, eqV_snn, eqV_sen, eqV_san, eqV_sdn, rs_len, rs_getE, rs_app, rs_take, rs_drop, rs_all, rs_each, row_len, str_eq, vagg, row_Int, row_Bool, row_Str, k_Int, k_Bool, k_Str, snoc_Int, snoc_Bool, snoc_Str, row_Type, k_Type, snoc_Type, eta_Type, sames_Type, row_Field, k_Field, snoc_Field, eta_Field, sames_Field, row_Instr, k_Instr, snoc_Instr, eta_Instr, sames_Instr, row_Catch, k_Catch, snoc_Catch, eta_Catch, sames_Catch, row_Method, k_Method, snoc_Method, row_Class, k_Class, snoc_Class, row_Program, k_Program, snoc_Program, row_Slot, k_Slot, snoc_Slot, eta_Slot, sames_Slot, row_State, k_State, snoc_State, row_Val, k_Val, snoc_Val, eta_Val, sames_Val, row_Obj, k_Obj, snoc_Obj, row_Input, k_Input, snoc_Input, row_Frame, k_Frame, snoc_Frame, row_Run, k_Run, snoc_Run, row_Way, k_Way, snoc_Way, eta_Way, sames_Way, row_Task, k_Task, snoc_Task, eta_Task, sames_Task, hi', hle, hlen, htk, hr, hw, cl_closed, hput, hput2, c1, hjl, hj]
            · rw [if_neg (by omega)]
              simp [f28_b0, ↓K_seq, ↓K_cond, ↓K_block, ↓K_region, ↓K_skip, ↓K_exit, ↓K_ret, ↓K_wrap, ↓KA_nil, ↓KA_none, ↓KA_some, beq_int, bne_int, dec_eqN, dec_ltN, dec_leN, stepOp, St.rd, St.raw, St.set, St.took, get_cons, V.down, C.down, Env.keep, binV, unV, arith, isShift, strs, intOf, optInt, wrapEnd, keptAt, andK, endOf, frzV, frz1, frzC, frzCs, frz1s, resOf, resOne, resAll, V.closed, V.closed1, C.closed, B.closed, Ob.closed, V.cells, partsIn, rep, chunk, datas, C.data, rowsOf, getCells, put_nil, put_zero, put_succ, mayWrite, C.plain, eqV_bool, eqV_agg, eqV_pnn, eqV_pnp, eqV_ppn, eqV_mnn, eqV_mmn, eqV_snn, eqV_sen, eqV_san, eqV_sdn, rs_len, rs_getE, rs_app, rs_take, rs_drop, rs_all, rs_each, row_len, str_eq, vagg, row_Int, row_Bool, row_Str, k_Int, k_Bool, k_Str, snoc_Int, snoc_Bool, snoc_Str, row_Type, k_Type, snoc_Type, eta_Type, sames_Type, row_Field, k_Field, snoc_Field, eta_Field, sames_Field, row_Instr, k_Instr, snoc_Instr, eta_Instr, sames_Instr, row_Catch, k_Catch, snoc_Catch, eta_Catch, sames_Catch, row_Method, k_Method, snoc_Method, row_Class, k_Class, snoc_Class, row_Program, k_Program, snoc_Program, row_Slot, k_Slot, snoc_Slot, eta_Slot, sames_Slot, row_State, k_State, snoc_State, row_Val, k_Val, snoc_Val, eta_Val, sames_Val, row_Obj, k_Obj, snoc_Obj, row_Input, k_Input, snoc_Input, row_Frame, k_Frame, snoc_Frame, row_Run, k_Run, snoc_Run, row_Way, k_Way, snoc_Way, eta_Way, sames_Way, row_Task, k_Task, snoc_Task, eta_Task, sames_Task, hi', hle, hlen, htk, hr, hw, cl_closed, hput, c1, c2]
          · rw [if_neg (by omega)]
            simp [f28_b0, ↓K_seq, ↓K_cond, ↓K_block, ↓K_region, ↓K_skip, ↓K_exit, ↓K_ret, ↓K_wrap, ↓KA_nil, ↓KA_none, ↓KA_some, beq_int, bne_int, dec_eqN, dec_ltN, dec_leN, stepOp, St.rd, St.raw, St.set, St.took, get_cons, V.down, C.down, Env.keep, binV, unV, arith, isShift, strs, intOf, optInt, wrapEnd, keptAt, andK, endOf, frzV, frz1, frzC, frzCs, frz1s, resOf, resOne, resAll, V.closed, V.closed1, C.closed, B.closed, Ob.closed, V.cells, partsIn, rep, chunk, datas, C.data, rowsOf, getCells, put_nil, put_zero, put_succ, mayWrite, C.plain, eqV_bool, eqV_agg, eqV_pnn, eqV_pnp, eqV_ppn, eqV_mnn, eqV_mmn, eqV_snn, eqV_sen, eqV_san, eqV_sdn, rs_len, rs_getE, rs_app, rs_take, rs_drop, rs_all, rs_each, row_len, str_eq, vagg, row_Int, row_Bool, row_Str, k_Int, k_Bool, k_Str, snoc_Int, snoc_Bool, snoc_Str, row_Type, k_Type, snoc_Type, eta_Type, sames_Type, row_Field, k_Field, snoc_Field, eta_Field, sames_Field, row_Instr, k_Instr, snoc_Instr, eta_Instr, sames_Instr, row_Catch, k_Catch, snoc_Catch, eta_Catch, sames_Catch, row_Method, k_Method, snoc_Method, row_Class, k_Class, snoc_Class, row_Program, k_Program, snoc_Program, row_Slot, k_Slot, snoc_Slot, eta_Slot, sames_Slot, row_State, k_State, snoc_State, row_Val, k_Val, snoc_Val, eta_Val, sames_Val, row_Obj, k_Obj, snoc_Obj, row_Input, k_Input, snoc_Input, row_Frame, k_Frame, snoc_Frame, row_Run, k_Run, snoc_Run, row_Way, k_Way, snoc_Way, eta_Way, sames_Way, row_Task, k_Task, snoc_Task, eta_Task, sames_Task, hi', hle, hlen, htk, hr, hw, cl_closed, hput, c1])
      (fun c hc => by
        show K fns _ f28_l0 _ k = _
        rw [u28_l0]
        simp [f28_b0, ↓K_seq, ↓K_cond, ↓K_block, ↓K_region, ↓K_skip, ↓K_exit, ↓K_ret, ↓K_wrap, ↓KA_nil, ↓KA_none, ↓KA_some, beq_int, bne_int, dec_eqN, dec_ltN, dec_leN, stepOp, St.rd, St.raw, St.set, St.took, get_cons, V.down, C.down, Env.keep, binV, unV, arith, isShift, strs, intOf, optInt, wrapEnd, keptAt, andK, endOf, frzV, frz1, frzC, frzCs, frz1s, resOf, resOne, resAll, V.closed, V.closed1, C.closed, B.closed, Ob.closed, V.cells, partsIn, rep, chunk, datas, C.data, rowsOf, getCells, put_nil, put_zero, put_succ, mayWrite, C.plain, eqV_bool, eqV_agg, eqV_pnn, eqV_pnp, eqV_ppn, eqV_mnn, eqV_mmn, eqV_snn, eqV_sen, eqV_san, eqV_sdn, rs_len, rs_getE, rs_app, rs_take, rs_drop, rs_all, rs_each, row_len, str_eq, vagg, row_Int, row_Bool, row_Str, k_Int, k_Bool, k_Str, snoc_Int, snoc_Bool, snoc_Str, row_Type, k_Type, snoc_Type, eta_Type, sames_Type, row_Field, k_Field, snoc_Field, eta_Field, sames_Field, row_Instr, k_Instr, snoc_Instr, eta_Instr, sames_Instr, row_Catch, k_Catch, snoc_Catch, eta_Catch, sames_Catch, row_Method, k_Method, snoc_Method, row_Class, k_Class, snoc_Class, row_Program, k_Program, snoc_Program, row_Slot, k_Slot, snoc_Slot, eta_Slot, sames_Slot, row_State, k_State, snoc_State, row_Val, k_Val, snoc_Val, eta_Val, sames_Val, row_Obj, k_Obj, snoc_Obj, row_Input, k_Input, snoc_Input, row_Frame, k_Frame, snoc_Frame, row_Run, k_Run, snoc_Run, row_Way, k_Way, snoc_Way, eta_Way, sames_Way, row_Task, k_Task, snoc_Task, eta_Task, sames_Task, cl_closed])
  have hch : chunk 2 l.length (cellsOf (l.map (mvP place))) = some (rows (l.map (mvP place))) := by
    have := chunk_cl k_Val (l.map (mvP place))
    rwa [List.length_map] at this
  simp [KF, params, f28, ↓K_seq, ↓K_cond, ↓K_block, ↓K_region, ↓K_skip, ↓K_exit, ↓K_ret, ↓K_wrap, ↓KA_nil, ↓KA_none, ↓KA_some, beq_int, bne_int, dec_eqN, dec_ltN, dec_leN, stepOp, St.rd, St.raw, St.set, St.took, get_cons, V.down, C.down, Env.keep, binV, unV, arith, isShift, strs, intOf, optInt, wrapEnd, keptAt, andK, endOf, frzV, frz1, frzC, frzCs, frz1s, resOf, resOne, resAll, V.closed, V.closed1, C.closed, B.closed, Ob.closed, V.cells, partsIn, rep, chunk, datas, C.data, rowsOf, getCells, put_nil, put_zero, put_succ, mayWrite, C.plain, eqV_bool, eqV_agg, eqV_pnn, eqV_pnp, eqV_ppn, eqV_mnn, eqV_mmn, eqV_snn, eqV_sen, eqV_san, eqV_sdn, rs_len, rs_getE, rs_app, rs_take, rs_drop, rs_all, rs_each, row_len, str_eq, vagg, row_Int, row_Bool, row_Str, k_Int, k_Bool, k_Str, snoc_Int, snoc_Bool, snoc_Str, row_Type, k_Type, snoc_Type, eta_Type, sames_Type, row_Field, k_Field, snoc_Field, eta_Field, sames_Field, row_Instr, k_Instr, snoc_Instr, eta_Instr, sames_Instr, row_Catch, k_Catch, snoc_Catch, eta_Catch, sames_Catch, row_Method, k_Method, snoc_Method, row_Class, k_Class, snoc_Class, row_Program, k_Program, snoc_Program, row_Slot, k_Slot, snoc_Slot, eta_Slot, sames_Slot, row_State, k_State, snoc_State, row_Val, k_Val, snoc_Val, eta_Val, sames_Val, row_Obj, k_Obj, snoc_Obj, row_Input, k_Input, snoc_Input, row_Frame, k_Frame, snoc_Frame, row_Run, k_Run, snoc_Run, row_Way, k_Way, snoc_Way, eta_Way, sames_Way, row_Task, k_Task, snoc_Task, eta_Task, sames_Task, h1, L, hch]

def canon (h : List GObj) (roots : List GVal) : List GObj × List GVal :=
  let o := order h roots
  (o.map fun i => ⟨((h[i.toNat]?).getD default).type_, (slotsAt h i).map (ren o)⟩, roots.map (ren o))

theorem bfs_in {h : List GObj} : ∀ (n : Nat) (o : List Int) (t : List GVal), (∀ x ∈ o, 0 ≤ x ∧ x < h.length) → ∀ x ∈ bfs h n o t, 0 ≤ x ∧ x < h.length
  | 0, o, t, ho => by simpa [bfs] using ho
  | n + 1, o, [], ho => by simpa [bfs] using ho
  | n + 1, o, v :: t, ho => by
    rw [bfs]
    split
    · rename_i hc
      obtain ⟨k, rfl, hk⟩ := ok_nat hc.1
      refine bfs_in n _ _ (fun x hx => ?_)
      rcases List.mem_append.mp hx with hx | hx
      · exact ho x hx
      · simp at hx; subst hx; omega
    · exact bfs_in n o t ho

theorem order_in (h : List GObj) (roots : List GVal) : ∀ x ∈ order h roots, 0 ≤ x ∧ x < h.length := bfs_in _ _ _ (by simp)

theorem fn11 {h : List GObj} {roots : List GVal} (H : Small h roots) (σ : List Ob) (lo tr : Nat) : Fn fns 11 [vsl h, vsl roots] σ lo tr = some (.tup [vsl (canon h roots).1, vsl (canon h roots).2], σ) := by
  refine fn_gen t11 rfl (σ1 := []) rfl rfl ?_ σ lo tr
  have h1 := fn27 H
  have ho := order_in h roots
  have hol := order_len H
  have hmv : ∀ v, mvP (placeOf h.length (order h roots)) v = ren (order h roots) v := mvP_ren ho
  have hmm : mvP (placeOf h.length (order h roots)) = ren (order h roots) := funext hmv
  have h2 := fn28 roots (placeOf h.length (order h roots)) (by have := H.roots; omega)
  rw [hmm] at h2
  have L : ∀ k : AExit → St → Option (V × List Ob), K fns ⟨0, 0⟩ f11_l0 ⟨[(0, vsl h), (1, vsl roots), (7, vsl (placeOf h.length (order h roots))), (8, .c (.osl 3 [])), (17, vsl (order h roots)), (18, vint (order h roots).length), (19, vint 0)], []⟩ k =
      k (.exit 0) ⟨[(1, vsl roots), (7, vsl (placeOf h.length (order h roots))), (8, .c (.osl 3 (rows (canon h roots).1)))], []⟩ := fun k =>
    scan_map (l := order h roots) (f := fun i => (⟨((h[i.toNat]?).getD default).type_, (slotsAt h i).map (ren (order h roots))⟩ : GObj))
      (X := fun i c => K fns ⟨0, 0⟩ f11_l0 ⟨[(0, vsl h), (1, vsl roots), (7, vsl (placeOf h.length (order h roots))), (8, .c (.osl 3 (rows c))), (17, vsl (order h roots)), (18, vint (order h roots).length), (19, vint i)], []⟩ k)
      (e := fun c => k (.exit 0) ⟨[(1, vsl roots), (7, vsl (placeOf h.length (order h roots))), (8, .c (.osl 3 (rows c)))], []⟩)
      (fun i c hi hc => by
        have hw := wrap_succ (i := i) (by omega)
        have hcl : c.length = i := by rw [hc]; simp; omega
        obtain ⟨j, hj⟩ : ∃ j : Nat, (order h roots)[i] = j := ⟨(order h roots)[i].toNat, by have := ho _ (List.getElem_mem hi); omega⟩
        have hjl : j < h.length := by have := ho _ (List.getElem_mem hi); omega
        have hf := fn28 h[j].slots (placeOf h.length (order h roots)) (by have := H.slots _ (List.getElem_mem hjl); omega)
        rw [hmm] at hf
        have hs := slotsAt_nat hjl
        have q1 : c.length + 1 ≤ 70368744177664 := by omega
        have q2 : (c.length + 1) * 48 ≤ 70368744177664 := by omega
        show K fns _ f11_l0 _ k = _
        rw [u11_l0]
        simp [f11_b0, ↓K_seq, ↓K_cond, ↓K_block, ↓K_region, ↓K_skip, ↓K_exit, ↓K_ret, ↓K_wrap, ↓KA_nil, ↓KA_none, ↓KA_some, beq_int, bne_int, dec_eqN, dec_ltN, dec_leN, stepOp, St.rd, St.raw, St.set, St.took, get_cons, V.down, C.down, Env.keep, binV, unV, arith, isShift, strs, intOf, optInt, wrapEnd, keptAt, andK, endOf, frzV, frz1, frzC, frzCs, frz1s, resOf, resOne, resAll, V.closed, V.closed1, C.closed, B.closed, Ob.closed, V.cells, partsIn, rep, chunk, datas, C.data, rowsOf, getCells, put_nil, put_zero, put_succ, mayWrite, C.plain, eqV_bool, eqV_agg, eqV_pnn, eqV_pnp, eqV_ppn, eqV_mnn, eqV_mmn, eqV_snn, eqV_sen, eqV_san, eqV_sdn, rs_len, rs_getE, rs_app, rs_take, rs_drop, rs_all, rs_each, row_len, str_eq, vagg, row_Int, row_Bool, row_Str, k_Int, k_Bool, k_Str, snoc_Int, snoc_Bool, snoc_Str, row_Type, k_Type, snoc_Type, eta_Type, sames_Type, row_Field, k_Field, snoc_Field, eta_Field, sames_Field, row_Instr, k_Instr, snoc_Instr, eta_Instr, sames_Instr, row_Catch, k_Catch, snoc_Catch, eta_Catch, sames_Catch, row_Method, k_Method, snoc_Method, row_Class, k_Class, snoc_Class, row_Program, k_Program, snoc_Program, row_Slot, k_Slot, snoc_Slot, eta_Slot, sames_Slot, row_State, k_State, snoc_State, row_Val, k_Val, snoc_Val, eta_Val, sames_Val, row_Obj, k_Obj, snoc_Obj, row_Input, k_Input, snoc_Input, row_Frame, k_Frame, snoc_Frame, row_Run, k_Run, snoc_Run, row_Way, k_Way, snoc_Way, eta_Way, sames_Way, row_Task, k_Task, snoc_Task, eta_Task, sames_Task, hi, hw, hf, q1, q2, hj, hjl, hs])
      (fun c hc => by
        show K fns _ f11_l0 _ k = _
        rw [u11_l0]
        simp [f11_b0, ↓K_seq, ↓K_cond, ↓K_block, ↓K_region, ↓K_skip, ↓K_exit, ↓K_ret, ↓K_wrap, ↓KA_nil, ↓KA_none, ↓KA_some, beq_int, bne_int, dec_eqN, dec_ltN, dec_leN, stepOp, St.rd, St.raw, St.set, St.took, get_cons, V.down, C.down, Env.keep, binV, unV, arith, isShift, strs, intOf, optInt, wrapEnd, keptAt, andK, endOf, frzV, frz1, frzC, frzCs, frz1s, resOf, resOne, resAll, V.closed, V.closed1, C.closed, B.closed, Ob.closed, V.cells, partsIn, rep, chunk, datas, C.data, rowsOf, getCells, put_nil, put_zero, put_succ, mayWrite, C.plain, eqV_bool, eqV_agg, eqV_pnn, eqV_pnp, eqV_ppn, eqV_mnn, eqV_mmn, eqV_snn, eqV_sen, eqV_san, eqV_sdn, rs_len, rs_getE, rs_app, rs_take, rs_drop, rs_all, rs_each, row_len, str_eq, vagg, row_Int, row_Bool, row_Str, k_Int, k_Bool, k_Str, snoc_Int, snoc_Bool, snoc_Str, row_Type, k_Type, snoc_Type, eta_Type, sames_Type, row_Field, k_Field, snoc_Field, eta_Field, sames_Field, row_Instr, k_Instr, snoc_Instr, eta_Instr, sames_Instr, row_Catch, k_Catch, snoc_Catch, eta_Catch, sames_Catch, row_Method, k_Method, snoc_Method, row_Class, k_Class, snoc_Class, row_Program, k_Program, snoc_Program, row_Slot, k_Slot, snoc_Slot, eta_Slot, sames_Slot, row_State, k_State, snoc_State, row_Val, k_Val, snoc_Val, eta_Val, sames_Val, row_Obj, k_Obj, snoc_Obj, row_Input, k_Input, snoc_Input, row_Frame, k_Frame, snoc_Frame, row_Run, k_Run, snoc_Run, row_Way, k_Way, snoc_Way, eta_Way, sames_Way, row_Task, k_Task, snoc_Task, eta_Task, sames_Task])
  simp [KF, params, f11, ↓K_seq, ↓K_cond, ↓K_block, ↓K_region, ↓K_skip, ↓K_exit, ↓K_ret, ↓K_wrap, ↓KA_nil, ↓KA_none, ↓KA_some, beq_int, bne_int, dec_eqN, dec_ltN, dec_leN, stepOp, St.rd, St.raw, St.set, St.took, get_cons, V.down, C.down, Env.keep, binV, unV, arith, isShift, strs, intOf, optInt, wrapEnd, keptAt, andK, endOf, frzV, frz1, frzC, frzCs, frz1s, resOf, resOne, resAll, V.closed, V.closed1, C.closed, B.closed, Ob.closed, V.cells, partsIn, rep, chunk, datas, C.data, rowsOf, getCells, put_nil, put_zero, put_succ, mayWrite, C.plain, eqV_bool, eqV_agg, eqV_pnn, eqV_pnp, eqV_ppn, eqV_mnn, eqV_mmn, eqV_snn, eqV_sen, eqV_san, eqV_sdn, rs_len, rs_getE, rs_app, rs_take, rs_drop, rs_all, rs_each, row_len, str_eq, vagg, row_Int, row_Bool, row_Str, k_Int, k_Bool, k_Str, snoc_Int, snoc_Bool, snoc_Str, row_Type, k_Type, snoc_Type, eta_Type, sames_Type, row_Field, k_Field, snoc_Field, eta_Field, sames_Field, row_Instr, k_Instr, snoc_Instr, eta_Instr, sames_Instr, row_Catch, k_Catch, snoc_Catch, eta_Catch, sames_Catch, row_Method, k_Method, snoc_Method, row_Class, k_Class, snoc_Class, row_Program, k_Program, snoc_Program, row_Slot, k_Slot, snoc_Slot, eta_Slot, sames_Slot, row_State, k_State, snoc_State, row_Val, k_Val, snoc_Val, eta_Val, sames_Val, row_Obj, k_Obj, snoc_Obj, row_Input, k_Input, snoc_Input, row_Frame, k_Frame, snoc_Frame, row_Run, k_Run, snoc_Run, row_Way, k_Way, snoc_Way, eta_Way, sames_Way, row_Task, k_Task, snoc_Task, eta_Task, sames_Task, h1, h2, L]
  rfl

theorem fn13 {h g : List GObj} {x y : List GVal} (H : Small h x) (G : Small g y) (σ : List Ob) (lo tr : Nat) : Fn fns 13 [vsl h, vsl x, vsl g, vsl y] σ lo tr = some (vbool (decide (canon h x = canon g y)), σ) := by
  refine fn_gen t13 rfl (σ1 := []) rfl rfl ?_ σ lo tr
  have h1 := fn11 H
  have h2 := fn11 G
  have h3 := fn30 (canon h x).2 (canon g y).2 (by have := H.roots; simp [canon]; omega)
  have h4 := fn31 (canon h x).1 (canon g y).1 (by have := order_len H; simpa [canon] using this) (by
    intro o ho
    simp only [canon, List.mem_map] at ho
    obtain ⟨i, hi, rfl⟩ := ho
    have := order_in h x i hi
    obtain ⟨j, rfl⟩ : ∃ j : Nat, i = j := ⟨i.toNat, by omega⟩
    have hj : j < h.length := by omega
    have := H.slots _ (List.getElem_mem hj)
    simp [slotsAt_nat hj]; omega)
  have hp : canon h x = canon g y ↔ (canon h x).2 = (canon g y).2 ∧ (canon h x).1 = (canon g y).1 := by rw [Prod.ext_iff]; exact and_comm
  simp only [hp]
  cases hd1 : decide ((canon h x).2 = (canon g y).2)
  · have hc1 := of_decide_eq_false hd1
    simp [KF, params, f13, ↓K_seq, ↓K_cond, ↓K_block, ↓K_region, ↓K_skip, ↓K_exit, ↓K_ret, ↓K_wrap, ↓KA_nil, ↓KA_none, ↓KA_some, beq_int, bne_int, dec_eqN, dec_ltN, dec_leN, stepOp, St.rd, St.raw, St.set, St.took, get_cons, V.down, C.down, Env.keep, binV, unV, arith, isShift, strs, intOf, optInt, wrapEnd, keptAt, andK, endOf, frzV, frz1, frzC, frzCs, frz1s, resOf, resOne, resAll, V.closed, V.closed1, C.closed, B.closed, Ob.closed, V.cells, partsIn, rep, chunk, datas, C.data, rowsOf, getCells, put_nil, put_zero, put_succ, mayWrite, C.plain, eqV_bool, eqV_agg, eqV_pnn, eqV_pnp, eqV_ppn, eqV_mnn, eqV_mmn, eqV_snn, eqV_sen, eqV_san, eqV_sdn, rs_len, rs_getE, rs_app, rs_take, rs_drop, rs_all, rs_each, row_len, str_eq, vagg, row_Int, row_Bool, row_Str, k_Int, k_Bool, k_Str, snoc_Int, snoc_Bool, snoc_Str, row_Type, k_Type, snoc_Type, eta_Type, sames_Type, row_Field, k_Field, snoc_Field, eta_Field, sames_Field, row_Instr, k_Instr, snoc_Instr, eta_Instr, sames_Instr, row_Catch, k_Catch, snoc_Catch, eta_Catch, sames_Catch, row_Method, k_Method, snoc_Method, row_Class, k_Class, snoc_Class, row_Program, k_Program, snoc_Program, row_Slot, k_Slot, snoc_Slot, eta_Slot, sames_Slot, row_State, k_State, snoc_State, row_Val, k_Val, snoc_Val, eta_Val, sames_Val, row_Obj, k_Obj, snoc_Obj, row_Input, k_Input, snoc_Input, row_Frame, k_Frame, snoc_Frame, row_Run, k_Run, snoc_Run, row_Way, k_Way, snoc_Way, eta_Way, sames_Way, row_Task, k_Task, snoc_Task, eta_Task, sames_Task, h1, h2, h3, hc1]
  · simp [KF, params, f13, ↓K_seq, ↓K_cond, ↓K_block, ↓K_region, ↓K_skip, ↓K_exit, ↓K_ret, ↓K_wrap, ↓KA_nil, ↓KA_none, ↓KA_some, beq_int, bne_int, dec_eqN, dec_ltN, dec_leN, stepOp, St.rd, St.raw, St.set, St.took, get_cons, V.down, C.down, Env.keep, binV, unV, arith, isShift, strs, intOf, optInt, wrapEnd, keptAt, andK, endOf, frzV, frz1, frzC, frzCs, frz1s, resOf, resOne, resAll, V.closed, V.closed1, C.closed, B.closed, Ob.closed, V.cells, partsIn, rep, chunk, datas, C.data, rowsOf, getCells, put_nil, put_zero, put_succ, mayWrite, C.plain, eqV_bool, eqV_agg, eqV_pnn, eqV_pnp, eqV_ppn, eqV_mnn, eqV_mmn, eqV_snn, eqV_sen, eqV_san, eqV_sdn, rs_len, rs_getE, rs_app, rs_take, rs_drop, rs_all, rs_each, row_len, str_eq, vagg, row_Int, row_Bool, row_Str, k_Int, k_Bool, k_Str, snoc_Int, snoc_Bool, snoc_Str, row_Type, k_Type, snoc_Type, eta_Type, sames_Type, row_Field, k_Field, snoc_Field, eta_Field, sames_Field, row_Instr, k_Instr, snoc_Instr, eta_Instr, sames_Instr, row_Catch, k_Catch, snoc_Catch, eta_Catch, sames_Catch, row_Method, k_Method, snoc_Method, row_Class, k_Class, snoc_Class, row_Program, k_Program, snoc_Program, row_Slot, k_Slot, snoc_Slot, eta_Slot, sames_Slot, row_State, k_State, snoc_State, row_Val, k_Val, snoc_Val, eta_Val, sames_Val, row_Obj, k_Obj, snoc_Obj, row_Input, k_Input, snoc_Input, row_Frame, k_Frame, snoc_Frame, row_Run, k_Run, snoc_Run, row_Way, k_Way, snoc_Way, eta_Way, sames_Way, row_Task, k_Task, snoc_Task, eta_Task, sames_Task, h1, h2, h3, h4, hd1]
end Go.Proofs.Ytjkhkblabhaimaa.Am
