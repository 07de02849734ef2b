/- The heap in its order, in objects that may be written to. -/
import Derived.Test.YtjkhkblabhaimaaIsoI
namespace Go.Proofs.Ytjkhkblabhaimaa.Am
set_option linter.unusedSimpArgs false
set_option linter.unusedVariables false
open Go

theorem fn36w (l : List GVal) (hs : l.length < 1000000000) (hl : l ≠ []) (σ : List Ob) (lo tr : Nat) (hlo : lo ≤ σ.length) : Fn fns 4132 [vsl l] σ lo tr = some (.c (.b (.arr 2 (σ.length + 1) 0 l.length)), σ ++ [.dead, .cells (cellsOf l)]) := by
  have he2 : ∀ σ, elems σ 2 (.c (.b (.d (.sl (rows l))))) = some (l.length, cellsOf l) := fun σ => elems_rows k_Val σ l
  have h5 : l.length ≤ 70368744177664 := by omega
  have h6 : l.length * 16 ≤ 70368744177664 := by omega
  obtain ⟨m, hm⟩ : ∃ m, l.length = m + 1 := ⟨l.length - 1, by cases l <;> simp at hl ⊢⟩
  rw [fn_eq t36v1 (by cases l with | nil => exact absurd rfl hl | cons => rfl) rfl]
  have hn := eqV_sl hl []
  have hs0 : ∀ X : Ob, (σ ++ [X]).set σ.length Ob.dead = σ ++ [.dead] := fun X => by rw [List.set_append_right _ _ (by omega)]; simp
  rw [hm] at he2 h5 h6 ⊢
  simp [KF, params, f36v1, ↓K_seq, ↓K_cond, ↓K_block, ↓K_region, ↓K_skip, ↓K_exit, ↓K_ret, ↓K_wrap, ↓KA_nil, ↓KA_none, ↓KA_some, beq_int, bne_int, dec_eqN, dec_ltN, dec_leN, stepOp, St.rd, St.raw, St.set, St.took, get_cons, V.down, C.down, Env.keep, binV, unV, arith, isShift, strs, intOf, optInt, wrapEnd, keptAt, andK, endOf, frzV, frz1, frzC, frzCs, frz1s, resOf, resOne, resAll, V.closed, V.closed1, C.closed, B.closed, Ob.closed, V.cells, partsIn, rep, chunk, datas, C.data, rowsOf, getCells, put_nil, put_zero, put_succ, mayWrite, C.plain, eqV_bool, eqV_agg, eqV_pnn, eqV_pnp, eqV_ppn, eqV_mnn, eqV_mmn, eqV_snn, eqV_sen, eqV_san, eqV_sdn, rs_len, rs_getE, rs_app, rs_take, rs_drop, rs_all, rs_each, row_len, str_eq, vagg, row_Int, row_Bool, row_Str, k_Int, k_Bool, k_Str, snoc_Int, snoc_Bool, snoc_Str, row_Type, k_Type, snoc_Type, eta_Type, sames_Type, row_Field, k_Field, snoc_Field, eta_Field, sames_Field, row_Instr, k_Instr, snoc_Instr, eta_Instr, sames_Instr, row_Catch, k_Catch, snoc_Catch, eta_Catch, sames_Catch, row_Method, k_Method, snoc_Method, row_Class, k_Class, snoc_Class, row_Program, k_Program, snoc_Program, row_Slot, k_Slot, snoc_Slot, eta_Slot, sames_Slot, row_State, k_State, snoc_State, row_Val, k_Val, snoc_Val, eta_Val, sames_Val, row_Obj, k_Obj, snoc_Obj, row_Input, k_Input, snoc_Input, row_Frame, k_Frame, snoc_Frame, row_Run, k_Run, snoc_Run, row_Way, k_Way, snoc_Way, eta_Way, sames_Way, row_Task, k_Task, snoc_Task, eta_Task, sames_Task, he2, hn, h5, h6, hlo, hs0]

theorem fn36w0 (σ : List Ob) (lo tr : Nat) (hlo : lo ≤ σ.length) : Fn fns 4132 [vsl ([] : List GVal)] σ lo tr = some (.c (.b (.d (.sl []))), σ) := by
  have hm : max lo σ.length ≤ σ.length := by omega
  have hs0 : ∀ X : Ob, (σ ++ [X]).set σ.length Ob.dead = σ ++ [.dead] := fun X => by rw [List.set_append_right _ _ (by omega)]; simp
  exact fn_split_free t36v1 (by simp [f36v1]) rfl (σ2 := σ) (by simp [KF, params, f36v1, ↓K_seq, ↓K_cond, ↓K_block, ↓K_region, ↓K_skip, ↓K_exit, ↓K_ret, ↓K_wrap, ↓KA_nil, ↓KA_none, ↓KA_some, beq_int, bne_int, dec_eqN, dec_ltN, dec_leN, stepOp, St.rd, St.raw, St.set, St.took, get_cons, V.down, C.down, Env.keep, binV, unV, arith, isShift, strs, intOf, optInt, wrapEnd, keptAt, andK, endOf, frzV, frz1, frzC, frzCs, frz1s, resOf, resOne, resAll, V.closed, V.closed1, C.closed, B.closed, Ob.closed, V.cells, partsIn, rep, chunk, datas, C.data, rowsOf, getCells, put_nil, put_zero, put_succ, mayWrite, C.plain, eqV_bool, eqV_agg, eqV_pnn, eqV_pnp, eqV_ppn, eqV_mnn, eqV_mmn, eqV_snn, eqV_sen, eqV_san, eqV_sdn, rs_len, rs_getE, rs_app, rs_take, rs_drop, rs_all, rs_each, row_len, str_eq, vagg, row_Int, row_Bool, row_Str, k_Int, k_Bool, k_Str, snoc_Int, snoc_Bool, snoc_Str, row_Type, k_Type, snoc_Type, eta_Type, sames_Type, row_Field, k_Field, snoc_Field, eta_Field, sames_Field, row_Instr, k_Instr, snoc_Instr, eta_Instr, sames_Instr, row_Catch, k_Catch, snoc_Catch, eta_Catch, sames_Catch, row_Method, k_Method, snoc_Method, row_Class, k_Class, snoc_Class, row_Program, k_Program, snoc_Program, row_Slot, k_Slot, snoc_Slot, eta_Slot, sames_Slot, row_State, k_State, snoc_State, row_Val, k_Val, snoc_Val, eta_Val, sames_Val, row_Obj, k_Obj, snoc_Obj, row_Input, k_Input, snoc_Input, row_Frame, k_Frame, snoc_Frame, row_Run, k_Run, snoc_Run, row_Way, k_Way, snoc_Way, eta_Way, sames_Way, row_Task, k_Task, snoc_Task, eta_Task, sames_Task]) (by simp [KF, params, f36v1, ↓K_seq, ↓K_cond, ↓K_block, ↓K_region, ↓K_skip, ↓K_exit, ↓K_ret, ↓K_wrap, ↓KA_nil, ↓KA_none, ↓KA_some, beq_int, bne_int, dec_eqN, dec_ltN, dec_leN, stepOp, St.rd, St.raw, St.set, St.took, get_cons, V.down, C.down, Env.keep, binV, unV, arith, isShift, strs, intOf, optInt, wrapEnd, keptAt, andK, endOf, frzV, frz1, frzC, frzCs, frz1s, resOf, resOne, resAll, V.closed, V.closed1, C.closed, B.closed, Ob.closed, V.cells, partsIn, rep, chunk, datas, C.data, rowsOf, getCells, put_nil, put_zero, put_succ, mayWrite, C.plain, eqV_bool, eqV_agg, eqV_pnn, eqV_pnp, eqV_ppn, eqV_mnn, eqV_mmn, eqV_snn, eqV_sen, eqV_san, eqV_sdn, rs_len, rs_getE, rs_app, rs_take, rs_drop, rs_all, rs_each, row_len, str_eq, vagg, row_Int, row_Bool, row_Str, k_Int, k_Bool, k_Str, snoc_Int, snoc_Bool, snoc_Str, row_Type, k_Type, snoc_Type, eta_Type, sames_Type, row_Field, k_Field, snoc_Field, eta_Field, sames_Field, row_Instr, k_Instr, snoc_Instr, eta_Instr, sames_Instr, row_Catch, k_Catch, snoc_Catch, eta_Catch, sames_Catch, row_Method, k_Method, snoc_Method, row_Class, k_Class, snoc_Class, row_Program, k_Program, snoc_Program, row_Slot, k_Slot, snoc_Slot, eta_Slot, sames_Slot, row_State, k_State, snoc_State, row_Val, k_Val, snoc_Val, eta_Val, sames_Val, row_Obj, k_Obj, snoc_Obj, row_Input, k_Input, snoc_Input, row_Frame, k_Frame, snoc_Frame, row_Run, k_Run, snoc_Run, row_Way, k_Way, snoc_Way, eta_Way, sames_Way, row_Task, k_Task, snoc_Task, eta_Task, sames_Task, elems, hm, hs0]) rfl

def bxV (v : GVal) : Ob := .cells [.b (.d (.bool v.isRef)), .b (.d (.int .i64 v.n))]

theorem fn28w (l : List GVal) (place : List Int) (hl : l.length < 1000000000) (hne : l ≠ []) (σ : List Ob) (lo tr : Nat) (hlo : lo ≤ σ.length) :
    Fn fns 4124 [vsl l, vsl place] σ lo tr = some (.c (.b (.arr 2 (σ.length + 1) 0 l.length)), σ ++ (.dead :: .cells (cellsOf (l.map (mvP place))) :: l.map bxV)) := by
  rw [fn_eq t28v1 (by cases l with | nil => exact absurd rfl hne | cons => rfl) rfl]
  have h1 := fn36w l hl hne σ lo tr hlo
  have L : ∀ k : AExit → St → Option (V × List Ob), K fns ⟨lo, tr⟩ f28v1_l0 ⟨[(1, vsl place), (5, .c (.b (.arr 2 (σ.length + 1) 0 l.length))), (10, .c (.b (.arr 2 (σ.length + 1) 0 l.length))), (11, vint l.length), (12, vint 0)], σ ++ (.dead :: .cells (cellsOf l) :: (l.take 0).map bxV)⟩ k =
      k (.exit 0) ⟨[(5, .c (.b (.arr 2 (σ.length + 1) 0 l.length)))], σ ++ (.dead :: .cells (cellsOf (l.map (mvP place))) :: l.map bxV)⟩ := fun k =>
    scan_upd (l := l) (f := mvP place) (X := fun i c => K fns ⟨lo, tr⟩ f28v1_l0 ⟨[(1, vsl place), (5, .c (.b (.arr 2 (σ.length + 1) 0 l.length))), (10, .c (.b (.arr 2 (σ.length + 1) 0 l.length))), (11, vint l.length), (12, vint i)], σ ++ (.dead :: .cells (cellsOf c) :: (l.take i).map bxV)⟩ k)
      (e := fun c => k (.exit 0) ⟨[(5, .c (.b (.arr 2 (σ.length + 1) 0 l.length)))], σ ++ (.dead :: .cells (cellsOf c) :: l.map bxV)⟩)
      (fun i c hi hi' hcl hci => by
        have hw := wrap_succ (i := i) (by omega)
        have hlen := cl_len k_Val c
        have hle : i * 2 + 2 ≤ c.length * 2 := by omega
        have htk := cl_take k_Val hi
        rw [row_Val] at htk
        simp only [box1, List.map_cons, List.map_nil] at htk
        have hput : ∀ x : Int, putAt (cellsOf c) (i * 2 + 1) [.b (.d (.int .i64 x))] = some (cellsOf (c.set i ⟨c[i].isRef, x⟩)) := fun x => by
          have := cl_put k_Val hi (j := 1) (v := ⟨c[i].isRef, x⟩) (ds := [.int .i64 x]) (by simp) (by simp [row_Val])
          simpa [box1] using this
        have hput2 : ∀ x y : Int, putAt (cellsOf (c.set i ⟨true, y⟩)) (i * 2 + 1) [.b (.d (.int .i64 x))] = some (cellsOf (c.set i ⟨true, x⟩)) := fun x y => by
          have hi2 : i < (c.set i (⟨true, y⟩ : GVal)).length := by simpa using hi
          have := cl_put k_Val hi2 (j := 1) (v := ⟨true, x⟩) (ds := [.int .i64 x]) (by simp) (by simp [row_Val])
          simpa [box1] using this
        have hT : (l.take (i + 1)).map bxV = (l.take i).map bxV ++ [.cells [.b (.d (.bool c[i].isRef)), .b (.d (.int .i64 c[i].n))]] := by
          rw [List.take_succ_eq_append_getElem hi', List.map_append, hci]; rfl
        have hTl : ((l.take i).map bxV).length = i := by rw [List.length_map, List.length_take]; omega
        show K fns _ f28v1_l0 _ k = _
        rw [u28v1_l0, hT]
        generalize (l.take i).map bxV = T at *
        have g1 : ∀ (Z X : Ob) (R : List Ob), (σ ++ (X :: Z :: R))[σ.length + 1]? = some Z := fun Z X R => by
          rw [List.getElem?_append_right (by omega)]; simp
        have s1 : ∀ (Z X Y : Ob) (R : List Ob), (σ ++ (X :: Z :: R)).set (σ.length + 1) Y = σ ++ (X :: Y :: R) := fun Z X Y R => by
          rw [List.set_append_right _ _ (by omega)]; simp
        have g2 : ∀ (Z X Y : Ob), (σ ++ (X :: Z :: (T ++ [Y])))[σ.length + (i + 1 + 1)]? = some Y := fun Z X Y => by
          rw [List.getElem?_append_right (by omega)]; simp [← hTl]
        have s2 : ∀ (Z X Y Y' : Ob), (σ ++ (X :: Z :: (T ++ [Y]))).set (σ.length + (i + 1 + 1)) Y' = σ ++ (X :: Z :: (T ++ [Y'])) := fun Z X Y Y' => by
          rw [List.set_append_right _ _ (by omega)]; simp [← hTl]
        have hlo1 : lo ≤ σ.length + 1 := by omega
        have hlo2 : lo ≤ σ.length + (i + 1 + 1) := by omega
        cases hr : c[i].isRef with
        | false =>
          have e : c.set i (mvP place c[i]) = c := by
            have : mvP place c[i] = c[i] := by simp [mvP, hr]
            rw [this]; simp
          rw [e]
          simp [f28v1_b0, ↓K_seq, ↓K_cond, ↓K_block, ↓K_region, ↓K_skip, ↓K_exit, ↓K_ret, ↓K_wrap, ↓KA_nil, ↓KA_none, ↓KA_some, beq_int, bne_int, dec_eqN, dec_ltN, dec_leN, stepOp, St.rd, St.raw, St.set, St.took, get_cons, V.down, C.down, Env.keep, binV, unV, arith, isShift, strs, intOf, optInt, wrapEnd, keptAt, andK, endOf, frzV, frz1, frzC, frzCs, frz1s, resOf, resOne, resAll, V.closed, V.closed1, C.closed, B.closed, Ob.closed, V.cells, partsIn, rep, chunk, datas, C.data, rowsOf, getCells, put_nil, put_zero, put_succ, mayWrite, C.plain, eqV_bool, eqV_agg, eqV_pnn, eqV_pnp, eqV_ppn, eqV_mnn, eqV_mmn, eqV_snn, eqV_sen, eqV_san, eqV_sdn, rs_len, rs_getE, rs_app, rs_take, rs_drop, rs_all, rs_each, row_len, str_eq, vagg, row_Int, row_Bool, row_Str, k_Int, k_Bool, k_Str, snoc_Int, snoc_Bool, snoc_Str, row_Type, k_Type, snoc_Type, eta_Type, sames_Type, row_Field, k_Field, snoc_Field, eta_Field, sames_Field, row_Instr, k_Instr, snoc_Instr, eta_Instr, sames_Instr, row_Catch, k_Catch, snoc_Catch, eta_Catch, sames_Catch, row_Method, k_Method, snoc_Method, row_Class, k_Class, snoc_Class, row_Program, k_Program, snoc_Program, row_Slot, k_Slot, snoc_Slot, eta_Slot, sames_Slot, row_State, k_State, snoc_State, row_Val, k_Val, snoc_Val, eta_Val, sames_Val, row_Obj, k_Obj, snoc_Obj, row_Input, k_Input, snoc_Input, row_Frame, k_Frame, snoc_Frame, row_Run, k_Run, snoc_Run, row_Way, k_Way, snoc_Way, eta_Way, sames_Way, row_Task, k_Task, snoc_Task, eta_Task, sames_Task, hi', hle, hlen, htk, hr, hw, cl_closed, g1, g2, s1, s2, hTl, hlo1, hlo2]
        | true =>
          have hm : mvP place c[i] = ⟨c[i].isRef, if 0 ≤ c[i].n ∧ c[i].n < place.length then (place[c[i].n.toNat]?).getD 0 else -1⟩ := by simp [mvP, hr]
          rw [hm]
          by_cases c1 : 0 ≤ c[i].n
          · by_cases c2 : c[i].n < place.length
            · obtain ⟨j, hj⟩ : ∃ j : Nat, c[i].n = j := ⟨c[i].n.toNat, by omega⟩
              rw [hj] at c1 c2
              have hjl : j < place.length := by omega
              rw [hj, if_pos ⟨c1, c2⟩]
              simp [f28v1_b0, ↓K_seq, ↓K_cond, ↓K_block, ↓K_region, ↓K_skip, ↓K_exit, ↓K_ret, ↓K_wrap, ↓KA_nil, ↓KA_none, ↓KA_some, beq_int, bne_int, dec_eqN, dec_ltN, dec_leN, stepOp, St.rd, St.raw, St.set, St.took, get_cons, V.down, C.down, Env.keep, binV, unV, arith, isShift, strs, intOf, optInt, wrapEnd, keptAt, andK, endOf, frzV, frz1, frzC, frzCs, frz1s, resOf, resOne, resAll, V.closed, V.closed1, C.closed, B.closed, Ob.closed, V.cells, partsIn, rep, chunk, datas, C.data, rowsOf, getCells, put_nil, put_zero, put_succ, mayWrite, C.plain, eqV_bool, eqV_agg, eqV_pnn, eqV_pnp, eqV_ppn, eqV_mnn, eqV_mmn, eqV_snn, eqV_sen, eqV_san, eqV_sdn, rs_len, rs_getE, rs_app, rs_take, rs_drop, rs_all, rs_each, row_len, str_eq, vagg, row_Int, row_Bool, row_Str, k_Int, k_Bool, k_Str, snoc_Int, snoc_Bool, snoc_Str, row_Type, k_Type, snoc_Type, eta_Type, sames_Type, row_Field, k_Field, snoc_Field, eta_Field, sames_Field, row_Instr, k_Instr, snoc_Instr, eta_Instr, sames_Instr, row_Catch, k_Catch, snoc_Catch, eta_Catch, sames_Catch, row_Method, k_Method, snoc_Method, row_Class, k_Class, snoc_Class, row_Program, k_Program, snoc_Program, row_Slot, k_Slot, snoc_Slot, eta_Slot, sames_Slot, row_State, k_State, snoc_State, row_Val, k_Val, snoc_Val, eta_Val, sames_Val, row_Obj, k_Obj, snoc_Obj, row_Input, k_Input, snoc_Input, row_Frame, k_Frame, snoc_Frame, row_Run, k_Run, snoc_Run, row_Way, k_Way, snoc_Way, eta_Way, sames_Way, row_Task, k_Task, snoc_Task, eta_Task, sames_Task, hi', hle, hlen, htk, hr, hw, cl_closed, hput, hput2, c1, hjl, hj, g1, g2, s1, s2, hTl, hlo1, hlo2]
            · rw [if_neg (by omega)]
              simp [f28v1_b0, ↓K_seq, ↓K_cond, ↓K_block, ↓K_region, ↓K_skip, ↓K_exit, ↓K_ret, ↓K_wrap, ↓KA_nil, ↓KA_none, ↓KA_some, beq_int, bne_int, dec_eqN, dec_ltN, dec_leN, stepOp, St.rd, St.raw, St.set, St.took, get_cons, V.down, C.down, Env.keep, binV, unV, arith, isShift, strs, intOf, optInt, wrapEnd, keptAt, andK, endOf, frzV, frz1, frzC, frzCs, frz1s, resOf, resOne, resAll, V.closed, V.closed1, C.closed, B.closed, Ob.closed, V.cells, partsIn, rep, chunk, datas, C.data, rowsOf, getCells, put_nil, put_zero, put_succ, mayWrite, C.plain, eqV_bool, eqV_agg, eqV_pnn, eqV_pnp, eqV_ppn, eqV_mnn, eqV_mmn, eqV_snn, eqV_sen, eqV_san, eqV_sdn, rs_len, rs_getE, rs_app, rs_take, rs_drop, rs_all, rs_each, row_len, str_eq, vagg, row_Int, row_Bool, row_Str, k_Int, k_Bool, k_Str, snoc_Int, snoc_Bool, snoc_Str, row_Type, k_Type, snoc_Type, eta_Type, sames_Type, row_Field, k_Field, snoc_Field, eta_Field, sames_Field, row_Instr, k_Instr, snoc_Instr, eta_Instr, sames_Instr, row_Catch, k_Catch, snoc_Catch, eta_Catch, sames_Catch, row_Method, k_Method, snoc_Method, row_Class, k_Class, snoc_Class, row_Program, k_Program, snoc_Program, row_Slot, k_Slot, snoc_Slot, eta_Slot, sames_Slot, row_State, k_State, snoc_State, row_Val, k_Val, snoc_Val, eta_Val, sames_Val, row_Obj, k_Obj, snoc_Obj, row_Input, k_Input, snoc_Input, row_Frame, k_Frame, snoc_Frame, row_Run, k_Run, snoc_Run, row_Way, k_Way, snoc_Way, eta_Way, sames_Way, row_Task, k_Task, snoc_Task, eta_Task, sames_Task, hi', hle, hlen, htk, hr, hw, cl_closed, hput, c1, c2, g1, g2, s1, s2, hTl, hlo1, hlo2]
          · rw [if_neg (by omega)]
            simp [f28v1_b0, ↓K_seq, ↓K_cond, ↓K_block, ↓K_region, ↓K_skip, ↓K_exit, ↓K_ret, ↓K_wrap, ↓KA_nil, ↓KA_none, ↓KA_some, beq_int, bne_int, dec_eqN, dec_ltN, dec_leN, stepOp, St.rd, St.raw, St.set, St.took, get_cons, V.down, C.down, Env.keep, binV, unV, arith, isShift, strs, intOf, optInt, wrapEnd, keptAt, andK, endOf, frzV, frz1, frzC, frzCs, frz1s, resOf, resOne, resAll, V.closed, V.closed1, C.closed, B.closed, Ob.closed, V.cells, partsIn, rep, chunk, datas, C.data, rowsOf, getCells, put_nil, put_zero, put_succ, mayWrite, C.plain, eqV_bool, eqV_agg, eqV_pnn, eqV_pnp, eqV_ppn, eqV_mnn, eqV_mmn, eqV_snn, eqV_sen, eqV_san, eqV_sdn, rs_len, rs_getE, rs_app, rs_take, rs_drop, rs_all, rs_each, row_len, str_eq, vagg, row_Int, row_Bool, row_Str, k_Int, k_Bool, k_Str, snoc_Int, snoc_Bool, snoc_Str, row_Type, k_Type, snoc_Type, eta_Type, sames_Type, row_Field, k_Field, snoc_Field, eta_Field, sames_Field, row_Instr, k_Instr, snoc_Instr, eta_Instr, sames_Instr, row_Catch, k_Catch, snoc_Catch, eta_Catch, sames_Catch, row_Method, k_Method, snoc_Method, row_Class, k_Class, snoc_Class, row_Program, k_Program, snoc_Program, row_Slot, k_Slot, snoc_Slot, eta_Slot, sames_Slot, row_State, k_State, snoc_State, row_Val, k_Val, snoc_Val, eta_Val, sames_Val, row_Obj, k_Obj, snoc_Obj, row_Input, k_Input, snoc_Input, row_Frame, k_Frame, snoc_Frame, row_Run, k_Run, snoc_Run, row_Way, k_Way, snoc_Way, eta_Way, sames_Way, row_Task, k_Task, snoc_Task, eta_Task, sames_Task, hi', hle, hlen, htk, hr, hw, cl_closed, hput, c1, g1, g2, s1, s2, hTl, hlo1, hlo2])
      (fun c hc => by
        show K fns _ f28v1_l0 _ k = _
        rw [u28v1_l0]
        simp [f28v1_b0, ↓K_seq, ↓K_cond, ↓K_block, ↓K_region, ↓K_skip, ↓K_exit, ↓K_ret, ↓K_wrap, ↓KA_nil, ↓KA_none, ↓KA_some, beq_int, bne_int, dec_eqN, dec_ltN, dec_leN, stepOp, St.rd, St.raw, St.set, St.took, get_cons, V.down, C.down, Env.keep, binV, unV, arith, isShift, strs, intOf, optInt, wrapEnd, keptAt, andK, endOf, frzV, frz1, frzC, frzCs, frz1s, resOf, resOne, resAll, V.closed, V.closed1, C.closed, B.closed, Ob.closed, V.cells, partsIn, rep, chunk, datas, C.data, rowsOf, getCells, put_nil, put_zero, put_succ, mayWrite, C.plain, eqV_bool, eqV_agg, eqV_pnn, eqV_pnp, eqV_ppn, eqV_mnn, eqV_mmn, eqV_snn, eqV_sen, eqV_san, eqV_sdn, rs_len, rs_getE, rs_app, rs_take, rs_drop, rs_all, rs_each, row_len, str_eq, vagg, row_Int, row_Bool, row_Str, k_Int, k_Bool, k_Str, snoc_Int, snoc_Bool, snoc_Str, row_Type, k_Type, snoc_Type, eta_Type, sames_Type, row_Field, k_Field, snoc_Field, eta_Field, sames_Field, row_Instr, k_Instr, snoc_Instr, eta_Instr, sames_Instr, row_Catch, k_Catch, snoc_Catch, eta_Catch, sames_Catch, row_Method, k_Method, snoc_Method, row_Class, k_Class, snoc_Class, row_Program, k_Program, snoc_Program, row_Slot, k_Slot, snoc_Slot, eta_Slot, sames_Slot, row_State, k_State, snoc_State, row_Val, k_Val, snoc_Val, eta_Val, sames_Val, row_Obj, k_Obj, snoc_Obj, row_Input, k_Input, snoc_Input, row_Frame, k_Frame, snoc_Frame, row_Run, k_Run, snoc_Run, row_Way, k_Way, snoc_Way, eta_Way, sames_Way, row_Task, k_Task, snoc_Task, eta_Task, sames_Task, cl_closed])
  simp only [List.take_zero, List.map_nil] at L
  simp [KF, params, f28v1, ↓K_seq, ↓K_cond, ↓K_block, ↓K_region, ↓K_skip, ↓K_exit, ↓K_ret, ↓K_wrap, ↓KA_nil, ↓KA_none, ↓KA_some, beq_int, bne_int, dec_eqN, dec_ltN, dec_leN, stepOp, St.rd, St.raw, St.set, St.took, get_cons, V.down, C.down, Env.keep, binV, unV, arith, isShift, strs, intOf, optInt, wrapEnd, keptAt, andK, endOf, frzV, frz1, frzC, frzCs, frz1s, resOf, resOne, resAll, V.closed, V.closed1, C.closed, B.closed, Ob.closed, V.cells, partsIn, rep, chunk, datas, C.data, rowsOf, getCells, put_nil, put_zero, put_succ, mayWrite, C.plain, eqV_bool, eqV_agg, eqV_pnn, eqV_pnp, eqV_ppn, eqV_mnn, eqV_mmn, eqV_snn, eqV_sen, eqV_san, eqV_sdn, rs_len, rs_getE, rs_app, rs_take, rs_drop, rs_all, rs_each, row_len, str_eq, vagg, row_Int, row_Bool, row_Str, k_Int, k_Bool, k_Str, snoc_Int, snoc_Bool, snoc_Str, row_Type, k_Type, snoc_Type, eta_Type, sames_Type, row_Field, k_Field, snoc_Field, eta_Field, sames_Field, row_Instr, k_Instr, snoc_Instr, eta_Instr, sames_Instr, row_Catch, k_Catch, snoc_Catch, eta_Catch, sames_Catch, row_Method, k_Method, snoc_Method, row_Class, k_Class, snoc_Class, row_Program, k_Program, snoc_Program, row_Slot, k_Slot, snoc_Slot, eta_Slot, sames_Slot, row_State, k_State, snoc_State, row_Val, k_Val, snoc_Val, eta_Val, sames_Val, row_Obj, k_Obj, snoc_Obj, row_Input, k_Input, snoc_Input, row_Frame, k_Frame, snoc_Frame, row_Run, k_Run, snoc_Run, row_Way, k_Way, snoc_Way, eta_Way, sames_Way, row_Task, k_Task, snoc_Task, eta_Task, sames_Task, h1, L]

theorem fn28w0 (place : List Int) (σ : List Ob) (lo tr : Nat) (hlo : lo ≤ σ.length) : Fn fns 4124 [vsl ([] : List GVal), vsl place] σ lo tr = some (.c (.b (.d (.sl []))), σ) := by
  rw [fn_eq t28v1 rfl rfl]
  have h1 := fn36w0 σ lo tr hlo
  simp only [vsl, rs_nil] at h1
  simp [KF, params, f28v1, ↓K_seq, ↓K_cond, ↓K_block, ↓K_region, ↓K_skip, ↓K_exit, ↓K_ret, ↓K_wrap, ↓KA_nil, ↓KA_none, ↓KA_some, beq_int, bne_int, dec_eqN, dec_ltN, dec_leN, stepOp, St.rd, St.raw, St.set, St.took, get_cons, V.down, C.down, Env.keep, binV, unV, arith, isShift, strs, intOf, optInt, wrapEnd, keptAt, andK, endOf, frzV, frz1, frzC, frzCs, frz1s, resOf, resOne, resAll, V.closed, V.closed1, C.closed, B.closed, Ob.closed, V.cells, partsIn, rep, chunk, datas, C.data, rowsOf, getCells, put_nil, put_zero, put_succ, mayWrite, C.plain, eqV_bool, eqV_agg, eqV_pnn, eqV_pnp, eqV_ppn, eqV_mnn, eqV_mmn, eqV_snn, eqV_sen, eqV_san, eqV_sdn, rs_len, rs_getE, rs_app, rs_take, rs_drop, rs_all, rs_each, row_len, str_eq, vagg, row_Int, row_Bool, row_Str, k_Int, k_Bool, k_Str, snoc_Int, snoc_Bool, snoc_Str, row_Type, k_Type, snoc_Type, eta_Type, sames_Type, row_Field, k_Field, snoc_Field, eta_Field, sames_Field, row_Instr, k_Instr, snoc_Instr, eta_Instr, sames_Instr, row_Catch, k_Catch, snoc_Catch, eta_Catch, sames_Catch, row_Method, k_Method, snoc_Method, row_Class, k_Class, snoc_Class, row_Program, k_Program, snoc_Program, row_Slot, k_Slot, snoc_Slot, eta_Slot, sames_Slot, row_State, k_State, snoc_State, row_Val, k_Val, snoc_Val, eta_Val, sames_Val, row_Obj, k_Obj, snoc_Obj, row_Input, k_Input, snoc_Input, row_Frame, k_Frame, snoc_Frame, row_Run, k_Run, snoc_Run, row_Way, k_Way, snoc_Way, eta_Way, sames_Way, row_Task, k_Task, snoc_Task, eta_Task, sames_Task, rs_nil, h1]
  rw [u28v1_l0]
  simp [f28v1_b0, ↓K_seq, ↓K_cond, ↓K_block, ↓K_region, ↓K_skip, ↓K_exit, ↓K_ret, ↓K_wrap, ↓KA_nil, ↓KA_none, ↓KA_some, beq_int, bne_int, dec_eqN, dec_ltN, dec_leN, stepOp, St.rd, St.raw, St.set, St.took, get_cons, V.down, C.down, Env.keep, binV, unV, arith, isShift, strs, intOf, optInt, wrapEnd, keptAt, andK, endOf, frzV, frz1, frzC, frzCs, frz1s, resOf, resOne, resAll, V.closed, V.closed1, C.closed, B.closed, Ob.closed, V.cells, partsIn, rep, chunk, datas, C.data, rowsOf, getCells, put_nil, put_zero, put_succ, mayWrite, C.plain, eqV_bool, eqV_agg, eqV_pnn, eqV_pnp, eqV_ppn, eqV_mnn, eqV_mmn, eqV_snn, eqV_sen, eqV_san, eqV_sdn, rs_len, rs_getE, rs_app, rs_take, rs_drop, rs_all, rs_each, row_len, str_eq, vagg, row_Int, row_Bool, row_Str, k_Int, k_Bool, k_Str, snoc_Int, snoc_Bool, snoc_Str, row_Type, k_Type, snoc_Type, eta_Type, sames_Type, row_Field, k_Field, snoc_Field, eta_Field, sames_Field, row_Instr, k_Instr, snoc_Instr, eta_Instr, sames_Instr, row_Catch, k_Catch, snoc_Catch, eta_Catch, sames_Catch, row_Method, k_Method, snoc_Method, row_Class, k_Class, snoc_Class, row_Program, k_Program, snoc_Program, row_Slot, k_Slot, snoc_Slot, eta_Slot, sames_Slot, row_State, k_State, snoc_State, row_Val, k_Val, snoc_Val, eta_Val, sames_Val, row_Obj, k_Obj, snoc_Obj, row_Input, k_Input, snoc_Input, row_Frame, k_Frame, snoc_Frame, row_Run, k_Run, snoc_Run, row_Way, k_Way, snoc_Way, eta_Way, sames_Way, row_Task, k_Task, snoc_Task, eta_Task, sames_Task, rs_nil]

theorem mk28 (l : List GVal) (place : List Int) (hl : l.length < 1000000000) (σ : List Ob) (tr : Nat) : ∃ (c : C) (τ : List Ob), c.down = c ∧ (∀ lo, lo ≤ σ.length → Fn fns 4124 [vsl l, vsl place] σ lo tr = some (.c c, σ ++ τ)) ∧
    (∀ X, SlotAt (σ ++ τ ++ X) 2 c (l.map (mvP place))) ∧ (∀ m, pointsTo c = some m → σ.length ≤ m ∧ m < σ.length + τ.length) ∧ (l.map (mvP place) ≠ [] → ∃ m, pointsTo c = some m) := by
  by_cases hne : l = []
  · subst hne
    exact ⟨.b (.d (.sl [])), [], rfl, fun lo hlo => by rw [List.append_nil]; exact fn28w0 place σ lo tr hlo, fun X => .inl rfl, (fun m hm => by cases hm), fun h => absurd rfl h⟩
  · refine ⟨.b (.arr 2 (σ.length + 1) 0 l.length), _, rfl, fun lo hlo => fn28w l place hl hne σ lo tr hlo, fun X => .inr (.inr ⟨σ.length + 1, by simp, ?_⟩), fun m hm => ?_, fun _ => ⟨_, rfl⟩⟩
    · rw [List.append_assoc, List.getElem?_append_right (by omega), Nat.add_sub_cancel_left]; rfl
    · simp only [pointsTo, Option.some.injEq] at hm
      subst hm
      simp

def Above (n : Nat) (v : V) (ps : List (GObj × C)) : Prop := (∀ k M o l, v = .c (.b (.arr k M o l)) → n ≤ M) ∧ (∀ p ∈ ps, ∀ m, pointsTo p.2 = some m → n ≤ m) ∧ ∀ p ∈ ps, p.1.slots ≠ [] → ∃ m, pointsTo p.2 = some m

theorem step11 {h : List GObj} {r : List GVal} {place o : List Int} {v : V} {i j : Nat} (hi : i < o.length) (hj : o[i] = (j : Int)) (hjl : j < h.length) (ho : o.length < 1000000000) (hs : h[j].slots.length < 1000000) {σ0 : List Ob} {ps : List (GObj × C)} (hO : OutAt σ0 v ps) (hps : ps.length = i)
    {n : Nat} (hn : n ≤ σ0.length) (hA : Above n v ps) :
    ∃ v' σ' c, OutAt σ' v' (ps ++ [(⟨h[j].type_, h[j].slots.map (mvP place)⟩, c)]) ∧ Above n v' (ps ++ [(⟨h[j].type_, h[j].slots.map (mvP place)⟩, c)]) ∧ n ≤ σ'.length ∧ (∀ l, l < n → σ'[l]? = σ0[l]?) ∧
      ∀ k : AExit → St → Option (V × List Ob), K fns ⟨0, 0⟩ f11v1_l0 ⟨[(0, vsl h), (1, vsl r), (7, vsl place), (8, v), (17, vsl o), (18, vint o.length), (19, vint i)], σ0⟩ k =
      K fns ⟨0, 0⟩ f11v1_l0 ⟨[(0, vsl h), (1, vsl r), (7, vsl place), (8, v'), (17, vsl o), (18, vint o.length), (19, vint (i + 1 : Nat))], σ'⟩ k := by
  obtain ⟨c, τ, e2, e1, e3, e4, e5⟩ := mk28 h[j].slots place (by omega) σ0 (max 0 σ0.length)
  have hf := e1 (max 0 σ0.length) (by omega)
  have hw := wrap_succ (i := i) (by omega)
  have hdown : v.down = v := out_down hO
  generalize h[j].slots.map (mvP place) = sl at *
  have e2' := e2
  simp only [C.down] at e2'
  simp only [Nat.zero_max] at hf
  have hc := e3 []
  rcases hO with ⟨rfl, rfl⟩ | ⟨M, rfl, hN⟩
  · have hi0 : i = 0 := by simpa using hps.symm
    subst hi0
    refine ⟨.c (.b (.arr 3 (σ0.length + (τ.length + 1)) 0 1)), σ0 ++ τ ++ [bx h[j].type_.kind h[j].type_.name c, bx h[j].type_.kind h[j].type_.name c], c, .inr ⟨_, rfl, ?_, ?_⟩, ⟨?_, ?_, ?_⟩, ?_, ?_, fun k => ?_⟩
    · intro p hp
      simp only [List.nil_append, List.mem_singleton] at hp
      subst hp
      exact ⟨e3 _, fun hm => by have := e4 _ hm; omega⟩
    · rw [List.getElem?_append_right (by simp)]
      have : σ0.length + (τ.length + 1) - (σ0 ++ τ).length = 1 := by simp; omega
      rw [this]
      rfl
    · intro k M o l hv
      simp only [V.c.injEq, C.b.injEq, B.arr.injEq] at hv
      omega
    · intro p hp m hm
      simp only [List.nil_append, List.mem_singleton] at hp
      subst hp
      have := e4 _ hm; omega
    · intro p hp hne
      simp only [List.nil_append, List.mem_singleton] at hp
      subst hp
      exact e5 hne
    · simp; omega
    · intro l hl
      rw [List.append_assoc, List.getElem?_append_left (by omega)]
    · rw [u11v1_l0]
      have hw1 : IntKind.i64.wrap 1 = 1 := rfl
      rcases hc with rfl | ⟨rfl, _⟩ | ⟨m, rfl, _⟩ <;> simp [f11v1_b0, ↓K_seq, ↓K_cond, ↓K_block, ↓K_region, ↓K_skip, ↓K_exit, ↓K_ret, ↓K_wrap, ↓KA_nil, ↓KA_none, ↓KA_some, beq_int, bne_int, dec_eqN, dec_ltN, dec_leN, stepOp, St.rd, St.raw, St.set, St.took, get_cons, V.down, C.down, Env.keep, binV, unV, arith, isShift, strs, intOf, optInt, wrapEnd, keptAt, andK, endOf, frzV, frz1, frzC, frzCs, frz1s, resOf, resOne, resAll, V.closed, V.closed1, C.closed, B.closed, Ob.closed, V.cells, partsIn, rep, chunk, datas, C.data, rowsOf, getCells, put_nil, put_zero, put_succ, mayWrite, C.plain, eqV_bool, eqV_agg, eqV_pnn, eqV_pnp, eqV_ppn, eqV_mnn, eqV_mmn, eqV_snn, eqV_sen, eqV_san, eqV_sdn, rs_len, rs_getE, rs_app, rs_take, rs_drop, rs_all, rs_each, row_len, str_eq, vagg, row_Int, row_Bool, row_Str, k_Int, k_Bool, k_Str, snoc_Int, snoc_Bool, snoc_Str, row_Type, k_Type, snoc_Type, eta_Type, sames_Type, row_Field, k_Field, snoc_Field, eta_Field, sames_Field, row_Instr, k_Instr, snoc_Instr, eta_Instr, sames_Instr, row_Catch, k_Catch, snoc_Catch, eta_Catch, sames_Catch, row_Method, k_Method, snoc_Method, row_Class, k_Class, snoc_Class, row_Program, k_Program, snoc_Program, row_Slot, k_Slot, snoc_Slot, eta_Slot, sames_Slot, row_State, k_State, snoc_State, row_Val, k_Val, snoc_Val, eta_Val, sames_Val, row_Obj, k_Obj, snoc_Obj, row_Input, k_Input, snoc_Input, row_Frame, k_Frame, snoc_Frame, row_Run, k_Run, snoc_Run, row_Way, k_Way, snoc_Way, eta_Way, sames_Way, row_Task, k_Task, snoc_Task, eta_Task, sames_Task, hi, hj, hjl, hw1, hf, elems, bx]
  · have hM : M < σ0.length := (List.getElem?_eq_some_iff.mp hN.here).1
    have hZl := cellsN_len ps
    have hZd := cellsN_down (fun p hp => (hN.slot p hp).1)
    have hZt : (cellsN ps).take (ps.length * 3) = cellsN ps := List.take_of_length_le (by omega)
    have hMg : ∀ X, (σ0 ++ X)[M]? = some (.cells (cellsN ps)) := fun X => by rw [List.getElem?_append_left hM]; exact hN.here
    have hMs : ∀ (X : List Ob) (Y : Ob), (σ0 ++ X).set M Y = σ0.set M Y ++ X := fun X Y => List.set_append_left _ _ hM
    have hnM : n ≤ M := hA.1 _ _ _ _ rfl
    refine ⟨.c (.b (.arr 3 (σ0.length + (τ.length + 1)) 0 (ps.length + 1))), σ0.set M .dead ++ τ ++ [bx h[j].type_.kind h[j].type_.name c, .cells (cellsN (ps ++ [(⟨h[j].type_, sl⟩, c)]))], c, .inr ⟨σ0.length + (τ.length + 1), by simp, ?_, ?_⟩, ⟨?_, ?_, ?_⟩, ?_, ?_, fun k => ?_⟩
    · intro p hp
      rcases List.mem_append.mp hp with hp | hp
      · obtain ⟨h1, h2⟩ := hN.slot p hp
        refine ⟨h1.frame (fun m hm => ?_), fun hm => ?_⟩
        · have := slotAt_lt h1 hm
          rw [List.append_assoc, List.getElem?_append_left (by simpa using this), List.getElem?_set_ne]
          rintro rfl; exact h2 hm
        · have := slotAt_lt h1 hm
          omega
      · simp only [List.mem_singleton] at hp
        subst hp
        refine ⟨(e3 [bx h[j].type_.kind h[j].type_.name c, .cells (cellsN (ps ++ [(⟨h[j].type_, sl⟩, c)]))]).frame (fun m hm => ?_), fun hm => by have := e4 _ hm; omega⟩
        have := e4 _ hm
        have g1 : ∀ (A X : List Ob), A.length ≤ m → (A ++ X)[m]? = X[m - A.length]? := fun A X h => List.getElem?_append_right h
        rw [List.append_assoc, List.append_assoc, g1 (σ0.set M .dead) _ (by simp; omega), g1 σ0 _ (by omega), List.length_set]
    · rw [List.getElem?_append_right (by simp)]
      have : σ0.length + (τ.length + 1) - (σ0.set M .dead ++ τ).length = 1 := by simp; omega
      rw [this]
      rfl
    · intro k M o l hv
      simp only [V.c.injEq, C.b.injEq, B.arr.injEq] at hv
      omega
    · intro p hp m hm
      rcases List.mem_append.mp hp with hp | hp
      · exact hA.2.1 p hp m hm
      · simp only [List.mem_singleton] at hp
        subst hp
        have := e4 _ hm; omega
    · intro p hp hne
      rcases List.mem_append.mp hp with hp | hp
      · exact hA.2.2 p hp hne
      · simp only [List.mem_singleton] at hp
        subst hp
        exact e5 hne
    · simp; omega
    · intro l hl
      rw [List.append_assoc, List.getElem?_append_left (by simp; omega), List.getElem?_set_ne (by omega)]
    · rw [u11v1_l0]
      have q1 : (ps.length + 1) * 48 ≤ 70368744177664 := by omega
      have q2 : ps.length + 1 ≤ 70368744177664 := by omega
      rw [cellsN_snoc]
      subst hps
      generalize cellsN ps = Z at *
      rcases hc with rfl | ⟨rfl, _⟩ | ⟨m, rfl, _⟩ <;> simp [f11v1_b0, ↓K_seq, ↓K_cond, ↓K_block, ↓K_region, ↓K_skip, ↓K_exit, ↓K_ret, ↓K_wrap, ↓KA_nil, ↓KA_none, ↓KA_some, beq_int, bne_int, dec_eqN, dec_ltN, dec_leN, stepOp, St.rd, St.raw, St.set, St.took, get_cons, V.down, C.down, Env.keep, binV, unV, arith, isShift, strs, intOf, optInt, wrapEnd, keptAt, andK, endOf, frzV, frz1, frzC, frzCs, frz1s, resOf, resOne, resAll, V.closed, V.closed1, C.closed, B.closed, Ob.closed, V.cells, partsIn, rep, chunk, datas, C.data, rowsOf, getCells, put_nil, put_zero, put_succ, mayWrite, C.plain, eqV_bool, eqV_agg, eqV_pnn, eqV_pnp, eqV_ppn, eqV_mnn, eqV_mmn, eqV_snn, eqV_sen, eqV_san, eqV_sdn, rs_len, rs_getE, rs_app, rs_take, rs_drop, rs_all, rs_each, row_len, str_eq, vagg, row_Int, row_Bool, row_Str, k_Int, k_Bool, k_Str, snoc_Int, snoc_Bool, snoc_Str, row_Type, k_Type, snoc_Type, eta_Type, sames_Type, row_Field, k_Field, snoc_Field, eta_Field, sames_Field, row_Instr, k_Instr, snoc_Instr, eta_Instr, sames_Instr, row_Catch, k_Catch, snoc_Catch, eta_Catch, sames_Catch, row_Method, k_Method, snoc_Method, row_Class, k_Class, snoc_Class, row_Program, k_Program, snoc_Program, row_Slot, k_Slot, snoc_Slot, eta_Slot, sames_Slot, row_State, k_State, snoc_State, row_Val, k_Val, snoc_Val, eta_Val, sames_Val, row_Obj, k_Obj, snoc_Obj, row_Input, k_Input, snoc_Input, row_Frame, k_Frame, snoc_Frame, row_Run, k_Run, snoc_Run, row_Way, k_Way, snoc_Way, eta_Way, sames_Way, row_Task, k_Task, snoc_Task, eta_Task, sames_Task, hi, hj, hjl, hw, hf, elems, bx, hMg, hMs, hZl, hZd, hZt, q1, q2, cells3]

theorem loop11 {h : List GObj} {r : List GVal} {place o : List Int} (hmm : mvP place = ren o) (ho : o.length < 1000000000) (hin : ∀ x ∈ o, 0 ≤ x ∧ x < h.length) (hs : ∀ x ∈ h, x.slots.length < 1000000) {N : Nat} : ∀ (n i : Nat) (v : V) (σ0 : List Ob) (ps : List (GObj × C)), i + n = o.length →
    OutAt σ0 v ps → Above N v ps → N ≤ σ0.length → ps.map (·.1) = (o.take i).map (canonOb h o) →
    ∃ v' σ' ps', OutAt σ' v' ps' ∧ Above N v' ps' ∧ N ≤ σ'.length ∧ (∀ l, l < N → σ'[l]? = σ0[l]?) ∧ ps'.map (·.1) = o.map (canonOb h o) ∧ ∀ k : AExit → St → Option (V × List Ob),
      K fns ⟨0, 0⟩ f11v1_l0 ⟨[(0, vsl h), (1, vsl r), (7, vsl place), (8, v), (17, vsl o), (18, vint o.length), (19, vint i)], σ0⟩ k = k (.exit 0) ⟨[(1, vsl r), (7, vsl place), (8, v')], σ'⟩
  | 0, i, v, σ0, ps, hn, hO, hA, hN, hps => by
    have hi : i = o.length := by omega
    subst hi
    refine ⟨v, σ0, ps, hO, hA, hN, fun _ _ => rfl, by simpa using hps, fun k => ?_⟩
    rw [u11v1_l0]
    simp [f11v1_b0, ↓K_seq, ↓K_cond, ↓K_block, ↓K_region, ↓K_skip, ↓K_exit, ↓K_ret, ↓K_wrap, ↓KA_nil, ↓KA_none, ↓KA_some, beq_int, bne_int, dec_eqN, dec_ltN, dec_leN, stepOp, St.rd, St.raw, St.set, St.took, get_cons, V.down, C.down, Env.keep, binV, unV, arith, isShift, strs, intOf, optInt, wrapEnd, keptAt, andK, endOf, frzV, frz1, frzC, frzCs, frz1s, resOf, resOne, resAll, V.closed, V.closed1, C.closed, B.closed, Ob.closed, V.cells, partsIn, rep, chunk, datas, C.data, rowsOf, getCells, put_nil, put_zero, put_succ, mayWrite, C.plain, eqV_bool, eqV_agg, eqV_pnn, eqV_pnp, eqV_ppn, eqV_mnn, eqV_mmn, eqV_snn, eqV_sen, eqV_san, eqV_sdn, rs_len, rs_getE, rs_app, rs_take, rs_drop, rs_all, rs_each, row_len, str_eq, vagg, row_Int, row_Bool, row_Str, k_Int, k_Bool, k_Str, snoc_Int, snoc_Bool, snoc_Str, row_Type, k_Type, snoc_Type, eta_Type, sames_Type, row_Field, k_Field, snoc_Field, eta_Field, sames_Field, row_Instr, k_Instr, snoc_Instr, eta_Instr, sames_Instr, row_Catch, k_Catch, snoc_Catch, eta_Catch, sames_Catch, row_Method, k_Method, snoc_Method, row_Class, k_Class, snoc_Class, row_Program, k_Program, snoc_Program, row_Slot, k_Slot, snoc_Slot, eta_Slot, sames_Slot, row_State, k_State, snoc_State, row_Val, k_Val, snoc_Val, eta_Val, sames_Val, row_Obj, k_Obj, snoc_Obj, row_Input, k_Input, snoc_Input, row_Frame, k_Frame, snoc_Frame, row_Run, k_Run, snoc_Run, row_Way, k_Way, snoc_Way, eta_Way, sames_Way, row_Task, k_Task, snoc_Task, eta_Task, sames_Task]
  | n + 1, i, v, σ0, ps, hn, hO, hA, hN, hps => by
    have hi : i < o.length := by omega
    obtain ⟨j, hj⟩ : ∃ j : Nat, o[i] = j := ⟨o[i].toNat, by have := hin _ (List.getElem_mem hi); omega⟩
    have hjl : j < h.length := by have := hin _ (List.getElem_mem hi); omega
    have hlen : ps.length = i := by
      have := congrArg List.length hps
      simpa [Nat.min_eq_left (Nat.le_of_lt hi)] using this
    obtain ⟨v1, σ1, c, h1, h2, h3, h4, h5⟩ := step11 (r := r) (place := place) hi hj hjl ho (hs _ (List.getElem_mem hjl)) hO hlen hN hA
    obtain ⟨v', σ', ps', g1, g2, g3, g4, g5, g6⟩ := loop11 (r := r) hmm ho hin hs n (i + 1) v1 σ1 _ (by omega) h1 h2 h3 (by
      rw [List.map_append, hps, List.take_succ_eq_append_getElem hi, List.map_append, hmm]
      simp [canonOb, hj, hjl, slotsAt_nat hjl])
    exact ⟨v', σ', ps', g1, g2, g3, fun l hl => (g4 l hl).trans (h4 l hl), g5, fun k => (h5 k).trans (g6 k)⟩

theorem fn11w {h : List GObj} {roots : List GVal} (H : Small h roots) (σ : List Ob) :
    ∃ v σ' ps, OutAt σ' v ps ∧ Above σ.length v ps ∧ σ.length ≤ σ'.length ∧ (∀ l, l < σ.length → σ'[l]? = σ[l]?) ∧ ps.map (·.1) = (canon h roots).1 ∧ Fn fns 4107 [vsl h, vsl roots] σ 0 0 = some (.tup [v, vsl (canon h roots).2], σ') := by
  have h1 := fn27 H
  have ho := order_in h roots
  have hol := order_len H
  have hmm : mvP (placeOf h.length (order h roots)) = ren (order h roots) := funext fun v => mvP_ren ho v
  have h2 := fn28 roots (placeOf h.length (order h roots)) (by have := H.roots; omega)
  rw [hmm] at h2
  obtain ⟨v', σ', ps', g1, g2, g3, g4, g5, g6⟩ := loop11 (r := roots) hmm hol ho H.slots _ 0 (.c (.b .nils)) σ [] (Nat.zero_add _) (.inl ⟨rfl, rfl⟩) ⟨fun _ _ _ _ h => by simp at h, (fun p hp => by cases hp), (fun p hp => by cases hp)⟩ (Nat.le_refl _) rfl
  refine ⟨v', σ', ps', g1, g2, g3, g4, g5, ?_⟩
  have hd := out_down g1
  rw [fn_eq t11v1 rfl rfl]
  have hc2 : (canon h roots).2 = roots.map (ren (order h roots)) := rfl
  rw [hc2]
  have L : ∀ k : AExit → St → Option (V × List Ob), K fns ⟨0, 0⟩ f11v1_l0 ⟨[(0, vsl h), (1, vsl roots), (7, vsl (placeOf h.length (order h roots))), (8, .c (.b .nils)), (17, vsl (order h roots)), (18, vint (order h roots).length), (19, vint 0)], σ⟩ k =
    k (.exit 0) ⟨[(1, vsl roots), (7, vsl (placeOf h.length (order h roots))), (8, v')], σ'⟩ := g6
  generalize order h roots = o at *
  generalize placeOf h.length o = place at *
  rcases g1 with ⟨rfl, _⟩ | ⟨M, rfl, _⟩ <;> simp [KF, params, f11v1, ↓K_seq, ↓K_cond, ↓K_block, ↓K_region, ↓K_skip, ↓K_exit, ↓K_ret, ↓K_wrap, ↓KA_nil, ↓KA_none, ↓KA_some, beq_int, bne_int, dec_eqN, dec_ltN, dec_leN, stepOp, St.rd, St.raw, St.set, St.took, get_cons, V.down, C.down, Env.keep, binV, unV, arith, isShift, strs, intOf, optInt, wrapEnd, keptAt, andK, endOf, frzV, frz1, frzC, frzCs, frz1s, resOf, resOne, resAll, V.closed, V.closed1, C.closed, B.closed, Ob.closed, V.cells, partsIn, rep, chunk, datas, C.data, rowsOf, getCells, put_nil, put_zero, put_succ, mayWrite, C.plain, eqV_bool, eqV_agg, eqV_pnn, eqV_pnp, eqV_ppn, eqV_mnn, eqV_mmn, eqV_snn, eqV_sen, eqV_san, eqV_sdn, rs_len, rs_getE, rs_app, rs_take, rs_drop, rs_all, rs_each, row_len, str_eq, vagg, row_Int, row_Bool, row_Str, k_Int, k_Bool, k_Str, snoc_Int, snoc_Bool, snoc_Str, row_Type, k_Type, snoc_Type, eta_Type, sames_Type, row_Field, k_Field, snoc_Field, eta_Field, sames_Field, row_Instr, k_Instr, snoc_Instr, eta_Instr, sames_Instr, row_Catch, k_Catch, snoc_Catch, eta_Catch, sames_Catch, row_Method, k_Method, snoc_Method, row_Class, k_Class, snoc_Class, row_Program, k_Program, snoc_Program, row_Slot, k_Slot, snoc_Slot, eta_Slot, sames_Slot, row_State, k_State, snoc_State, row_Val, k_Val, snoc_Val, eta_Val, sames_Val, row_Obj, k_Obj, snoc_Obj, row_Input, k_Input, snoc_Input, row_Frame, k_Frame, snoc_Frame, row_Run, k_Run, snoc_Run, row_Way, k_Way, snoc_Way, eta_Way, sames_Way, row_Task, k_Task, snoc_Task, eta_Task, sames_Task, h1, h2, L]
end Go.Proofs.Ytjkhkblabhaimaa.Am
