/- Turn, run. -/
import Derived.Test.YtjkhkblabhaimaaIsoM
import Derived.Test.YtjkhkblabhaimaaIsoK
namespace Go.Proofs.Ytjkhkblabhaimaa.Am
set_option linter.unusedSimpArgs false
set_option linter.unusedVariables false
open Go

theorem fn25w (l : List GVal) (hs : l.length < 1000000000) (hl : l ≠ []) (σ : List Ob) (lo tr : Nat) (hlo : lo ≤ σ.length) : Fn fns 4121 [vsl l] σ lo tr = some (.c (.b (.arr 2 σ.length 0 l.length)), σ ++ [.cells (cellsOf l)]) := by
  have he2 : ∀ σ, elems σ 2 (.c (.b (.d (.sl (rows l))))) = some (l.length, cellsOf l) := fun σ => elems_rows k_Val σ l
  have h5 : l.length ≤ 70368744177664 := by omega
  have h6 : l.length * 16 ≤ 70368744177664 := by omega
  have h7 : ¬ l.length = 0 := fun h => hl (List.eq_nil_of_length_eq_zero h)
  rw [fn_eq t25v1 (by cases l with | nil => exact absurd rfl hl | cons => rfl) rfl]
  simp [KF, params, f25v1, ↓K_seq, ↓K_cond, ↓K_block, ↓K_region, ↓K_skip, ↓K_exit, ↓K_ret, ↓K_wrap, ↓KA_nil, ↓KA_none, ↓KA_some, beq_int, bne_int, dec_eqN, dec_ltN, dec_leN, stepOp, St.rd, St.raw, St.set, St.took, get_cons, V.down, C.down, Env.keep, binV, unV, arith, isShift, strs, intOf, optInt, wrapEnd, keptAt, andK, endOf, frzV, frz1, frzC, frzCs, frz1s, resOf, resOne, resAll, V.closed, V.closed1, C.closed, B.closed, Ob.closed, V.cells, partsIn, rep, chunk, datas, C.data, rowsOf, getCells, put_nil, put_zero, put_succ, mayWrite, C.plain, eqV_bool, eqV_agg, eqV_pnn, eqV_pnp, eqV_ppn, eqV_mnn, eqV_mmn, eqV_snn, eqV_sen, eqV_san, eqV_sdn, rs_len, rs_getE, rs_app, rs_take, rs_drop, rs_all, rs_each, row_len, str_eq, vagg, row_Int, row_Bool, row_Str, k_Int, k_Bool, k_Str, snoc_Int, snoc_Bool, snoc_Str, row_Type, k_Type, snoc_Type, eta_Type, sames_Type, row_Field, k_Field, snoc_Field, eta_Field, sames_Field, row_Instr, k_Instr, snoc_Instr, eta_Instr, sames_Instr, row_Catch, k_Catch, snoc_Catch, eta_Catch, sames_Catch, row_Method, k_Method, snoc_Method, row_Class, k_Class, snoc_Class, row_Program, k_Program, snoc_Program, row_Slot, k_Slot, snoc_Slot, eta_Slot, sames_Slot, row_State, k_State, snoc_State, row_Val, k_Val, snoc_Val, eta_Val, sames_Val, row_Obj, k_Obj, snoc_Obj, row_Input, k_Input, snoc_Input, row_Frame, k_Frame, snoc_Frame, row_Run, k_Run, snoc_Run, row_Way, k_Way, snoc_Way, eta_Way, sames_Way, row_Task, k_Task, snoc_Task, eta_Task, sames_Task, he2, h5, h6, h7, hl]

theorem fn25w0 (σ : List Ob) (lo tr : Nat) : Fn fns 4121 [vsl ([] : List GVal)] σ lo tr = some (.c (.b .nils), σ) := by
  have he2 : ∀ σ, elems σ 2 (.c (.b (.d (.sl (rows ([] : List GVal)))))) = some (0, cellsOf ([] : List GVal)) := fun σ => elems_rows k_Val σ []
  simp only [rs_nil] at he2
  rw [fn_eq t25v1 rfl rfl]
  simp [KF, params, f25v1, ↓K_seq, ↓K_cond, ↓K_block, ↓K_region, ↓K_skip, ↓K_exit, ↓K_ret, ↓K_wrap, ↓KA_nil, ↓KA_none, ↓KA_some, beq_int, bne_int, dec_eqN, dec_ltN, dec_leN, stepOp, St.rd, St.raw, St.set, St.took, get_cons, V.down, C.down, Env.keep, binV, unV, arith, isShift, strs, intOf, optInt, wrapEnd, keptAt, andK, endOf, frzV, frz1, frzC, frzCs, frz1s, resOf, resOne, resAll, V.closed, V.closed1, C.closed, B.closed, Ob.closed, V.cells, partsIn, rep, chunk, datas, C.data, rowsOf, getCells, put_nil, put_zero, put_succ, mayWrite, C.plain, eqV_bool, eqV_agg, eqV_pnn, eqV_pnp, eqV_ppn, eqV_mnn, eqV_mmn, eqV_snn, eqV_sen, eqV_san, eqV_sdn, rs_len, rs_getE, rs_app, rs_take, rs_drop, rs_all, rs_each, row_len, str_eq, vagg, row_Int, row_Bool, row_Str, k_Int, k_Bool, k_Str, snoc_Int, snoc_Bool, snoc_Str, row_Type, k_Type, snoc_Type, eta_Type, sames_Type, row_Field, k_Field, snoc_Field, eta_Field, sames_Field, row_Instr, k_Instr, snoc_Instr, eta_Instr, sames_Instr, row_Catch, k_Catch, snoc_Catch, eta_Catch, sames_Catch, row_Method, k_Method, snoc_Method, row_Class, k_Class, snoc_Class, row_Program, k_Program, snoc_Program, row_Slot, k_Slot, snoc_Slot, eta_Slot, sames_Slot, row_State, k_State, snoc_State, row_Val, k_Val, snoc_Val, eta_Val, sames_Val, row_Obj, k_Obj, snoc_Obj, row_Input, k_Input, snoc_Input, row_Frame, k_Frame, snoc_Frame, row_Run, k_Run, snoc_Run, row_Way, k_Way, snoc_Way, eta_Way, sames_Way, row_Task, k_Task, snoc_Task, eta_Task, sames_Task, rs_nil, he2]

theorem mk25 (l : List GVal) (hl : l.length < 1000000000) (σ : List Ob) (tr : Nat) : ∃ (c : C) (τ : List Ob), c.down = c ∧ (∀ lo, lo ≤ σ.length → Fn fns 4121 [vsl l] σ lo tr = some (.c c, σ ++ τ)) ∧
    (∀ X, SlotAt (σ ++ τ ++ X) 2 c l) ∧ (∀ m, pointsTo c = some m → σ.length ≤ m ∧ m < σ.length + τ.length) ∧ (c = .b .nils ∨ ∃ m, pointsTo c = some m) := by
  by_cases hne : l = []
  · subst hne
    exact ⟨.b .nils, [], rfl, fun lo hlo => by rw [List.append_nil]; exact fn25w0 σ lo tr, fun X => .inr (.inl ⟨rfl, rfl⟩), (fun m hm => by cases hm), .inl rfl⟩
  · refine ⟨.b (.arr 2 σ.length 0 l.length), _, rfl, fun lo hlo => fn25w l hl hne σ lo tr hlo, fun X => .inr (.inr ⟨σ.length, rfl, ?_⟩), fun m hm => ?_, .inr ⟨_, rfl⟩⟩
    · rw [List.append_assoc, List.getElem?_append_right (by omega), Nat.sub_self]; rfl
    · simp only [pointsTo, Option.some.injEq] at hm
      subst hm
      simp

theorem rot_calc {n s j : Nat} (hs : s < n) (hj : j < n) (hn : n < 1000000) : IntKind.i64.wrap ((j : Int) - s) = (j : Int) - s ∧ IntKind.i64.wrap ((j : Int) - s + n) = (j : Int) - s + n ∧
    ((j : Int) - s + n).tmod n = rot n s j ∧ IntKind.i64.wrap (rot n s j) = rot n s j := by
  have h1 : 0 ≤ (j : Int) - s + n := by omega
  have h2 : ((j : Int) - s + n).tmod n = ((j : Int) - s + n) % n := Int.tmod_eq_emod_of_nonneg h1
  have h3 : ((j : Int) - s + n) % n = rot n s j := by
    unfold rot
    rw [if_pos (by omega)]
    split
    · rw [Int.emod_eq_of_lt (by omega) (by omega)]
    · rw [Int.add_emod_right, Int.emod_eq_of_lt (by omega) (by omega)]
  have h4 := rot_in hs (x := (j : Int)) (by omega)
  refine ⟨?_, ?_, h2.trans h3, ?_⟩ <;> simp [IntKind.wrap, IntKind.signed, IntKind.bits] <;> omega

theorem fn34w {σ : List Ob} {m : Nat} {l : List GVal} (h : σ[m]? = some (.cells (cellsOf l))) {n s : Nat} (hs : s < n) (hn : n < 1000000) (hl : l.length < 1000000000) (hin : ∀ v ∈ l, v.isRef = true → -1 ≤ v.n ∧ v.n < n) :
    Fn fns 34 [.c (.b (.arr 2 m 0 l.length)), vint n, vint s] σ 0 0 = some (.tup [], σ.set m (.cells (cellsOf (l.map (tv n s))))) := by
  rw [fn_eq t34 rfl rfl]
  have hm : m < σ.length := (List.getElem?_eq_some_iff.mp h).1
  have h0 : σ.set m (.cells (cellsOf l)) = σ := by
    apply List.ext_getElem? 
    intro i
    by_cases e : m = i
    · subst e; rw [h]; simp [hm]
    · rw [List.getElem?_set_ne e]
  have L : ∀ (bd : Bd) (hb : bd.lo = 0) (k : AExit → St → Option (V × List Ob)), K fns bd f34_l0 ⟨[(0, .c (.b (.arr 2 m 0 l.length))), (1, vint n), (2, vint s), (6, vint 0)], σ.set m (.cells (cellsOf l))⟩ k = k (.exit 0) ⟨[], σ.set m (.cells (cellsOf (l.map (tv n s))))⟩ := fun bd hb k =>
    scan_upd (l := l) (f := tv n s) (X := fun i c => K fns bd f34_l0 ⟨[(0, .c (.b (.arr 2 m 0 l.length))), (1, vint n), (2, vint s), (6, vint i)], σ.set m (.cells (cellsOf c))⟩ k)
      (e := fun c => k (.exit 0) ⟨[], σ.set m (.cells (cellsOf c))⟩)
      (fun i c hi hi' hcl hci => by
        have hw := wrap_succ (i := i) (by omega)
        have hlen := cl_len k_Val c
        have hle : i * 2 + 2 ≤ c.length * 2 := by omega
        have g0 := cl_get k_Val hi (j := 0) (by omega)
        have g1 := cl_get k_Val hi (j := 1) (by omega)
        rw [row_Val] at g0 g1
        simp only [List.getElem?_cons_succ, List.getElem?_cons_zero, Option.map, box1, Nat.add_zero] at g0 g1
        have hput : ∀ x : Int, putAt (cellsOf c) (i * 2 + 1) [.b (.d (.int .i64 x))] = some (cellsOf (c.set i ⟨c[i].isRef, x⟩)) := fun x => by
          have := cl_put k_Val hi (j := 1) (v := ⟨c[i].isRef, x⟩) (ds := [.int .i64 x]) (by simp) (by simp [row_Val])
          simpa [box1] using this
        have hmg : ∀ X : Ob, (σ.set m X)[m]? = some X := fun X => by simp [hm]
        have hms : ∀ X Y : Ob, (σ.set m X).set m Y = σ.set m Y := fun X Y => by simp
        have hri := hin c[i] (by rw [hci]; exact List.getElem_mem hi')
        show K fns _ f34_l0 _ k = _
        rw [u34_l0]
        cases hr : c[i].isRef with
        | false =>
          have e : c.set i (tv n s c[i]) = c := by
            have : tv n s c[i] = c[i] := by simp [tv, hr]
            rw [this]; simp
          rw [e]
          simp [f34_b0, ↓K_seq, ↓K_cond, ↓K_block, ↓K_region, ↓K_skip, ↓K_exit, ↓K_ret, ↓K_wrap, ↓KA_nil, ↓KA_none, ↓KA_some, beq_int, bne_int, dec_eqN, dec_ltN, dec_leN, stepOp, St.rd, St.raw, St.set, St.took, get_cons, V.down, C.down, Env.keep, binV, unV, arith, isShift, strs, intOf, optInt, wrapEnd, keptAt, andK, endOf, frzV, frz1, frzC, frzCs, frz1s, resOf, resOne, resAll, V.closed, V.closed1, C.closed, B.closed, Ob.closed, V.cells, partsIn, rep, chunk, datas, C.data, rowsOf, getCells, put_nil, put_zero, put_succ, mayWrite, C.plain, eqV_bool, eqV_agg, eqV_pnn, eqV_pnp, eqV_ppn, eqV_mnn, eqV_mmn, eqV_snn, eqV_sen, eqV_san, eqV_sdn, rs_len, rs_getE, rs_app, rs_take, rs_drop, rs_all, rs_each, row_len, str_eq, vagg, row_Int, row_Bool, row_Str, k_Int, k_Bool, k_Str, snoc_Int, snoc_Bool, snoc_Str, row_Type, k_Type, snoc_Type, eta_Type, sames_Type, row_Field, k_Field, snoc_Field, eta_Field, sames_Field, row_Instr, k_Instr, snoc_Instr, eta_Instr, sames_Instr, row_Catch, k_Catch, snoc_Catch, eta_Catch, sames_Catch, row_Method, k_Method, snoc_Method, row_Class, k_Class, snoc_Class, row_Program, k_Program, snoc_Program, row_Slot, k_Slot, snoc_Slot, eta_Slot, sames_Slot, row_State, k_State, snoc_State, row_Val, k_Val, snoc_Val, eta_Val, sames_Val, row_Obj, k_Obj, snoc_Obj, row_Input, k_Input, snoc_Input, row_Frame, k_Frame, snoc_Frame, row_Run, k_Run, snoc_Run, row_Way, k_Way, snoc_Way, eta_Way, sames_Way, row_Task, k_Task, snoc_Task, eta_Task, sames_Task, hi', hle, hlen, g0, g1, hr, hw, hmg]
        | true =>
          have ht : tv n s c[i] = ⟨c[i].isRef, rot n s c[i].n⟩ := by simp [tv, hr]
          rw [ht]
          rw [hr] at hri
          have hri := hri rfl
          by_cases c1 : 0 ≤ c[i].n
          · obtain ⟨j, hj⟩ : ∃ j : Nat, c[i].n = j := ⟨c[i].n.toNat, by omega⟩
            have hjn : j < n := by omega
            obtain ⟨r1, r2, r3, r4⟩ := rot_calc hs hjn hn
            have c2 : (j : Int) < n := by omega
            have c3 : ¬ ((n : Int) = 0) := by omega
            have c4 : ¬ n = 0 := by omega
            rw [hj]
            simp [f34_b0, ↓K_seq, ↓K_cond, ↓K_block, ↓K_region, ↓K_skip, ↓K_exit, ↓K_ret, ↓K_wrap, ↓KA_nil, ↓KA_none, ↓KA_some, beq_int, bne_int, dec_eqN, dec_ltN, dec_leN, stepOp, St.rd, St.raw, St.set, St.took, get_cons, V.down, C.down, Env.keep, binV, unV, arith, isShift, strs, intOf, optInt, wrapEnd, keptAt, andK, endOf, frzV, frz1, frzC, frzCs, frz1s, resOf, resOne, resAll, V.closed, V.closed1, C.closed, B.closed, Ob.closed, V.cells, partsIn, rep, chunk, datas, C.data, rowsOf, getCells, put_nil, put_zero, put_succ, mayWrite, C.plain, eqV_bool, eqV_agg, eqV_pnn, eqV_pnp, eqV_ppn, eqV_mnn, eqV_mmn, eqV_snn, eqV_sen, eqV_san, eqV_sdn, rs_len, rs_getE, rs_app, rs_take, rs_drop, rs_all, rs_each, row_len, str_eq, vagg, row_Int, row_Bool, row_Str, k_Int, k_Bool, k_Str, snoc_Int, snoc_Bool, snoc_Str, row_Type, k_Type, snoc_Type, eta_Type, sames_Type, row_Field, k_Field, snoc_Field, eta_Field, sames_Field, row_Instr, k_Instr, snoc_Instr, eta_Instr, sames_Instr, row_Catch, k_Catch, snoc_Catch, eta_Catch, sames_Catch, row_Method, k_Method, snoc_Method, row_Class, k_Class, snoc_Class, row_Program, k_Program, snoc_Program, row_Slot, k_Slot, snoc_Slot, eta_Slot, sames_Slot, row_State, k_State, snoc_State, row_Val, k_Val, snoc_Val, eta_Val, sames_Val, row_Obj, k_Obj, snoc_Obj, row_Input, k_Input, snoc_Input, row_Frame, k_Frame, snoc_Frame, row_Run, k_Run, snoc_Run, row_Way, k_Way, snoc_Way, eta_Way, sames_Way, row_Task, k_Task, snoc_Task, eta_Task, sames_Task, hi', hle, hlen, g0, g1, hr, hw, hmg, hms, hput, hj, hjn, r1, r2, r3, r4, c2, c3, c4, hb]
          · have e : c.set i ⟨c[i].isRef, rot n s c[i].n⟩ = c := by
              have : rot n s c[i].n = c[i].n := by
                unfold rot; rw [if_neg (by omega)]; omega
              have e0 : (⟨c[i].isRef, c[i].n⟩ : GVal) = c[i] := rfl
              rw [this, e0]
              exact List.set_getElem_self hi
            rw [e]
            simp [f34_b0, ↓K_seq, ↓K_cond, ↓K_block, ↓K_region, ↓K_skip, ↓K_exit, ↓K_ret, ↓K_wrap, ↓KA_nil, ↓KA_none, ↓KA_some, beq_int, bne_int, dec_eqN, dec_ltN, dec_leN, stepOp, St.rd, St.raw, St.set, St.took, get_cons, V.down, C.down, Env.keep, binV, unV, arith, isShift, strs, intOf, optInt, wrapEnd, keptAt, andK, endOf, frzV, frz1, frzC, frzCs, frz1s, resOf, resOne, resAll, V.closed, V.closed1, C.closed, B.closed, Ob.closed, V.cells, partsIn, rep, chunk, datas, C.data, rowsOf, getCells, put_nil, put_zero, put_succ, mayWrite, C.plain, eqV_bool, eqV_agg, eqV_pnn, eqV_pnp, eqV_ppn, eqV_mnn, eqV_mmn, eqV_snn, eqV_sen, eqV_san, eqV_sdn, rs_len, rs_getE, rs_app, rs_take, rs_drop, rs_all, rs_each, row_len, str_eq, vagg, row_Int, row_Bool, row_Str, k_Int, k_Bool, k_Str, snoc_Int, snoc_Bool, snoc_Str, row_Type, k_Type, snoc_Type, eta_Type, sames_Type, row_Field, k_Field, snoc_Field, eta_Field, sames_Field, row_Instr, k_Instr, snoc_Instr, eta_Instr, sames_Instr, row_Catch, k_Catch, snoc_Catch, eta_Catch, sames_Catch, row_Method, k_Method, snoc_Method, row_Class, k_Class, snoc_Class, row_Program, k_Program, snoc_Program, row_Slot, k_Slot, snoc_Slot, eta_Slot, sames_Slot, row_State, k_State, snoc_State, row_Val, k_Val, snoc_Val, eta_Val, sames_Val, row_Obj, k_Obj, snoc_Obj, row_Input, k_Input, snoc_Input, row_Frame, k_Frame, snoc_Frame, row_Run, k_Run, snoc_Run, row_Way, k_Way, snoc_Way, eta_Way, sames_Way, row_Task, k_Task, snoc_Task, eta_Task, sames_Task, hi', hle, hlen, g0, g1, hr, hw, hmg, c1])
      (fun c hc => by
        show K fns _ f34_l0 _ k = _
        rw [u34_l0]
        simp [f34_b0, ↓K_seq, ↓K_cond, ↓K_block, ↓K_region, ↓K_skip, ↓K_exit, ↓K_ret, ↓K_wrap, ↓KA_nil, ↓KA_none, ↓KA_some, beq_int, bne_int, dec_eqN, dec_ltN, dec_leN, stepOp, St.rd, St.raw, St.set, St.took, get_cons, V.down, C.down, Env.keep, binV, unV, arith, isShift, strs, intOf, optInt, wrapEnd, keptAt, andK, endOf, frzV, frz1, frzC, frzCs, frz1s, resOf, resOne, resAll, V.closed, V.closed1, C.closed, B.closed, Ob.closed, V.cells, partsIn, rep, chunk, datas, C.data, rowsOf, getCells, put_nil, put_zero, put_succ, mayWrite, C.plain, eqV_bool, eqV_agg, eqV_pnn, eqV_pnp, eqV_ppn, eqV_mnn, eqV_mmn, eqV_snn, eqV_sen, eqV_san, eqV_sdn, rs_len, rs_getE, rs_app, rs_take, rs_drop, rs_all, rs_each, row_len, str_eq, vagg, row_Int, row_Bool, row_Str, k_Int, k_Bool, k_Str, snoc_Int, snoc_Bool, snoc_Str, row_Type, k_Type, snoc_Type, eta_Type, sames_Type, row_Field, k_Field, snoc_Field, eta_Field, sames_Field, row_Instr, k_Instr, snoc_Instr, eta_Instr, sames_Instr, row_Catch, k_Catch, snoc_Catch, eta_Catch, sames_Catch, row_Method, k_Method, snoc_Method, row_Class, k_Class, snoc_Class, row_Program, k_Program, snoc_Program, row_Slot, k_Slot, snoc_Slot, eta_Slot, sames_Slot, row_State, k_State, snoc_State, row_Val, k_Val, snoc_Val, eta_Val, sames_Val, row_Obj, k_Obj, snoc_Obj, row_Input, k_Input, snoc_Input, row_Frame, k_Frame, snoc_Frame, row_Run, k_Run, snoc_Run, row_Way, k_Way, snoc_Way, eta_Way, sames_Way, row_Task, k_Task, snoc_Task, eta_Task, sames_Task])
  rw [h0] at L
  have ht : ∀ X : Ob, List.take σ.length (σ.set m X) = σ.set m X := fun X => List.take_of_length_le (by simp)
  simp [KF, params, f34, ↓K_seq, ↓K_cond, ↓K_block, ↓K_region, ↓K_skip, ↓K_exit, ↓K_ret, ↓K_wrap, ↓KA_nil, ↓KA_none, ↓KA_some, beq_int, bne_int, dec_eqN, dec_ltN, dec_leN, stepOp, St.rd, St.raw, St.set, St.took, get_cons, V.down, C.down, Env.keep, binV, unV, arith, isShift, strs, intOf, optInt, wrapEnd, keptAt, andK, endOf, frzV, frz1, frzC, frzCs, frz1s, resOf, resOne, resAll, V.closed, V.closed1, C.closed, B.closed, Ob.closed, V.cells, partsIn, rep, chunk, datas, C.data, rowsOf, getCells, put_nil, put_zero, put_succ, mayWrite, C.plain, eqV_bool, eqV_agg, eqV_pnn, eqV_pnp, eqV_ppn, eqV_mnn, eqV_mmn, eqV_snn, eqV_sen, eqV_san, eqV_sdn, rs_len, rs_getE, rs_app, rs_take, rs_drop, rs_all, rs_each, row_len, str_eq, vagg, row_Int, row_Bool, row_Str, k_Int, k_Bool, k_Str, snoc_Int, snoc_Bool, snoc_Str, row_Type, k_Type, snoc_Type, eta_Type, sames_Type, row_Field, k_Field, snoc_Field, eta_Field, sames_Field, row_Instr, k_Instr, snoc_Instr, eta_Instr, sames_Instr, row_Catch, k_Catch, snoc_Catch, eta_Catch, sames_Catch, row_Method, k_Method, snoc_Method, row_Class, k_Class, snoc_Class, row_Program, k_Program, snoc_Program, row_Slot, k_Slot, snoc_Slot, eta_Slot, sames_Slot, row_State, k_State, snoc_State, row_Val, k_Val, snoc_Val, eta_Val, sames_Val, row_Obj, k_Obj, snoc_Obj, row_Input, k_Input, snoc_Input, row_Frame, k_Frame, snoc_Frame, row_Run, k_Run, snoc_Run, row_Way, k_Way, snoc_Way, eta_Way, sames_Way, row_Task, k_Task, snoc_Task, eta_Task, sames_Task, L, ht]

theorem fn34n {n s : Nat} (σ : List Ob) : Fn fns 34 [.c (.b .nils), vint n, vint s] σ 0 0 = some (.tup [], σ) := by
  rw [fn_eq t34 rfl rfl]
  simp [KF, params, f34, ↓K_seq, ↓K_cond, ↓K_block, ↓K_region, ↓K_skip, ↓K_exit, ↓K_ret, ↓K_wrap, ↓KA_nil, ↓KA_none, ↓KA_some, beq_int, bne_int, dec_eqN, dec_ltN, dec_leN, stepOp, St.rd, St.raw, St.set, St.took, get_cons, V.down, C.down, Env.keep, binV, unV, arith, isShift, strs, intOf, optInt, wrapEnd, keptAt, andK, endOf, frzV, frz1, frzC, frzCs, frz1s, resOf, resOne, resAll, V.closed, V.closed1, C.closed, B.closed, Ob.closed, V.cells, partsIn, rep, chunk, datas, C.data, rowsOf, getCells, put_nil, put_zero, put_succ, mayWrite, C.plain, eqV_bool, eqV_agg, eqV_pnn, eqV_pnp, eqV_ppn, eqV_mnn, eqV_mmn, eqV_snn, eqV_sen, eqV_san, eqV_sdn, rs_len, rs_getE, rs_app, rs_take, rs_drop, rs_all, rs_each, row_len, str_eq, vagg, row_Int, row_Bool, row_Str, k_Int, k_Bool, k_Str, snoc_Int, snoc_Bool, snoc_Str, row_Type, k_Type, snoc_Type, eta_Type, sames_Type, row_Field, k_Field, snoc_Field, eta_Field, sames_Field, row_Instr, k_Instr, snoc_Instr, eta_Instr, sames_Instr, row_Catch, k_Catch, snoc_Catch, eta_Catch, sames_Catch, row_Method, k_Method, snoc_Method, row_Class, k_Class, snoc_Class, row_Program, k_Program, snoc_Program, row_Slot, k_Slot, snoc_Slot, eta_Slot, sames_Slot, row_State, k_State, snoc_State, row_Val, k_Val, snoc_Val, eta_Val, sames_Val, row_Obj, k_Obj, snoc_Obj, row_Input, k_Input, snoc_Input, row_Frame, k_Frame, snoc_Frame, row_Run, k_Run, snoc_Run, row_Way, k_Way, snoc_Way, eta_Way, sames_Way, row_Task, k_Task, snoc_Task, eta_Task, sames_Task]
  rw [u34_l0]
  simp [f34_b0, ↓K_seq, ↓K_cond, ↓K_block, ↓K_region, ↓K_skip, ↓K_exit, ↓K_ret, ↓K_wrap, ↓KA_nil, ↓KA_none, ↓KA_some, beq_int, bne_int, dec_eqN, dec_ltN, dec_leN, stepOp, St.rd, St.raw, St.set, St.took, get_cons, V.down, C.down, Env.keep, binV, unV, arith, isShift, strs, intOf, optInt, wrapEnd, keptAt, andK, endOf, frzV, frz1, frzC, frzCs, frz1s, resOf, resOne, resAll, V.closed, V.closed1, C.closed, B.closed, Ob.closed, V.cells, partsIn, rep, chunk, datas, C.data, rowsOf, getCells, put_nil, put_zero, put_succ, mayWrite, C.plain, eqV_bool, eqV_agg, eqV_pnn, eqV_pnp, eqV_ppn, eqV_mnn, eqV_mmn, eqV_snn, eqV_sen, eqV_san, eqV_sdn, rs_len, rs_getE, rs_app, rs_take, rs_drop, rs_all, rs_each, row_len, str_eq, vagg, row_Int, row_Bool, row_Str, k_Int, k_Bool, k_Str, snoc_Int, snoc_Bool, snoc_Str, row_Type, k_Type, snoc_Type, eta_Type, sames_Type, row_Field, k_Field, snoc_Field, eta_Field, sames_Field, row_Instr, k_Instr, snoc_Instr, eta_Instr, sames_Instr, row_Catch, k_Catch, snoc_Catch, eta_Catch, sames_Catch, row_Method, k_Method, snoc_Method, row_Class, k_Class, snoc_Class, row_Program, k_Program, snoc_Program, row_Slot, k_Slot, snoc_Slot, eta_Slot, sames_Slot, row_State, k_State, snoc_State, row_Val, k_Val, snoc_Val, eta_Val, sames_Val, row_Obj, k_Obj, snoc_Obj, row_Input, k_Input, snoc_Input, row_Frame, k_Frame, snoc_Frame, row_Run, k_Run, snoc_Run, row_Way, k_Way, snoc_Way, eta_Way, sames_Way, row_Task, k_Task, snoc_Task, eta_Task, sames_Task]
end Go.Proofs.Ytjkhkblabhaimaa.Am
