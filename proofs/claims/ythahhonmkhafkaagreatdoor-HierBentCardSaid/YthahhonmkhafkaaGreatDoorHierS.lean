/- The laws HierKinds and HierSupers. Written by wip/tools/hs.py. -/
import Derived.Test.YthahhonmkhafkaaGreatDoorHierR
namespace Go.Proofs.YthahhonmkhafkaaGreatDoor.Am
set_option linter.unusedSimpArgs false
set_option linter.unusedVariables false
set_option linter.unusedSectionVars false
open Go
--let HV delverlaw02.Heavy
--let HI delverref04.Hier
--let NA delverlaw04.names
--let LK delverlaw04.HierKinds
--let LS delverlaw04.HierSupers

def wantL (p : GProgram) (x : ByteArray) : List ByteArray := (p.classes.filter fun c => !c.iface && underP p c.name x).map (·.name)
theorem kinds_want {p : GProgram} (hp : OkP p) (h : hierP p = 0) (x : ByteArray) : kindsP p x = wantL p x := by
  have hs := sane_of hp h
  unfold kindsP wantL
  rw [if_pos h]
  have hd : (namesOf (allL p)).drop 8 = p.classes.map (·.name) := by
    simp [namesOf, allL, baseL]
  rw [hd, List.filter_map]
  congr 1
  apply List.filter_congr
  intro c hc
  have hf := find_self hs.nd (c := c) (by simp [allL, hc])
  simp [plainP, hf]
theorem want_len {p : GProgram} (hp : OkP p) (x : ByteArray) : (wantL p x).length ≤ 30 := by
  have := hp.len
  have h2 := List.length_filter_le (fun c : GClass => !c.iface && underP p c.name x) p.classes
  unfold wantL
  rw [List.length_map]; omega
theorem want_sub {p : GProgram} (hp : OkP p) (h : hierP p = 0) {x y : ByteArray} (hu : underP p y x = true) : ∀ s ∈ wantL p y, s ∈ wantL p x := by
  intro s hs
  unfold wantL at *
  obtain ⟨c, hc, rfl⟩ := List.mem_map.mp hs
  rw [List.mem_filter] at hc
  have h2 : (!c.iface) = true ∧ underP p c.name y = true := by simpa using hc.2
  refine List.mem_map.mpr ⟨c, List.mem_filter.mpr ⟨hc.1, ?_⟩, rfl⟩
  rw [h2.1, under_trans hp h h2.2 hu]; rfl

theorem h4_0 (k : AExit → St → Option (V × List Ob)) (p : GProgram) (hp : OkP p) (x y : ByteArray) : K fns ⟨0,0⟩ f4_l0 ⟨[(3, vptr 0), (8, vstr x), (9, vstr y), (10, .c (.osl 1 [])), (11, vint 0)], [cP p]⟩ k = k (.exit 0) ⟨[(3, vptr 0), (8, vstr x), (9, vstr y), (10, .c (.osl 1 (rows (wantL p x))))], [cP p]⟩ := by
  have hl := hp.len
  have hu := fn_under p hp
  have := scan_fold (l := p.classes) (f := fun acc c => if (!c.iface && underP p c.name x) then acc ++ [c.name] else acc) (I := fun i c => c.length ≤ i)
    (X := fun i c => K fns ⟨0,0⟩ f4_l0 ⟨[(3, vptr 0), (8, vstr x), (9, vstr y), (10, .c (.osl 1 (rows c))), (11, vint i)], [cP p]⟩ k)
    (e := fun c => k (.exit 0) ⟨[(3, vptr 0), (8, vstr x), (9, vstr y), (10, .c (.osl 1 (rows c)))], [cP p]⟩)
    (fun i c hi hI => by
      have hw1 := wrap_succ (i := i) (by omega)
      have q1 : c.length + 1 ≤ 70368744177664 := by omega
      have q2 : (c.length + 1) * 16 ≤ 70368744177664 := by omega
      refine ⟨?_, by
        split
        · rw [List.length_append, List.length_singleton]; omega
        · omega⟩
      show K fns _ f4_l0 _ k = _
      rw [u4_l0]
      cases hi1 : p.classes[i].iface
      · cases hi2 : underP p p.classes[i].name x <;> simp [f4_b0, ↓K_seq, ↓K_cond, ↓K_block, ↓K_region, ↓K_skip, ↓K_exit, ↓K_ret, ↓K_wrap, ↓KA_nil, ↓KA_none, ↓KA_some, beq_int, bne_int, dec_eqN, dec_ltN, dec_leN, stepOp, St.rd, St.raw, St.set, St.took, get_cons, V.down, C.down, Env.keep, binV, unV, arith, isShift, strs, intOf, optInt, wrapEnd, keptAt, andK, endOf, frzV, frz1, frzC, frzCs, frz1s, resOf, resOne, resAll, V.closed, V.closed1, C.closed, B.closed, Ob.closed, V.cells, partsIn, rep, chunk, datas, C.data, rowsOf, getCells, put_nil, put_zero, put_succ, mayWrite, C.plain, eqV_bool, eqV_agg, eqV_pnn, eqV_pnp, eqV_ppn, eqV_mnn, eqV_mmn, eqV_snn, eqV_sen, eqV_san, eqV_sdn, rs_len, rs_getE, rs_app, rs_take, rs_drop, rs_all, rs_each, row_len, ↓str_eq, str_nilP, str_nilE, str_nilB, vagg, row_Int, row_Bool, row_Str, k_Int, k_Bool, k_Str, snoc_Int, snoc_Bool, snoc_Str, row_Type, k_Type, snoc_Type, eta_Type, sames_Type, row_Field, k_Field, snoc_Field, eta_Field, sames_Field, row_Instr, k_Instr, snoc_Instr, eta_Instr, sames_Instr, row_Catch, k_Catch, snoc_Catch, eta_Catch, sames_Catch, row_Method, k_Method, snoc_Method, row_Class, k_Class, snoc_Class, row_Program, k_Program, snoc_Program, row_Slot, k_Slot, snoc_Slot, eta_Slot, sames_Slot, row_State, k_State, snoc_State, row_Val, k_Val, snoc_Val, eta_Val, sames_Val, row_Obj, k_Obj, snoc_Obj, row_Input, k_Input, snoc_Input, row_Frame, k_Frame, snoc_Frame, row_Run, k_Run, snoc_Run, row_Way, k_Way, snoc_Way, eta_Way, sames_Way, row_Task, k_Task, snoc_Task, eta_Task, sames_Task, hi, hw1, hi1, hi2, hu, q1, q2]
      · simp [f4_b0, ↓K_seq, ↓K_cond, ↓K_block, ↓K_region, ↓K_skip, ↓K_exit, ↓K_ret, ↓K_wrap, ↓KA_nil, ↓KA_none, ↓KA_some, beq_int, bne_int, dec_eqN, dec_ltN, dec_leN, stepOp, St.rd, St.raw, St.set, St.took, get_cons, V.down, C.down, Env.keep, binV, unV, arith, isShift, strs, intOf, optInt, wrapEnd, keptAt, andK, endOf, frzV, frz1, frzC, frzCs, frz1s, resOf, resOne, resAll, V.closed, V.closed1, C.closed, B.closed, Ob.closed, V.cells, partsIn, rep, chunk, datas, C.data, rowsOf, getCells, put_nil, put_zero, put_succ, mayWrite, C.plain, eqV_bool, eqV_agg, eqV_pnn, eqV_pnp, eqV_ppn, eqV_mnn, eqV_mmn, eqV_snn, eqV_sen, eqV_san, eqV_sdn, rs_len, rs_getE, rs_app, rs_take, rs_drop, rs_all, rs_each, row_len, ↓str_eq, str_nilP, str_nilE, str_nilB, vagg, row_Int, row_Bool, row_Str, k_Int, k_Bool, k_Str, snoc_Int, snoc_Bool, snoc_Str, row_Type, k_Type, snoc_Type, eta_Type, sames_Type, row_Field, k_Field, snoc_Field, eta_Field, sames_Field, row_Instr, k_Instr, snoc_Instr, eta_Instr, sames_Instr, row_Catch, k_Catch, snoc_Catch, eta_Catch, sames_Catch, row_Method, k_Method, snoc_Method, row_Class, k_Class, snoc_Class, row_Program, k_Program, snoc_Program, row_Slot, k_Slot, snoc_Slot, eta_Slot, sames_Slot, row_State, k_State, snoc_State, row_Val, k_Val, snoc_Val, eta_Val, sames_Val, row_Obj, k_Obj, snoc_Obj, row_Input, k_Input, snoc_Input, row_Frame, k_Frame, snoc_Frame, row_Run, k_Run, snoc_Run, row_Way, k_Way, snoc_Way, eta_Way, sames_Way, row_Task, k_Task, snoc_Task, eta_Task, sames_Task, hi, hw1, hi1])
    (fun c hI => by
      show K fns _ f4_l0 _ k = _
      rw [u4_l0]; simp [f4_b0, ↓K_seq, ↓K_cond, ↓K_block, ↓K_region, ↓K_skip, ↓K_exit, ↓K_ret, ↓K_wrap, ↓KA_nil, ↓KA_none, ↓KA_some, beq_int, bne_int, dec_eqN, dec_ltN, dec_leN, stepOp, St.rd, St.raw, St.set, St.took, get_cons, V.down, C.down, Env.keep, binV, unV, arith, isShift, strs, intOf, optInt, wrapEnd, keptAt, andK, endOf, frzV, frz1, frzC, frzCs, frz1s, resOf, resOne, resAll, V.closed, V.closed1, C.closed, B.closed, Ob.closed, V.cells, partsIn, rep, chunk, datas, C.data, rowsOf, getCells, put_nil, put_zero, put_succ, mayWrite, C.plain, eqV_bool, eqV_agg, eqV_pnn, eqV_pnp, eqV_ppn, eqV_mnn, eqV_mmn, eqV_snn, eqV_sen, eqV_san, eqV_sdn, rs_len, rs_getE, rs_app, rs_take, rs_drop, rs_all, rs_each, row_len, ↓str_eq, str_nilP, str_nilE, str_nilB, vagg, row_Int, row_Bool, row_Str, k_Int, k_Bool, k_Str, snoc_Int, snoc_Bool, snoc_Str, row_Type, k_Type, snoc_Type, eta_Type, sames_Type, row_Field, k_Field, snoc_Field, eta_Field, sames_Field, row_Instr, k_Instr, snoc_Instr, eta_Instr, sames_Instr, row_Catch, k_Catch, snoc_Catch, eta_Catch, sames_Catch, row_Method, k_Method, snoc_Method, row_Class, k_Class, snoc_Class, row_Program, k_Program, snoc_Program, row_Slot, k_Slot, snoc_Slot, eta_Slot, sames_Slot, row_State, k_State, snoc_State, row_Val, k_Val, snoc_Val, eta_Val, sames_Val, row_Obj, k_Obj, snoc_Obj, row_Input, k_Input, snoc_Input, row_Frame, k_Frame, snoc_Frame, row_Run, k_Run, snoc_Run, row_Way, k_Way, snoc_Way, eta_Way, sames_Way, row_Task, k_Task, snoc_Task, eta_Task, sames_Task]) (c := []) (by simp)
  have e : p.classes.foldl (fun acc c => if (!c.iface && underP p c.name x) then acc ++ [c.name] else acc) [] = wantL p x := by
    have key : ∀ (l : List GClass) (acc : List ByteArray), l.foldl (fun acc c => if (!c.iface && underP p c.name x) then acc ++ [c.name] else acc) acc = acc ++ (l.filter fun c => !c.iface && underP p c.name x).map (·.name) := by
      intro l
      induction l with
      | nil => intro acc; simp
      | cons c t ih =>
        intro acc
        rw [List.foldl_cons, ih, List.filter_cons]
        cases (!c.iface && underP p c.name x) <;> simp
    rw [key]; rfl
  rw [e] at this
  simpa [rs_nil] using this

theorem h4_1 (k : AExit → St → Option (V × List Ob)) (p : GProgram) (want kk : List ByteArray) (i : Nat) (hi : i < kk.length) (hw : want.length ≤ 100) : K fns ⟨0,0⟩ f4_l1 ⟨[(10, .c (.osl 1 (rows want))), (12, vsl kk), (13, vint i), (14, vbool false), (15, vint 0)], [cP p]⟩ k = k (.exit 4) ⟨[(10, .c (.osl 1 (rows want))), (12, vsl kk), (13, vint i), (14, vbool (want.any fun w => decide (w = kk[i])))], [cP p]⟩ := by
  have := scan_fold (l := want) (f := fun b w => b || decide (w = kk[i])) (I := fun _ _ => True)
    (X := fun q b => K fns ⟨0,0⟩ f4_l1 ⟨[(10, .c (.osl 1 (rows want))), (12, vsl kk), (13, vint i), (14, vbool b), (15, vint q)], [cP p]⟩ k)
    (e := fun b => k (.exit 4) ⟨[(10, .c (.osl 1 (rows want))), (12, vsl kk), (13, vint i), (14, vbool b)], [cP p]⟩)
    (fun q b hq _ => by
      have hw1 := wrap_succ (i := q) (by omega)
      refine ⟨?_, trivial⟩
      show K fns _ f4_l1 _ k = _
      rw [u4_l1]
      cases b <;> simp [f4_b1, ↓K_seq, ↓K_cond, ↓K_block, ↓K_region, ↓K_skip, ↓K_exit, ↓K_ret, ↓K_wrap, ↓KA_nil, ↓KA_none, ↓KA_some, beq_int, bne_int, dec_eqN, dec_ltN, dec_leN, stepOp, St.rd, St.raw, St.set, St.took, get_cons, V.down, C.down, Env.keep, binV, unV, arith, isShift, strs, intOf, optInt, wrapEnd, keptAt, andK, endOf, frzV, frz1, frzC, frzCs, frz1s, resOf, resOne, resAll, V.closed, V.closed1, C.closed, B.closed, Ob.closed, V.cells, partsIn, rep, chunk, datas, C.data, rowsOf, getCells, put_nil, put_zero, put_succ, mayWrite, C.plain, eqV_bool, eqV_agg, eqV_pnn, eqV_pnp, eqV_ppn, eqV_mnn, eqV_mmn, eqV_snn, eqV_sen, eqV_san, eqV_sdn, rs_len, rs_getE, rs_app, rs_take, rs_drop, rs_all, rs_each, row_len, ↓str_eq, str_nilP, str_nilE, str_nilB, vagg, row_Int, row_Bool, row_Str, k_Int, k_Bool, k_Str, snoc_Int, snoc_Bool, snoc_Str, row_Type, k_Type, snoc_Type, eta_Type, sames_Type, row_Field, k_Field, snoc_Field, eta_Field, sames_Field, row_Instr, k_Instr, snoc_Instr, eta_Instr, sames_Instr, row_Catch, k_Catch, snoc_Catch, eta_Catch, sames_Catch, row_Method, k_Method, snoc_Method, row_Class, k_Class, snoc_Class, row_Program, k_Program, snoc_Program, row_Slot, k_Slot, snoc_Slot, eta_Slot, sames_Slot, row_State, k_State, snoc_State, row_Val, k_Val, snoc_Val, eta_Val, sames_Val, row_Obj, k_Obj, snoc_Obj, row_Input, k_Input, snoc_Input, row_Frame, k_Frame, snoc_Frame, row_Run, k_Run, snoc_Run, row_Way, k_Way, snoc_Way, eta_Way, sames_Way, row_Task, k_Task, snoc_Task, eta_Task, sames_Task, hi, hq, hw1])
    (fun b _ => by
      show K fns _ f4_l1 _ k = _
      rw [u4_l1]; simp [f4_b1, ↓K_seq, ↓K_cond, ↓K_block, ↓K_region, ↓K_skip, ↓K_exit, ↓K_ret, ↓K_wrap, ↓KA_nil, ↓KA_none, ↓KA_some, beq_int, bne_int, dec_eqN, dec_ltN, dec_leN, stepOp, St.rd, St.raw, St.set, St.took, get_cons, V.down, C.down, Env.keep, binV, unV, arith, isShift, strs, intOf, optInt, wrapEnd, keptAt, andK, endOf, frzV, frz1, frzC, frzCs, frz1s, resOf, resOne, resAll, V.closed, V.closed1, C.closed, B.closed, Ob.closed, V.cells, partsIn, rep, chunk, datas, C.data, rowsOf, getCells, put_nil, put_zero, put_succ, mayWrite, C.plain, eqV_bool, eqV_agg, eqV_pnn, eqV_pnp, eqV_ppn, eqV_mnn, eqV_mmn, eqV_snn, eqV_sen, eqV_san, eqV_sdn, rs_len, rs_getE, rs_app, rs_take, rs_drop, rs_all, rs_each, row_len, ↓str_eq, str_nilP, str_nilE, str_nilB, vagg, row_Int, row_Bool, row_Str, k_Int, k_Bool, k_Str, snoc_Int, snoc_Bool, snoc_Str, row_Type, k_Type, snoc_Type, eta_Type, sames_Type, row_Field, k_Field, snoc_Field, eta_Field, sames_Field, row_Instr, k_Instr, snoc_Instr, eta_Instr, sames_Instr, row_Catch, k_Catch, snoc_Catch, eta_Catch, sames_Catch, row_Method, k_Method, snoc_Method, row_Class, k_Class, snoc_Class, row_Program, k_Program, snoc_Program, row_Slot, k_Slot, snoc_Slot, eta_Slot, sames_Slot, row_State, k_State, snoc_State, row_Val, k_Val, snoc_Val, eta_Val, sames_Val, row_Obj, k_Obj, snoc_Obj, row_Input, k_Input, snoc_Input, row_Frame, k_Frame, snoc_Frame, row_Run, k_Run, snoc_Run, row_Way, k_Way, snoc_Way, eta_Way, sames_Way, row_Task, k_Task, snoc_Task, eta_Task, sames_Task, hi]) (c := false) trivial
  have e : want.foldl (fun b w => b || decide (w = kk[i])) false = want.any fun w => decide (w = kk[i]) := by
    have key : ∀ (l : List ByteArray) (b : Bool), l.foldl (fun b w => b || decide (w = kk[i])) b = (b || l.any fun w => decide (w = kk[i])) := by
      intro l
      induction l with
      | nil => intro b; simp
      | cons c t ih => intro b; rw [List.foldl_cons, ih, List.any_cons, Bool.or_assoc]
    rw [key]; simp
  rw [e] at this
  simpa using this

theorem h4_2 (k : AExit → St → Option (V × List Ob)) (p : GProgram) (want kk : List ByteArray) (hw : want.length ≤ 100) (hk : kk.length ≤ 100) (hs : ∀ s ∈ kk, s ∈ want) : K fns ⟨0,0⟩ f4_l2 ⟨[(10, .c (.osl 1 (rows want))), (12, vsl kk), (13, vint 0)], [cP p]⟩ k = k (.exit 2) ⟨[], [cP p]⟩ := by
  have := scan_on (n := kk.length) (X := fun i => K fns ⟨0,0⟩ f4_l2 ⟨[(10, .c (.osl 1 (rows want))), (12, vsl kk), (13, vint i)], [cP p]⟩ k)
    (fun i hi => by
      have hw1 := wrap_succ (i := i) (by omega)
      have L := fun k => h4_1 k p want kk i hi hw
      have ha : (want.any fun w => decide (w = kk[i])) = true := List.any_eq_true.mpr ⟨kk[i], hs _ (List.getElem_mem hi), by simp⟩
      rw [ha] at L
      show K fns _ f4_l2 _ k = _
      rw [u4_l2]
      simp [f4_b2, ↓K_seq, ↓K_cond, ↓K_block, ↓K_region, ↓K_skip, ↓K_exit, ↓K_ret, ↓K_wrap, ↓KA_nil, ↓KA_none, ↓KA_some, beq_int, bne_int, dec_eqN, dec_ltN, dec_leN, stepOp, St.rd, St.raw, St.set, St.took, get_cons, V.down, C.down, Env.keep, binV, unV, arith, isShift, strs, intOf, optInt, wrapEnd, keptAt, andK, endOf, frzV, frz1, frzC, frzCs, frz1s, resOf, resOne, resAll, V.closed, V.closed1, C.closed, B.closed, Ob.closed, V.cells, partsIn, rep, chunk, datas, C.data, rowsOf, getCells, put_nil, put_zero, put_succ, mayWrite, C.plain, eqV_bool, eqV_agg, eqV_pnn, eqV_pnp, eqV_ppn, eqV_mnn, eqV_mmn, eqV_snn, eqV_sen, eqV_san, eqV_sdn, rs_len, rs_getE, rs_app, rs_take, rs_drop, rs_all, rs_each, row_len, ↓str_eq, str_nilP, str_nilE, str_nilB, vagg, row_Int, row_Bool, row_Str, k_Int, k_Bool, k_Str, snoc_Int, snoc_Bool, snoc_Str, row_Type, k_Type, snoc_Type, eta_Type, sames_Type, row_Field, k_Field, snoc_Field, eta_Field, sames_Field, row_Instr, k_Instr, snoc_Instr, eta_Instr, sames_Instr, row_Catch, k_Catch, snoc_Catch, eta_Catch, sames_Catch, row_Method, k_Method, snoc_Method, row_Class, k_Class, snoc_Class, row_Program, k_Program, snoc_Program, row_Slot, k_Slot, snoc_Slot, eta_Slot, sames_Slot, row_State, k_State, snoc_State, row_Val, k_Val, snoc_Val, eta_Val, sames_Val, row_Obj, k_Obj, snoc_Obj, row_Input, k_Input, snoc_Input, row_Frame, k_Frame, snoc_Frame, row_Run, k_Run, snoc_Run, row_Way, k_Way, snoc_Way, eta_Way, sames_Way, row_Task, k_Task, snoc_Task, eta_Task, sames_Task, hi, hw1, L])
  have h2 : K fns ⟨0,0⟩ f4_l2 ⟨[(10, .c (.osl 1 (rows want))), (12, vsl kk), (13, vint (kk.length : Nat))], [cP p]⟩ k = k (.exit 2) ⟨[], [cP p]⟩ := by
    rw [u4_l2]; simp [f4_b2, ↓K_seq, ↓K_cond, ↓K_block, ↓K_region, ↓K_skip, ↓K_exit, ↓K_ret, ↓K_wrap, ↓KA_nil, ↓KA_none, ↓KA_some, beq_int, bne_int, dec_eqN, dec_ltN, dec_leN, stepOp, St.rd, St.raw, St.set, St.took, get_cons, V.down, C.down, Env.keep, binV, unV, arith, isShift, strs, intOf, optInt, wrapEnd, keptAt, andK, endOf, frzV, frz1, frzC, frzCs, frz1s, resOf, resOne, resAll, V.closed, V.closed1, C.closed, B.closed, Ob.closed, V.cells, partsIn, rep, chunk, datas, C.data, rowsOf, getCells, put_nil, put_zero, put_succ, mayWrite, C.plain, eqV_bool, eqV_agg, eqV_pnn, eqV_pnp, eqV_ppn, eqV_mnn, eqV_mmn, eqV_snn, eqV_sen, eqV_san, eqV_sdn, rs_len, rs_getE, rs_app, rs_take, rs_drop, rs_all, rs_each, row_len, ↓str_eq, str_nilP, str_nilE, str_nilB, vagg, row_Int, row_Bool, row_Str, k_Int, k_Bool, k_Str, snoc_Int, snoc_Bool, snoc_Str, row_Type, k_Type, snoc_Type, eta_Type, sames_Type, row_Field, k_Field, snoc_Field, eta_Field, sames_Field, row_Instr, k_Instr, snoc_Instr, eta_Instr, sames_Instr, row_Catch, k_Catch, snoc_Catch, eta_Catch, sames_Catch, row_Method, k_Method, snoc_Method, row_Class, k_Class, snoc_Class, row_Program, k_Program, snoc_Program, row_Slot, k_Slot, snoc_Slot, eta_Slot, sames_Slot, row_State, k_State, snoc_State, row_Val, k_Val, snoc_Val, eta_Val, sames_Val, row_Obj, k_Obj, snoc_Obj, row_Input, k_Input, snoc_Input, row_Frame, k_Frame, snoc_Frame, row_Run, k_Run, snoc_Run, row_Way, k_Way, snoc_Way, eta_Way, sames_Way, row_Task, k_Task, snoc_Task, eta_Task, sames_Task]
  exact this.trans h2

set_option maxRecDepth 100000 in
set_option maxHeartbeats 8000000 in
theorem fn_kindsLaw (p : GProgram) (a b : Int) (σ : List Ob) (lo tr : Nat) : Fn fns 4 [vProgram p, vint a, vint b] σ lo tr = some (vbool true, σ) := by
  refine fn_gen t4 rfl (σ1 := []) rfl rfl ?_ σ lo tr
  cases hv : heavy p
  case true => simp [KF, params, f4, ↓K_seq, ↓K_cond, ↓K_block, ↓K_region, ↓K_skip, ↓K_exit, ↓K_ret, ↓K_wrap, ↓KA_nil, ↓KA_none, ↓KA_some, beq_int, bne_int, dec_eqN, dec_ltN, dec_leN, stepOp, St.rd, St.raw, St.set, St.took, get_cons, V.down, C.down, Env.keep, binV, unV, arith, isShift, strs, intOf, optInt, wrapEnd, keptAt, andK, endOf, frzV, frz1, frzC, frzCs, frz1s, resOf, resOne, resAll, V.closed, V.closed1, C.closed, B.closed, Ob.closed, V.cells, partsIn, rep, chunk, datas, C.data, rowsOf, getCells, put_nil, put_zero, put_succ, mayWrite, C.plain, eqV_bool, eqV_agg, eqV_pnn, eqV_pnp, eqV_ppn, eqV_mnn, eqV_mmn, eqV_snn, eqV_sen, eqV_san, eqV_sdn, rs_len, rs_getE, rs_app, rs_take, rs_drop, rs_all, rs_each, row_len, ↓str_eq, str_nilP, str_nilE, str_nilB, vagg, row_Int, row_Bool, row_Str, k_Int, k_Bool, k_Str, snoc_Int, snoc_Bool, snoc_Str, row_Type, k_Type, snoc_Type, eta_Type, sames_Type, row_Field, k_Field, snoc_Field, eta_Field, sames_Field, row_Instr, k_Instr, snoc_Instr, eta_Instr, sames_Instr, row_Catch, k_Catch, snoc_Catch, eta_Catch, sames_Catch, row_Method, k_Method, snoc_Method, row_Class, k_Class, snoc_Class, row_Program, k_Program, snoc_Program, row_Slot, k_Slot, snoc_Slot, eta_Slot, sames_Slot, row_State, k_State, snoc_State, row_Val, k_Val, snoc_Val, eta_Val, sames_Val, row_Obj, k_Obj, snoc_Obj, row_Input, k_Input, snoc_Input, row_Frame, k_Frame, snoc_Frame, row_Run, k_Run, snoc_Run, row_Way, k_Way, snoc_Way, eta_Way, sames_Way, row_Task, k_Task, snoc_Task, eta_Task, sames_Task, fn_heavy, hv]
  have hp := okP hv
  have hh := fn_hier p hp
  by_cases hE : hierE p = 0
  case neg => simp [KF, params, f4, ↓K_seq, ↓K_cond, ↓K_block, ↓K_region, ↓K_skip, ↓K_exit, ↓K_ret, ↓K_wrap, ↓KA_nil, ↓KA_none, ↓KA_some, beq_int, bne_int, dec_eqN, dec_ltN, dec_leN, stepOp, St.rd, St.raw, St.set, St.took, get_cons, V.down, C.down, Env.keep, binV, unV, arith, isShift, strs, intOf, optInt, wrapEnd, keptAt, andK, endOf, frzV, frz1, frzC, frzCs, frz1s, resOf, resOne, resAll, V.closed, V.closed1, C.closed, B.closed, Ob.closed, V.cells, partsIn, rep, chunk, datas, C.data, rowsOf, getCells, put_nil, put_zero, put_succ, mayWrite, C.plain, eqV_bool, eqV_agg, eqV_pnn, eqV_pnp, eqV_ppn, eqV_mnn, eqV_mmn, eqV_snn, eqV_sen, eqV_san, eqV_sdn, rs_len, rs_getE, rs_app, rs_take, rs_drop, rs_all, rs_each, row_len, ↓str_eq, str_nilP, str_nilE, str_nilB, vagg, row_Int, row_Bool, row_Str, k_Int, k_Bool, k_Str, snoc_Int, snoc_Bool, snoc_Str, row_Type, k_Type, snoc_Type, eta_Type, sames_Type, row_Field, k_Field, snoc_Field, eta_Field, sames_Field, row_Instr, k_Instr, snoc_Instr, eta_Instr, sames_Instr, row_Catch, k_Catch, snoc_Catch, eta_Catch, sames_Catch, row_Method, k_Method, snoc_Method, row_Class, k_Class, snoc_Class, row_Program, k_Program, snoc_Program, row_Slot, k_Slot, snoc_Slot, eta_Slot, sames_Slot, row_State, k_State, snoc_State, row_Val, k_Val, snoc_Val, eta_Val, sames_Val, row_Obj, k_Obj, snoc_Obj, row_Input, k_Input, snoc_Input, row_Frame, k_Frame, snoc_Frame, row_Run, k_Run, snoc_Run, row_Way, k_Way, snoc_Way, eta_Way, sames_Way, row_Task, k_Task, snoc_Task, eta_Task, sames_Task, fn_heavy, hv, hh, hE]
  have hP : hierP p = 0 := by rw [hier_eq hp]; exact hE
  rw [hE] at hh
  have hn := fn_names p hp
  have hL := all_len hp
  have hnl : (namesL p).length = (allL p).length := by simp [namesL]
  have h0 : 0 < (namesL p).length := by rw [hnl]; simp [allL, baseL]
  have hin : ∀ i (h : i < (namesL p).length), (namesL p)[i] ∈ namesOf (allL p) := fun i h => List.getElem_mem h
  obtain ⟨w1, kx, kx1, kx2⟩ := pick_ix a h0 (by omega)
  have hx := hin kx kx1
  have hne : ¬ ((namesL p).length : Int) = 0 := by omega
  have hne' : ¬ (namesL p).length = 0 := by omega
  have hne2 : ¬ namesL p = [] := fun h => by rw [h] at h0; simp at h0
  have hu := fn_under p hp
  obtain ⟨_, ky, ky1, ky2⟩ := pick_ix b h0 (by omega)
  have hk := fn_kinds p hp
  generalize namesL p = nl at *
  obtain ⟨x, gx⟩ : ∃ x, nl[kx] = x := ⟨_, rfl⟩
  obtain ⟨y, gy⟩ : ∃ y, nl[ky] = y := ⟨_, rfl⟩
  have L0 := fun k => h4_0 k p hp x y
  have e1 := kinds_want hp hP x
  have e2 := kinds_want hp hP y
  have hkx := hk x
  have hky := hk y
  rw [e1] at hkx
  rw [e2] at hky
  have z1 := want_len hp x
  have z2 := want_len hp y
  have hst := fn_strings (wantL p x) (wantL p x) (by omega)
  simp only [decide_true] at hst
  have hsub := fun h => want_sub hp hP (x := x) (y := y) h
  clear hin hx hL hP hnl e1 e2 hk
  cases c1 : underP p y x
  · simp (maxSteps := 2000000) [KF, params, f4, ↓K_seq, ↓K_cond, ↓K_block, ↓K_region, ↓K_skip, ↓K_exit, ↓K_ret, ↓K_wrap, ↓KA_nil, ↓KA_none, ↓KA_some, beq_int, bne_int, dec_eqN, dec_ltN, dec_leN, stepOp, St.rd, St.raw, St.set, St.took, get_cons, V.down, C.down, Env.keep, binV, unV, arith, isShift, strs, intOf, optInt, wrapEnd, keptAt, andK, endOf, frzV, frz1, frzC, frzCs, frz1s, resOf, resOne, resAll, V.closed, V.closed1, C.closed, B.closed, Ob.closed, V.cells, partsIn, rep, chunk, datas, C.data, rowsOf, getCells, put_nil, put_zero, put_succ, mayWrite, C.plain, eqV_bool, eqV_agg, eqV_pnn, eqV_pnp, eqV_ppn, eqV_mnn, eqV_mmn, eqV_snn, eqV_sen, eqV_san, eqV_sdn, rs_len, rs_getE, rs_app, rs_take, rs_drop, rs_all, rs_each, row_len, ↓str_eq, str_nilP, str_nilE, str_nilB, vagg, row_Int, row_Bool, row_Str, k_Int, k_Bool, k_Str, snoc_Int, snoc_Bool, snoc_Str, row_Type, k_Type, snoc_Type, eta_Type, sames_Type, row_Field, k_Field, snoc_Field, eta_Field, sames_Field, row_Instr, k_Instr, snoc_Instr, eta_Instr, sames_Instr, row_Catch, k_Catch, snoc_Catch, eta_Catch, sames_Catch, row_Method, k_Method, snoc_Method, row_Class, k_Class, snoc_Class, row_Program, k_Program, snoc_Program, row_Slot, k_Slot, snoc_Slot, eta_Slot, sames_Slot, row_State, k_State, snoc_State, row_Val, k_Val, snoc_Val, eta_Val, sames_Val, row_Obj, k_Obj, snoc_Obj, row_Input, k_Input, snoc_Input, row_Frame, k_Frame, snoc_Frame, row_Run, k_Run, snoc_Run, row_Way, k_Way, snoc_Way, eta_Way, sames_Way, row_Task, k_Task, snoc_Task, eta_Task, sames_Task, fn_heavy, hv, hh, hn, hne, hne', hne2, w1, kx1, ky1, kx2, ky2, gx, gy, hu, L0, hkx, hst, c1, fn_wakes]
  · have L2 := fun k => h4_2 k p (wantL p x) (wantL p y) (by omega) (by omega) (hsub c1)
    simp (maxSteps := 2000000) [KF, params, f4, ↓K_seq, ↓K_cond, ↓K_block, ↓K_region, ↓K_skip, ↓K_exit, ↓K_ret, ↓K_wrap, ↓KA_nil, ↓KA_none, ↓KA_some, beq_int, bne_int, dec_eqN, dec_ltN, dec_leN, stepOp, St.rd, St.raw, St.set, St.took, get_cons, V.down, C.down, Env.keep, binV, unV, arith, isShift, strs, intOf, optInt, wrapEnd, keptAt, andK, endOf, frzV, frz1, frzC, frzCs, frz1s, resOf, resOne, resAll, V.closed, V.closed1, C.closed, B.closed, Ob.closed, V.cells, partsIn, rep, chunk, datas, C.data, rowsOf, getCells, put_nil, put_zero, put_succ, mayWrite, C.plain, eqV_bool, eqV_agg, eqV_pnn, eqV_pnp, eqV_ppn, eqV_mnn, eqV_mmn, eqV_snn, eqV_sen, eqV_san, eqV_sdn, rs_len, rs_getE, rs_app, rs_take, rs_drop, rs_all, rs_each, row_len, ↓str_eq, str_nilP, str_nilE, str_nilB, vagg, row_Int, row_Bool, row_Str, k_Int, k_Bool, k_Str, snoc_Int, snoc_Bool, snoc_Str, row_Type, k_Type, snoc_Type, eta_Type, sames_Type, row_Field, k_Field, snoc_Field, eta_Field, sames_Field, row_Instr, k_Instr, snoc_Instr, eta_Instr, sames_Instr, row_Catch, k_Catch, snoc_Catch, eta_Catch, sames_Catch, row_Method, k_Method, snoc_Method, row_Class, k_Class, snoc_Class, row_Program, k_Program, snoc_Program, row_Slot, k_Slot, snoc_Slot, eta_Slot, sames_Slot, row_State, k_State, snoc_State, row_Val, k_Val, snoc_Val, eta_Val, sames_Val, row_Obj, k_Obj, snoc_Obj, row_Input, k_Input, snoc_Input, row_Frame, k_Frame, snoc_Frame, row_Run, k_Run, snoc_Run, row_Way, k_Way, snoc_Way, eta_Way, sames_Way, row_Task, k_Task, snoc_Task, eta_Task, sames_Task, fn_heavy, hv, hh, hn, hne, hne', hne2, w1, kx1, ky1, kx2, ky2, gx, gy, hu, L0, hkx, hky, hst, c1, L2, fn_wakes]

theorem sup_cases {p : GProgram} (hp : OkP p) (h : hierP p = 0) {a : ByteArray} (ha : a ∈ namesOf (allL p)) : ∃ c, findC (allL p) a = some c ∧ c ∈ allL p ∧ c.name = a ∧ supP p a = superL c := by
  obtain ⟨c, h1, h2, h3⟩ := find_name ha
  exact ⟨c, h1, h2, h3, by simp [supP, h, h1]⟩
theorem sup_next {p : GProgram} (hp : OkP p) (h : hierP p = 0) {a : ByteArray} (ha : a ∈ namesOf (allL p)) (hs : supP p a ≠ ⟨#[]⟩) : supP p a ∈ nx (allL p) a := by
  obtain ⟨c, h1, h2, h3, h4⟩ := sup_cases hp h ha
  rw [h4] at hs ⊢
  simp [nx, h1, nextP, hs]
/-- A super is no interface. -/
theorem sup_plain {p : GProgram} (hp : OkP p) (h : hierP p = 0) {a : ByteArray} (ha : a ∈ namesOf (allL p)) (hs : supP p a ≠ ⟨#[]⟩) : ∃ d, findC (allL p) (supP p a) = some d ∧ d.iface = false := by
  obtain ⟨c, h1, h2, h3, h4⟩ := sup_cases hp h ha
  have hlo : (allL p).any (lostB (allL p)) = false := by
    have hh := h
    unfold hierP at hh
    cases hb : progB p
    · rw [hb] at hh; cases hh
    rw [hb] at hh
    simp only [cond_true] at hh
    by_cases ht : (mapL (allL p)).length < (allL p).length
    · simp [ht] at hh
    simp only [ht, decide_false, cond_false] at hh
    cases hl : (allL p).any (lostB (allL p))
    · rfl
    · rw [hl] at hh; cases hh
  have hl : lostB (allL p) c = false := by simpa using List.any_eq_false.mp hlo c h2
  rw [lostB_eq] at hl
  rw [h4] at hs ⊢
  simp only [Bool.or_eq_false_iff, Bool.and_eq_false_iff, Bool.not_eq_false', decide_eq_true_eq] at hl
  rcases hl.1 with b | b
  · exact absurd b hs
  · unfold noSup at b
    cases hf : (allL p).find? (fun x : GClass => decide (x.name = superL c)) with
    | none => rw [hf] at b; cases b
    | some d => rw [hf] at b; exact ⟨d, hf, b⟩

/-- Names that were passed, going up. -/
structure Went (p : GProgram) (x w : ByteArray) (vis : List ByteArray) : Prop where
  nd : (w :: vis).Nodup
  sub : ∀ v ∈ w :: vis, v ∈ namesOf (allL p)
  up : Rch (allL p) x w
  way : ∀ v ∈ vis, ∃ y ∈ nx (allL p) v, Rch (allL p) y w
  plain : w = x ∨ ∃ d, findC (allL p) w = some d ∧ d.iface = false
theorem Went.next {p : GProgram} (hp : OkP p) (h : hierP p = 0) {x w : ByteArray} {vis : List ByteArray} (g : Went p x w vis) (hs : supP p w ≠ ⟨#[]⟩) : Went p x (supP p w) (w :: vis) := by
  have hw := g.sub w List.mem_cons_self
  have hn := sup_next hp h hw hs
  have sane := sane_of hp h
  have hin : supP p w ∈ namesOf (allL p) := sane.whole w hw _ hn
  refine ⟨List.nodup_cons.mpr ⟨fun hm => ?_, g.nd⟩, fun v hv => ?_, g.up.step hn, fun v hv => ?_, Or.inr (sup_plain hp h hw hs)⟩
  · rcases List.mem_cons.mp hm with e | e
    · exact sane.noring w hw ⟨supP p w, hn, by rw [e]; exact .refl⟩
    · obtain ⟨y, hy, hr⟩ := g.way _ e
      exact sane.noring _ hin ⟨y, hy, hr.step hn⟩
  · rcases List.mem_cons.mp hv with rfl | e
    · exact hin
    · exact g.sub v e
  · rcases List.mem_cons.mp hv with rfl | e
    · exact ⟨supP p v, hn, .refl⟩
    · obtain ⟨y, hy, hr⟩ := g.way v e
      exact ⟨y, hy, hr.step hn⟩

theorem h7_0 (k : AExit → St → Option (V × List Ob)) (p : GProgram) (hp : OkP p) (hP : hierP p = 0) (x : ByteArray) (c0 : GClass) (hx : findC (allL p) x = some c0) (hxn : x ∈ namesOf (allL p)) (nl : List ByteArray) (hnl : nl.length = (allL p).length) : ∀ (n i : Nat) (w : ByteArray) (vis : List ByteArray), i + n = nl.length → vis.length = i → Went p x w vis →
    K fns ⟨0,0⟩ f7_l0 ⟨[(2, vptr 0), (5, vsl nl), (6, vstr x), (7, vptr 1), (9, vstr w), (10, vint i)], [cP p, cC c0]⟩ k = k .ret ⟨[(4, vbool true)], [cP p, cC c0]⟩ := by
  have hL := all_len hp
  have hlen : (namesOf (allL p)).length = (allL p).length := by simp [namesOf]
  intro n
  induction n with
  | zero =>
    intro i w vis hi hv g
    have := nodup_sub g.nd g.sub
    rw [List.length_cons] at this
    omega
  | succ n ih =>
    intro i w vis hi hv g
    have hlt : i < nl.length := by omega
    have hw1 := wrap_succ (i := i) (by omega)
    have hu := fn_under p hp x w
    have hux : underP p x w = true := (under_iff hp hP hxn w).mpr (Or.inr g.up)
    rw [hux] at hu
    have hs := fn_super_ p hp w
    rw [u7_l0]
    by_cases e : supP p w = ⟨#[]⟩
    · simp only [e, decide_true, Bool.not_true] at hs
      have hwn := g.sub w List.mem_cons_self
      obtain ⟨c, f1, f2, f3, f4⟩ := sup_cases hp hP hwn
      rw [e] at f4
      by_cases ho : w = sObject
      · subst ho
        simp [f7_b0, ↓K_seq, ↓K_cond, ↓K_block, ↓K_region, ↓K_skip, ↓K_exit, ↓K_ret, ↓K_wrap, ↓KA_nil, ↓KA_none, ↓KA_some, beq_int, bne_int, dec_eqN, dec_ltN, dec_leN, stepOp, St.rd, St.raw, St.set, St.took, get_cons, V.down, C.down, Env.keep, binV, unV, arith, isShift, strs, intOf, optInt, wrapEnd, keptAt, andK, endOf, frzV, frz1, frzC, frzCs, frz1s, resOf, resOne, resAll, V.closed, V.closed1, C.closed, B.closed, Ob.closed, V.cells, partsIn, rep, chunk, datas, C.data, rowsOf, getCells, put_nil, put_zero, put_succ, mayWrite, C.plain, eqV_bool, eqV_agg, eqV_pnn, eqV_pnp, eqV_ppn, eqV_mnn, eqV_mmn, eqV_snn, eqV_sen, eqV_san, eqV_sdn, rs_len, rs_getE, rs_app, rs_take, rs_drop, rs_all, rs_each, row_len, ↓str_eq, str_nilP, str_nilE, str_nilB, vagg, row_Int, row_Bool, row_Str, k_Int, k_Bool, k_Str, snoc_Int, snoc_Bool, snoc_Str, row_Type, k_Type, snoc_Type, eta_Type, sames_Type, row_Field, k_Field, snoc_Field, eta_Field, sames_Field, row_Instr, k_Instr, snoc_Instr, eta_Instr, sames_Instr, row_Catch, k_Catch, snoc_Catch, eta_Catch, sames_Catch, row_Method, k_Method, snoc_Method, row_Class, k_Class, snoc_Class, row_Program, k_Program, snoc_Program, row_Slot, k_Slot, snoc_Slot, eta_Slot, sames_Slot, row_State, k_State, snoc_State, row_Val, k_Val, snoc_Val, eta_Val, sames_Val, row_Obj, k_Obj, snoc_Obj, row_Input, k_Input, snoc_Input, row_Frame, k_Frame, snoc_Frame, row_Run, k_Run, snoc_Run, row_Way, k_Way, snoc_Way, eta_Way, sames_Way, row_Task, k_Task, snoc_Task, eta_Task, sames_Task, hlt, hw1, hu, hs, fn_wakes]
      · have hi : c.iface = true := by
          cases hc : c.iface
          · exfalso
            unfold superL at f4
            have n1 : ¬ (sObject = ⟨#[]⟩) := by decide
            by_cases hz : c.super = ⟨#[]⟩
            · simp [hc, f3, ho, hz, n1] at f4
            · simp [hc, f3, ho, hz] at f4
              exact hz f4.symm
          · rfl
        have hwx : w = x := by
          rcases g.plain with a | ⟨d, d1, d2⟩
          · exact a
          · rw [f1] at d1; cases d1; rw [hi] at d2; cases d2
        subst hwx
        rw [hx] at f1
        cases f1
        simp [f7_b0, ↓K_seq, ↓K_cond, ↓K_block, ↓K_region, ↓K_skip, ↓K_exit, ↓K_ret, ↓K_wrap, ↓KA_nil, ↓KA_none, ↓KA_some, beq_int, bne_int, dec_eqN, dec_ltN, dec_leN, stepOp, St.rd, St.raw, St.set, St.took, get_cons, V.down, C.down, Env.keep, binV, unV, arith, isShift, strs, intOf, optInt, wrapEnd, keptAt, andK, endOf, frzV, frz1, frzC, frzCs, frz1s, resOf, resOne, resAll, V.closed, V.closed1, C.closed, B.closed, Ob.closed, V.cells, partsIn, rep, chunk, datas, C.data, rowsOf, getCells, put_nil, put_zero, put_succ, mayWrite, C.plain, eqV_bool, eqV_agg, eqV_pnn, eqV_pnp, eqV_ppn, eqV_mnn, eqV_mmn, eqV_snn, eqV_sen, eqV_san, eqV_sdn, rs_len, rs_getE, rs_app, rs_take, rs_drop, rs_all, rs_each, row_len, ↓str_eq, str_nilP, str_nilE, str_nilB, vagg, row_Int, row_Bool, row_Str, k_Int, k_Bool, k_Str, snoc_Int, snoc_Bool, snoc_Str, row_Type, k_Type, snoc_Type, eta_Type, sames_Type, row_Field, k_Field, snoc_Field, eta_Field, sames_Field, row_Instr, k_Instr, snoc_Instr, eta_Instr, sames_Instr, row_Catch, k_Catch, snoc_Catch, eta_Catch, sames_Catch, row_Method, k_Method, snoc_Method, row_Class, k_Class, snoc_Class, row_Program, k_Program, snoc_Program, row_Slot, k_Slot, snoc_Slot, eta_Slot, sames_Slot, row_State, k_State, snoc_State, row_Val, k_Val, snoc_Val, eta_Val, sames_Val, row_Obj, k_Obj, snoc_Obj, row_Input, k_Input, snoc_Input, row_Frame, k_Frame, snoc_Frame, row_Run, k_Run, snoc_Run, row_Way, k_Way, snoc_Way, eta_Way, sames_Way, row_Task, k_Task, snoc_Task, eta_Task, sames_Task, hlt, hw1, hu, hs, ho, hi, fn_wakes]
    · simp only [e, decide_false, Bool.not_false] at hs
      have h2 := ih (i + 1) (supP p w) (w :: vis) (by omega) (by simp [hv]) (g.next hp hP e)
      rw [← h2]
      simp [f7_b0, ↓K_seq, ↓K_cond, ↓K_block, ↓K_region, ↓K_skip, ↓K_exit, ↓K_ret, ↓K_wrap, ↓KA_nil, ↓KA_none, ↓KA_some, beq_int, bne_int, dec_eqN, dec_ltN, dec_leN, stepOp, St.rd, St.raw, St.set, St.took, get_cons, V.down, C.down, Env.keep, binV, unV, arith, isShift, strs, intOf, optInt, wrapEnd, keptAt, andK, endOf, frzV, frz1, frzC, frzCs, frz1s, resOf, resOne, resAll, V.closed, V.closed1, C.closed, B.closed, Ob.closed, V.cells, partsIn, rep, chunk, datas, C.data, rowsOf, getCells, put_nil, put_zero, put_succ, mayWrite, C.plain, eqV_bool, eqV_agg, eqV_pnn, eqV_pnp, eqV_ppn, eqV_mnn, eqV_mmn, eqV_snn, eqV_sen, eqV_san, eqV_sdn, rs_len, rs_getE, rs_app, rs_take, rs_drop, rs_all, rs_each, row_len, ↓str_eq, str_nilP, str_nilE, str_nilB, vagg, row_Int, row_Bool, row_Str, k_Int, k_Bool, k_Str, snoc_Int, snoc_Bool, snoc_Str, row_Type, k_Type, snoc_Type, eta_Type, sames_Type, row_Field, k_Field, snoc_Field, eta_Field, sames_Field, row_Instr, k_Instr, snoc_Instr, eta_Instr, sames_Instr, row_Catch, k_Catch, snoc_Catch, eta_Catch, sames_Catch, row_Method, k_Method, snoc_Method, row_Class, k_Class, snoc_Class, row_Program, k_Program, snoc_Program, row_Slot, k_Slot, snoc_Slot, eta_Slot, sames_Slot, row_State, k_State, snoc_State, row_Val, k_Val, snoc_Val, eta_Val, sames_Val, row_Obj, k_Obj, snoc_Obj, row_Input, k_Input, snoc_Input, row_Frame, k_Frame, snoc_Frame, row_Run, k_Run, snoc_Run, row_Way, k_Way, snoc_Way, eta_Way, sames_Way, row_Task, k_Task, snoc_Task, eta_Task, sames_Task, hlt, hw1, hu, hs]

set_option maxRecDepth 100000 in
set_option maxHeartbeats 8000000 in
theorem fn_supersLaw (p : GProgram) (a : Int) (σ : List Ob) (lo tr : Nat) : Fn fns 7 [vProgram p, vint a] σ lo tr = some (vbool true, σ) := by
  refine fn_gen t7 rfl (σ1 := []) rfl rfl ?_ σ lo tr
  cases hv : heavy p
  case true => simp [KF, params, f7, ↓K_seq, ↓K_cond, ↓K_block, ↓K_region, ↓K_skip, ↓K_exit, ↓K_ret, ↓K_wrap, ↓KA_nil, ↓KA_none, ↓KA_some, beq_int, bne_int, dec_eqN, dec_ltN, dec_leN, stepOp, St.rd, St.raw, St.set, St.took, get_cons, V.down, C.down, Env.keep, binV, unV, arith, isShift, strs, intOf, optInt, wrapEnd, keptAt, andK, endOf, frzV, frz1, frzC, frzCs, frz1s, resOf, resOne, resAll, V.closed, V.closed1, C.closed, B.closed, Ob.closed, V.cells, partsIn, rep, chunk, datas, C.data, rowsOf, getCells, put_nil, put_zero, put_succ, mayWrite, C.plain, eqV_bool, eqV_agg, eqV_pnn, eqV_pnp, eqV_ppn, eqV_mnn, eqV_mmn, eqV_snn, eqV_sen, eqV_san, eqV_sdn, rs_len, rs_getE, rs_app, rs_take, rs_drop, rs_all, rs_each, row_len, ↓str_eq, str_nilP, str_nilE, str_nilB, vagg, row_Int, row_Bool, row_Str, k_Int, k_Bool, k_Str, snoc_Int, snoc_Bool, snoc_Str, row_Type, k_Type, snoc_Type, eta_Type, sames_Type, row_Field, k_Field, snoc_Field, eta_Field, sames_Field, row_Instr, k_Instr, snoc_Instr, eta_Instr, sames_Instr, row_Catch, k_Catch, snoc_Catch, eta_Catch, sames_Catch, row_Method, k_Method, snoc_Method, row_Class, k_Class, snoc_Class, row_Program, k_Program, snoc_Program, row_Slot, k_Slot, snoc_Slot, eta_Slot, sames_Slot, row_State, k_State, snoc_State, row_Val, k_Val, snoc_Val, eta_Val, sames_Val, row_Obj, k_Obj, snoc_Obj, row_Input, k_Input, snoc_Input, row_Frame, k_Frame, snoc_Frame, row_Run, k_Run, snoc_Run, row_Way, k_Way, snoc_Way, eta_Way, sames_Way, row_Task, k_Task, snoc_Task, eta_Task, sames_Task, fn_heavy, hv]
  have hp := okP hv
  have hh := fn_hier p hp
  by_cases hE : hierE p = 0
  case neg => simp [KF, params, f7, ↓K_seq, ↓K_cond, ↓K_block, ↓K_region, ↓K_skip, ↓K_exit, ↓K_ret, ↓K_wrap, ↓KA_nil, ↓KA_none, ↓KA_some, beq_int, bne_int, dec_eqN, dec_ltN, dec_leN, stepOp, St.rd, St.raw, St.set, St.took, get_cons, V.down, C.down, Env.keep, binV, unV, arith, isShift, strs, intOf, optInt, wrapEnd, keptAt, andK, endOf, frzV, frz1, frzC, frzCs, frz1s, resOf, resOne, resAll, V.closed, V.closed1, C.closed, B.closed, Ob.closed, V.cells, partsIn, rep, chunk, datas, C.data, rowsOf, getCells, put_nil, put_zero, put_succ, mayWrite, C.plain, eqV_bool, eqV_agg, eqV_pnn, eqV_pnp, eqV_ppn, eqV_mnn, eqV_mmn, eqV_snn, eqV_sen, eqV_san, eqV_sdn, rs_len, rs_getE, rs_app, rs_take, rs_drop, rs_all, rs_each, row_len, ↓str_eq, str_nilP, str_nilE, str_nilB, vagg, row_Int, row_Bool, row_Str, k_Int, k_Bool, k_Str, snoc_Int, snoc_Bool, snoc_Str, row_Type, k_Type, snoc_Type, eta_Type, sames_Type, row_Field, k_Field, snoc_Field, eta_Field, sames_Field, row_Instr, k_Instr, snoc_Instr, eta_Instr, sames_Instr, row_Catch, k_Catch, snoc_Catch, eta_Catch, sames_Catch, row_Method, k_Method, snoc_Method, row_Class, k_Class, snoc_Class, row_Program, k_Program, snoc_Program, row_Slot, k_Slot, snoc_Slot, eta_Slot, sames_Slot, row_State, k_State, snoc_State, row_Val, k_Val, snoc_Val, eta_Val, sames_Val, row_Obj, k_Obj, snoc_Obj, row_Input, k_Input, snoc_Input, row_Frame, k_Frame, snoc_Frame, row_Run, k_Run, snoc_Run, row_Way, k_Way, snoc_Way, eta_Way, sames_Way, row_Task, k_Task, snoc_Task, eta_Task, sames_Task, fn_heavy, hv, hh, hE]
  have hP : hierP p = 0 := by rw [hier_eq hp]; exact hE
  rw [hE] at hh
  have hn := fn_names p hp
  have hL := all_len hp
  have hnl : (namesL p).length = (allL p).length := by simp [namesL]
  have h0 : 0 < (namesL p).length := by rw [hnl]; simp [allL, baseL]
  have hin : ∀ i (h : i < (namesL p).length), (namesL p)[i] ∈ namesOf (allL p) := fun i h => List.getElem_mem h
  obtain ⟨w1, kx, kx1, kx2⟩ := pick_ix a h0 (by omega)
  have hx := hin kx kx1
  have hne : ¬ ((namesL p).length : Int) = 0 := by omega
  have hne' : ¬ (namesL p).length = 0 := by omega
  have hne2 : ¬ namesL p = [] := fun h => by rw [h] at h0; simp at h0
  have hu := fn_under p hp
  have hf := fn_find p hp
  obtain ⟨c0, f1, f2, f3⟩ := find_name hx
  have hfo : foundP p (namesL p)[kx] = some c0 := by simp [foundP, hP, f1]
  have hfx := hf (namesL p)[kx]
  rw [hfo] at hfx
  have L := fun k => h7_0 k p hp hP (namesL p)[kx] c0 f1 hx (namesL p) hnl (namesL p).length 0 (namesL p)[kx] [] (by omega) rfl ⟨by simp, by simpa using hx, .refl, by simp, Or.inl rfl⟩
  simp only [Int.natCast_zero] at L
  simp only [Option.getD_some, Option.isSome_some] at hfx
  generalize namesL p = nl at *
  generalize hgx : nl[kx] = x at *
  clear hin hL hP hnl hf hfo
  simp (maxSteps := 2000000) [KF, params, f7, ↓K_seq, ↓K_cond, ↓K_block, ↓K_region, ↓K_skip, ↓K_exit, ↓K_ret, ↓K_wrap, ↓KA_nil, ↓KA_none, ↓KA_some, beq_int, bne_int, dec_eqN, dec_ltN, dec_leN, stepOp, St.rd, St.raw, St.set, St.took, get_cons, V.down, C.down, Env.keep, binV, unV, arith, isShift, strs, intOf, optInt, wrapEnd, keptAt, andK, endOf, frzV, frz1, frzC, frzCs, frz1s, resOf, resOne, resAll, V.closed, V.closed1, C.closed, B.closed, Ob.closed, V.cells, partsIn, rep, chunk, datas, C.data, rowsOf, getCells, put_nil, put_zero, put_succ, mayWrite, C.plain, eqV_bool, eqV_agg, eqV_pnn, eqV_pnp, eqV_ppn, eqV_mnn, eqV_mmn, eqV_snn, eqV_sen, eqV_san, eqV_sdn, rs_len, rs_getE, rs_app, rs_take, rs_drop, rs_all, rs_each, row_len, ↓str_eq, str_nilP, str_nilE, str_nilB, vagg, row_Int, row_Bool, row_Str, k_Int, k_Bool, k_Str, snoc_Int, snoc_Bool, snoc_Str, row_Type, k_Type, snoc_Type, eta_Type, sames_Type, row_Field, k_Field, snoc_Field, eta_Field, sames_Field, row_Instr, k_Instr, snoc_Instr, eta_Instr, sames_Instr, row_Catch, k_Catch, snoc_Catch, eta_Catch, sames_Catch, row_Method, k_Method, snoc_Method, row_Class, k_Class, snoc_Class, row_Program, k_Program, snoc_Program, row_Slot, k_Slot, snoc_Slot, eta_Slot, sames_Slot, row_State, k_State, snoc_State, row_Val, k_Val, snoc_Val, eta_Val, sames_Val, row_Obj, k_Obj, snoc_Obj, row_Input, k_Input, snoc_Input, row_Frame, k_Frame, snoc_Frame, row_Run, k_Run, snoc_Run, row_Way, k_Way, snoc_Way, eta_Way, sames_Way, row_Task, k_Task, snoc_Task, eta_Task, sames_Task, fn_heavy, hv, hh, hn, hne, hne', hne2, w1, kx1, kx2, hgx, hfx, L]
end Go.Proofs.YthahhonmkhafkaaGreatDoor.Am
