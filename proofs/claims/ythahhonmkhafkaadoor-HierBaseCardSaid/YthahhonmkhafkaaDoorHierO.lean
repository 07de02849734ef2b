/- What the program tells of a tree. Written by wip/tools/ho.py. -/
import Derived.Test.YthahhonmkhafkaaDoorHierN
namespace Go.Proofs.YthahhonmkhafkaaDoor.Am
set_option linter.unusedSimpArgs false
set_option linter.unusedVariables false
set_option linter.unusedSectionVars false
open Go
--let OF hier.Of
--let TU (*hier.Tree).Under
--let HU hier.Under
--let TK (*hier.Tree).Kinds
--let HK hier.Kinds
--let HC hier.Check
--let TC (*hier.Tree).Class
--let TS (*hier.Tree).Super
--let HS hier.Super
--let HF hier.Find
--let SU (*hier.Tree).super

def upL (l : List GClass) (a : ByteArray) : List ByteArray := dfs l 200 [sObject] a
def underP (p : GProgram) (a b : ByteArray) : Bool := decide (hierP p = 0) && (decide (a ∈ namesOf (allL p)) && decide (b ∈ upL (allL p) a))

section
variable {σ S : List Ob} {p : GProgram}
theorem fn_tUnder (h : TreeOk σ S p) (a b : ByteArray) (lo tr : Nat) : Fn fns 15 [vptr (σ.length + 3), vstr a, vstr b] S lo tr = some (vbool (underP p a b), S) := by
  rw [fn_eq t15 rfl rfl]
  obtain ⟨own, names, l, ht⟩ := h.t
  have hT := get_lt ht.t
  by_cases hE : hierP p = 0
  · obtain ⟨az, h1, h2⟩ := h.ok hE
    have hM := get_lt h2.m
    have t1 := (List.getElem?_eq_some_iff.mp h2.t).2
    have m1 := (List.getElem?_eq_some_iff.mp h2.m).2
    have hk := find_key (fun x : ByteArray × Nat => x.1) (fun x => .c (.b (.map x.2))) a az 0
    cases hq : az.findIdx? (fun x => decide (x.1 = a)) with
    | none =>
      have hn : a ∉ namesOf (allL p) := by
        rw [← h1]
        intro hx
        obtain ⟨x, hx, hxe⟩ := List.mem_map.mp hx
        rw [List.findIdx?_eq_none_iff] at hq
        simpa [hxe] using hq x hx
      rw [hq] at hk
      have k1 : findKey [2] (vstr a) (entM az) 0 = some none := hk
      have k2 : findKey [2] (vstr b) [] 0 = some none := rfl
      simp [KF, params, f15, ↓K_seq, ↓K_cond, ↓K_block, ↓K_region, ↓K_skip, ↓K_exit, ↓K_ret, ↓K_wrap, ↓KA_nil, ↓KA_none, ↓KA_some, beq_int, bne_int, dec_eqN, dec_ltN, dec_leN, stepOp, St.rd, St.raw, St.set, St.took, get_cons, V.down, C.down, Env.keep, binV, unV, arith, isShift, strs, intOf, optInt, wrapEnd, keptAt, andK, endOf, frzV, frz1, frzC, frzCs, frz1s, resOf, resOne, resAll, V.closed, V.closed1, C.closed, B.closed, Ob.closed, V.cells, partsIn, rep, chunk, datas, C.data, rowsOf, getCells, put_nil, put_zero, put_succ, mayWrite, C.plain, eqV_bool, eqV_agg, eqV_pnn, eqV_pnp, eqV_ppn, eqV_mnn, eqV_mmn, eqV_snn, eqV_sen, eqV_san, eqV_sdn, rs_len, rs_getE, rs_app, rs_take, rs_drop, rs_all, rs_each, row_len, ↓str_eq, str_nilP, str_nilE, str_nilB, vagg, row_Int, row_Bool, row_Str, k_Int, k_Bool, k_Str, snoc_Int, snoc_Bool, snoc_Str, row_Type, k_Type, snoc_Type, eta_Type, sames_Type, row_Field, k_Field, snoc_Field, eta_Field, sames_Field, row_Instr, k_Instr, snoc_Instr, eta_Instr, sames_Instr, row_Catch, k_Catch, snoc_Catch, eta_Catch, sames_Catch, row_Method, k_Method, snoc_Method, row_Class, k_Class, snoc_Class, row_Program, k_Program, snoc_Program, row_Slot, k_Slot, snoc_Slot, eta_Slot, sames_Slot, row_State, k_State, snoc_State, row_Val, k_Val, snoc_Val, eta_Val, sames_Val, row_Obj, k_Obj, snoc_Obj, row_Input, k_Input, snoc_Input, row_Frame, k_Frame, snoc_Frame, row_Run, k_Run, snoc_Run, row_Way, k_Way, snoc_Way, eta_Way, sames_Way, row_Task, k_Task, snoc_Task, eta_Task, sames_Task, hT, t1, hM, m1, mapOf, keyShape, k1, k2, got, underP, hE, hn]
    | some j =>
      rw [List.findIdx?_eq_some_iff_getElem] at hq
      obtain ⟨hj, hja, _⟩ := id hq
      have hja : az[j].1 = a := by simpa using hja
      have hin : a ∈ namesOf (allL p) := by rw [← h1, ← hja]; exact List.mem_map_of_mem (List.getElem_mem hj)
      have hq2 : az.findIdx? (fun x => decide (x.1 = a)) = some j := List.findIdx?_eq_some_iff_getElem.mpr hq
      rw [hq2] at hk
      have k1 : findKey [2] (vstr a) (entM az) 0 = some (some (j, .c (.b (.map az[j].2)))) := by simpa [entM, hj] using hk
      obtain ⟨u1, u2⟩ := h2.up az[j] (List.getElem_mem hj)
      rw [hja] at u2
      have u2 : S[az[j].2]? = some (.map (entS (upL (allL p) a))) := u2
      have u3 := get_lt u2
      have u4 := (List.getElem?_eq_some_iff.mp u2).2
      obtain ⟨r, g1, g2, _⟩ := got_S (upL (allL p) a) b
      have hu : underP p a b = decide (b ∈ upL (allL p) a) := by simp [underP, hE, hin]
      rw [hu]
      generalize upL (allL p) a = d at *
      have gq : got (V.c (C.b .nilm)) (some (j, .c (.b (.map az[j].2)))) = .c (.b (.map az[j].2)) := rfl
      generalize az[j].2 = q at *
      simp [KF, params, f15, ↓K_seq, ↓K_cond, ↓K_block, ↓K_region, ↓K_skip, ↓K_exit, ↓K_ret, ↓K_wrap, ↓KA_nil, ↓KA_none, ↓KA_some, beq_int, bne_int, dec_eqN, dec_ltN, dec_leN, stepOp, St.rd, St.raw, St.set, St.took, get_cons, V.down, C.down, Env.keep, binV, unV, arith, isShift, strs, intOf, optInt, wrapEnd, keptAt, andK, endOf, frzV, frz1, frzC, frzCs, frz1s, resOf, resOne, resAll, V.closed, V.closed1, C.closed, B.closed, Ob.closed, V.cells, partsIn, rep, chunk, datas, C.data, rowsOf, getCells, put_nil, put_zero, put_succ, mayWrite, C.plain, eqV_bool, eqV_agg, eqV_pnn, eqV_pnp, eqV_ppn, eqV_mnn, eqV_mmn, eqV_snn, eqV_sen, eqV_san, eqV_sdn, rs_len, rs_getE, rs_app, rs_take, rs_drop, rs_all, rs_each, row_len, ↓str_eq, str_nilP, str_nilE, str_nilB, vagg, row_Int, row_Bool, row_Str, k_Int, k_Bool, k_Str, snoc_Int, snoc_Bool, snoc_Str, row_Type, k_Type, snoc_Type, eta_Type, sames_Type, row_Field, k_Field, snoc_Field, eta_Field, sames_Field, row_Instr, k_Instr, snoc_Instr, eta_Instr, sames_Instr, row_Catch, k_Catch, snoc_Catch, eta_Catch, sames_Catch, row_Method, k_Method, snoc_Method, row_Class, k_Class, snoc_Class, row_Program, k_Program, snoc_Program, row_Slot, k_Slot, snoc_Slot, eta_Slot, sames_Slot, row_State, k_State, snoc_State, row_Val, k_Val, snoc_Val, eta_Val, sames_Val, row_Obj, k_Obj, snoc_Obj, row_Input, k_Input, snoc_Input, row_Frame, k_Frame, snoc_Frame, row_Run, k_Run, snoc_Run, row_Way, k_Way, snoc_Way, eta_Way, sames_Way, row_Task, k_Task, snoc_Task, eta_Task, sames_Task, hT, t1, hM, m1, mapOf, keyShape, k1, gq, hE, hin, u3, u4, g1, g2]
  · have t1 := (List.getElem?_eq_some_iff.mp ht.t).2
    simp [KF, params, f15, ↓K_seq, ↓K_cond, ↓K_block, ↓K_region, ↓K_skip, ↓K_exit, ↓K_ret, ↓K_wrap, ↓KA_nil, ↓KA_none, ↓KA_some, beq_int, bne_int, dec_eqN, dec_ltN, dec_leN, stepOp, St.rd, St.raw, St.set, St.took, get_cons, V.down, C.down, Env.keep, binV, unV, arith, isShift, strs, intOf, optInt, wrapEnd, keptAt, andK, endOf, frzV, frz1, frzC, frzCs, frz1s, resOf, resOne, resAll, V.closed, V.closed1, C.closed, B.closed, Ob.closed, V.cells, partsIn, rep, chunk, datas, C.data, rowsOf, getCells, put_nil, put_zero, put_succ, mayWrite, C.plain, eqV_bool, eqV_agg, eqV_pnn, eqV_pnp, eqV_ppn, eqV_mnn, eqV_mmn, eqV_snn, eqV_sen, eqV_san, eqV_sdn, rs_len, rs_getE, rs_app, rs_take, rs_drop, rs_all, rs_each, row_len, ↓str_eq, str_nilP, str_nilE, str_nilB, vagg, row_Int, row_Bool, row_Str, k_Int, k_Bool, k_Str, snoc_Int, snoc_Bool, snoc_Str, row_Type, k_Type, snoc_Type, eta_Type, sames_Type, row_Field, k_Field, snoc_Field, eta_Field, sames_Field, row_Instr, k_Instr, snoc_Instr, eta_Instr, sames_Instr, row_Catch, k_Catch, snoc_Catch, eta_Catch, sames_Catch, row_Method, k_Method, snoc_Method, row_Class, k_Class, snoc_Class, row_Program, k_Program, snoc_Program, row_Slot, k_Slot, snoc_Slot, eta_Slot, sames_Slot, row_State, k_State, snoc_State, row_Val, k_Val, snoc_Val, eta_Val, sames_Val, row_Obj, k_Obj, snoc_Obj, row_Input, k_Input, snoc_Input, row_Frame, k_Frame, snoc_Frame, row_Run, k_Run, snoc_Run, row_Way, k_Way, snoc_Way, eta_Way, sames_Way, row_Task, k_Task, snoc_Task, eta_Task, sames_Task, hT, t1, underP, hE]
end

theorem one_ok (p : GProgram) : ∀ k, [cP p].all (Ob.closed ([cP p].length + k)) = true := fun k => by simp [Ob.closed, C.closed, B.closed]

theorem fn_under (p : GProgram) (hp : OkP p) (a b : ByteArray) (σ : List Ob) (lo tr : Nat) : Fn fns 8 [vProgram p, vstr a, vstr b] σ lo tr = some (vbool (underP p a b), σ) := by
  obtain ⟨S, s1, s2⟩ := fn_of p hp (σ := [cP p]) (lo := 0) (tr := 0) (by simp) (by simp) (one_ok p)
  have h1 := fn_tUnder s2 a b
  refine fn_gen t8 rfl (σ1 := []) rfl rfl ?_ σ lo tr
  simp only [List.length_singleton, Nat.reduceAdd] at s1 h1
  simp [KF, params, f8, ↓K_seq, ↓K_cond, ↓K_block, ↓K_region, ↓K_skip, ↓K_exit, ↓K_ret, ↓K_wrap, ↓KA_nil, ↓KA_none, ↓KA_some, beq_int, bne_int, dec_eqN, dec_ltN, dec_leN, stepOp, St.rd, St.raw, St.set, St.took, get_cons, V.down, C.down, Env.keep, binV, unV, arith, isShift, strs, intOf, optInt, wrapEnd, keptAt, andK, endOf, frzV, frz1, frzC, frzCs, frz1s, resOf, resOne, resAll, V.closed, V.closed1, C.closed, B.closed, Ob.closed, V.cells, partsIn, rep, chunk, datas, C.data, rowsOf, getCells, put_nil, put_zero, put_succ, mayWrite, C.plain, eqV_bool, eqV_agg, eqV_pnn, eqV_pnp, eqV_ppn, eqV_mnn, eqV_mmn, eqV_snn, eqV_sen, eqV_san, eqV_sdn, rs_len, rs_getE, rs_app, rs_take, rs_drop, rs_all, rs_each, row_len, ↓str_eq, str_nilP, str_nilE, str_nilB, vagg, row_Int, row_Bool, row_Str, k_Int, k_Bool, k_Str, snoc_Int, snoc_Bool, snoc_Str, row_Type, k_Type, snoc_Type, eta_Type, sames_Type, row_Field, k_Field, snoc_Field, eta_Field, sames_Field, row_Instr, k_Instr, snoc_Instr, eta_Instr, sames_Instr, row_Catch, k_Catch, snoc_Catch, eta_Catch, sames_Catch, row_Method, k_Method, snoc_Method, row_Class, k_Class, snoc_Class, row_Program, k_Program, snoc_Program, row_Slot, k_Slot, snoc_Slot, eta_Slot, sames_Slot, row_State, k_State, snoc_State, row_Val, k_Val, snoc_Val, eta_Val, sames_Val, row_Obj, k_Obj, snoc_Obj, row_Input, k_Input, snoc_Input, row_Frame, k_Frame, snoc_Frame, row_Run, k_Run, snoc_Run, row_Way, k_Way, snoc_Way, eta_Way, sames_Way, row_Task, k_Task, snoc_Task, eta_Task, sames_Task, s1, h1]

theorem fn_check (p : GProgram) (hp : OkP p) (σ : List Ob) (lo tr : Nat) : Fn fns 7 [vProgram p] σ lo tr = some (vint (hierP p), σ) := by
  obtain ⟨S, s1, s2⟩ := fn_of p hp (σ := [cP p]) (lo := 0) (tr := 0) (by simp) (by simp) (one_ok p)
  obtain ⟨own, names, l, ht⟩ := s2.t
  have hT := get_lt ht.t
  have t1 := (List.getElem?_eq_some_iff.mp ht.t).2
  refine fn_gen t7 rfl (σ1 := []) rfl rfl ?_ σ lo tr
  simp only [List.length_singleton, Nat.reduceAdd] at s1 hT t1
  simp [KF, params, f7, ↓K_seq, ↓K_cond, ↓K_block, ↓K_region, ↓K_skip, ↓K_exit, ↓K_ret, ↓K_wrap, ↓KA_nil, ↓KA_none, ↓KA_some, beq_int, bne_int, dec_eqN, dec_ltN, dec_leN, stepOp, St.rd, St.raw, St.set, St.took, get_cons, V.down, C.down, Env.keep, binV, unV, arith, isShift, strs, intOf, optInt, wrapEnd, keptAt, andK, endOf, frzV, frz1, frzC, frzCs, frz1s, resOf, resOne, resAll, V.closed, V.closed1, C.closed, B.closed, Ob.closed, V.cells, partsIn, rep, chunk, datas, C.data, rowsOf, getCells, put_nil, put_zero, put_succ, mayWrite, C.plain, eqV_bool, eqV_agg, eqV_pnn, eqV_pnp, eqV_ppn, eqV_mnn, eqV_mmn, eqV_snn, eqV_sen, eqV_san, eqV_sdn, rs_len, rs_getE, rs_app, rs_take, rs_drop, rs_all, rs_each, row_len, ↓str_eq, str_nilP, str_nilE, str_nilB, vagg, row_Int, row_Bool, row_Str, k_Int, k_Bool, k_Str, snoc_Int, snoc_Bool, snoc_Str, row_Type, k_Type, snoc_Type, eta_Type, sames_Type, row_Field, k_Field, snoc_Field, eta_Field, sames_Field, row_Instr, k_Instr, snoc_Instr, eta_Instr, sames_Instr, row_Catch, k_Catch, snoc_Catch, eta_Catch, sames_Catch, row_Method, k_Method, snoc_Method, row_Class, k_Class, snoc_Class, row_Program, k_Program, snoc_Program, row_Slot, k_Slot, snoc_Slot, eta_Slot, sames_Slot, row_State, k_State, snoc_State, row_Val, k_Val, snoc_Val, eta_Val, sames_Val, row_Obj, k_Obj, snoc_Obj, row_Input, k_Input, snoc_Input, row_Frame, k_Frame, snoc_Frame, row_Run, k_Run, snoc_Run, row_Way, k_Way, snoc_Way, eta_Way, sames_Way, row_Task, k_Task, snoc_Task, eta_Task, sames_Task, s1, hT, t1]

section
variable {σ S : List Ob} {p : GProgram}
/-- Does a class' name stand for no interface? -/
def plainP (p : GProgram) (s : ByteArray) : Bool := !((findC (allL p) s).getD noC).iface
def kindsP (p : GProgram) (a : ByteArray) : List ByteArray := if hierP p = 0 then ((namesOf (allL p)).drop 8).filter (fun s => plainP p s && underP p s a) else []
theorem foldl_filter {α : Type} (q : α → Bool) : ∀ (l acc : List α), l.foldl (fun acc x => if q x then acc ++ [x] else acc) acc = acc ++ l.filter q
  | [], acc => by simp
  | x :: l, acc => by
    rw [List.foldl_cons, foldl_filter q l, List.filter_cons]
    cases q x <;> simp

theorem fn_tKinds (hp : OkP p) (h : TreeOk σ S p) (a : ByteArray) (lo tr : Nat) (hlo : lo ≤ S.length) : Fn fns 32 [vptr (σ.length + 3), vstr a] S lo tr = some (.c (.osl 1 (rows (kindsP p a))), S) := by
  rw [fn_eq t32 rfl rfl]
  obtain ⟨own, names, l, ht⟩ := h.t
  have hT := get_lt ht.t
  have hm : max lo S.length = S.length := by omega
  have hr : rows ([] : List ByteArray) = [] := rfl
  by_cases hE : hierP p = 0
  case neg =>
    have t1 := (List.getElem?_eq_some_iff.mp ht.t).2
    simp [KF, params, f32, ↓K_seq, ↓K_cond, ↓K_block, ↓K_region, ↓K_skip, ↓K_exit, ↓K_ret, ↓K_wrap, ↓KA_nil, ↓KA_none, ↓KA_some, beq_int, bne_int, dec_eqN, dec_ltN, dec_leN, stepOp, St.rd, St.raw, St.set, St.took, get_cons, V.down, C.down, Env.keep, binV, unV, arith, isShift, strs, intOf, optInt, wrapEnd, keptAt, andK, endOf, frzV, frz1, frzC, frzCs, frz1s, resOf, resOne, resAll, V.closed, V.closed1, C.closed, B.closed, Ob.closed, V.cells, partsIn, rep, chunk, datas, C.data, rowsOf, getCells, put_nil, put_zero, put_succ, mayWrite, C.plain, eqV_bool, eqV_agg, eqV_pnn, eqV_pnp, eqV_ppn, eqV_mnn, eqV_mmn, eqV_snn, eqV_sen, eqV_san, eqV_sdn, rs_len, rs_getE, rs_app, rs_take, rs_drop, rs_all, rs_each, row_len, ↓str_eq, str_nilP, str_nilE, str_nilB, vagg, row_Int, row_Bool, row_Str, k_Int, k_Bool, k_Str, snoc_Int, snoc_Bool, snoc_Str, row_Type, k_Type, snoc_Type, eta_Type, sames_Type, row_Field, k_Field, snoc_Field, eta_Field, sames_Field, row_Instr, k_Instr, snoc_Instr, eta_Instr, sames_Instr, row_Catch, k_Catch, snoc_Catch, eta_Catch, sames_Catch, row_Method, k_Method, snoc_Method, row_Class, k_Class, snoc_Class, row_Program, k_Program, snoc_Program, row_Slot, k_Slot, snoc_Slot, eta_Slot, sames_Slot, row_State, k_State, snoc_State, row_Val, k_Val, snoc_Val, eta_Val, sames_Val, row_Obj, k_Obj, snoc_Obj, row_Input, k_Input, snoc_Input, row_Frame, k_Frame, snoc_Frame, row_Run, k_Run, snoc_Run, row_Way, k_Way, snoc_Way, eta_Way, sames_Way, row_Task, k_Task, snoc_Task, eta_Task, sames_Task, hT, t1, kindsP, hE, hr]
  obtain ⟨az, h1, h2⟩ := h.ok hE
  have hA := get_lt h2.a
  have t1 := (List.getElem?_eq_some_iff.mp h2.t).2
  have a1 := (List.getElem?_eq_some_iff.mp h2.a).2
  have hL := all_len hp
  have hnl : (namesOf (allL p)).length ≤ 100 := by simpa [namesOf] using hL
  have h8 : 8 ≤ (namesOf (allL p)).length := by simp [namesOf, allL, baseL]
  have hu := fn_tUnder h
  have hcl0 : S.all (Ob.closed S.length) = true := by simpa using h.cl 0
  have hN : ∀ s, plainP p s = !((findC (allL p) s).getD noC).iface := fun _ => rfl
  have hunit : kindsP p a = ((namesOf (allL p)).drop 8).filter (fun s => plainP p s && underP p s a) := by simp [kindsP, hE]
  rw [hunit]
  generalize hnd : (namesOf (allL p)).drop 8 = nd at *
  have hndl : nd.length + 8 = (namesOf (allL p)).length := by rw [← hnd]; simp; omega
  have L : ∀ (t : Nat) (k : AExit → St → Option (V × List Ob)), K fns ⟨S.length, t⟩ f32_l0 ⟨[(0, vptr (σ.length + 3)), (1, vstr a), (5, .c (.osl 1 (rows ([] : List ByteArray)))), (21, vsl nd), (22, vint nd.length), (23, vint 0)], S⟩ k = k (.exit 0) ⟨[(5, .c (.osl 1 (rows (nd.filter (fun s => plainP p s && underP p s a)))))], S⟩ := fun t k => by
    have := scan_fold (l := nd) (f := fun acc x => if (plainP p x && underP p x a) then acc ++ [x] else acc) (I := fun i c => c.length ≤ i)
      (X := fun i c => K fns ⟨S.length, t⟩ f32_l0 ⟨[(0, vptr (σ.length + 3)), (1, vstr a), (5, .c (.osl 1 (rows c))), (21, vsl nd), (22, vint nd.length), (23, vint i)], S⟩ k)
      (e := fun c => k (.exit 0) ⟨[(5, .c (.osl 1 (rows c)))], S⟩)
      (fun i c hi hI => by
        have hw1 := wrap_succ (i := i) (by omega)
        obtain ⟨r, g1, g2, g3⟩ := got_C (allL p) nd[i]
        have q1 : c.length + 1 ≤ 70368744177664 := by omega
        have q2 : (c.length + 1) * 16 ≤ 70368744177664 := by omega
        refine ⟨?_, by
          split
          · rw [List.length_append, List.length_singleton]; omega
          · omega⟩
        rw [hN]
        generalize (findC (allL p) nd[i]).getD noC = cc at g2 ⊢
        show K fns _ f32_l0 _ k = _
        rw [u32_l0]
        cases hi1 : cc.iface
        · cases hi2 : underP p nd[i] a <;> simp [f32_b0, ↓K_seq, ↓K_cond, ↓K_block, ↓K_region, ↓K_skip, ↓K_exit, ↓K_ret, ↓K_wrap, ↓KA_nil, ↓KA_none, ↓KA_some, beq_int, bne_int, dec_eqN, dec_ltN, dec_leN, stepOp, St.rd, St.raw, St.set, St.took, get_cons, V.down, C.down, Env.keep, binV, unV, arith, isShift, strs, intOf, optInt, wrapEnd, keptAt, andK, endOf, frzV, frz1, frzC, frzCs, frz1s, resOf, resOne, resAll, V.closed, V.closed1, C.closed, B.closed, Ob.closed, V.cells, partsIn, rep, chunk, datas, C.data, rowsOf, getCells, put_nil, put_zero, put_succ, mayWrite, C.plain, eqV_bool, eqV_agg, eqV_pnn, eqV_pnp, eqV_ppn, eqV_mnn, eqV_mmn, eqV_snn, eqV_sen, eqV_san, eqV_sdn, rs_len, rs_getE, rs_app, rs_take, rs_drop, rs_all, rs_each, row_len, ↓str_eq, str_nilP, str_nilE, str_nilB, vagg, row_Int, row_Bool, row_Str, k_Int, k_Bool, k_Str, snoc_Int, snoc_Bool, snoc_Str, row_Type, k_Type, snoc_Type, eta_Type, sames_Type, row_Field, k_Field, snoc_Field, eta_Field, sames_Field, row_Instr, k_Instr, snoc_Instr, eta_Instr, sames_Instr, row_Catch, k_Catch, snoc_Catch, eta_Catch, sames_Catch, row_Method, k_Method, snoc_Method, row_Class, k_Class, snoc_Class, row_Program, k_Program, snoc_Program, row_Slot, k_Slot, snoc_Slot, eta_Slot, sames_Slot, row_State, k_State, snoc_State, row_Val, k_Val, snoc_Val, eta_Val, sames_Val, row_Obj, k_Obj, snoc_Obj, row_Input, k_Input, snoc_Input, row_Frame, k_Frame, snoc_Frame, row_Run, k_Run, snoc_Run, row_Way, k_Way, snoc_Way, eta_Way, sames_Way, row_Task, k_Task, snoc_Task, eta_Task, sames_Task, hi, hw1, hT, t1, hA, a1, mapOf, keyShape, g1, g2, hi1, hi2, hu, q1, q2, hcl0]
        · simp [f32_b0, ↓K_seq, ↓K_cond, ↓K_block, ↓K_region, ↓K_skip, ↓K_exit, ↓K_ret, ↓K_wrap, ↓KA_nil, ↓KA_none, ↓KA_some, beq_int, bne_int, dec_eqN, dec_ltN, dec_leN, stepOp, St.rd, St.raw, St.set, St.took, get_cons, V.down, C.down, Env.keep, binV, unV, arith, isShift, strs, intOf, optInt, wrapEnd, keptAt, andK, endOf, frzV, frz1, frzC, frzCs, frz1s, resOf, resOne, resAll, V.closed, V.closed1, C.closed, B.closed, Ob.closed, V.cells, partsIn, rep, chunk, datas, C.data, rowsOf, getCells, put_nil, put_zero, put_succ, mayWrite, C.plain, eqV_bool, eqV_agg, eqV_pnn, eqV_pnp, eqV_ppn, eqV_mnn, eqV_mmn, eqV_snn, eqV_sen, eqV_san, eqV_sdn, rs_len, rs_getE, rs_app, rs_take, rs_drop, rs_all, rs_each, row_len, ↓str_eq, str_nilP, str_nilE, str_nilB, vagg, row_Int, row_Bool, row_Str, k_Int, k_Bool, k_Str, snoc_Int, snoc_Bool, snoc_Str, row_Type, k_Type, snoc_Type, eta_Type, sames_Type, row_Field, k_Field, snoc_Field, eta_Field, sames_Field, row_Instr, k_Instr, snoc_Instr, eta_Instr, sames_Instr, row_Catch, k_Catch, snoc_Catch, eta_Catch, sames_Catch, row_Method, k_Method, snoc_Method, row_Class, k_Class, snoc_Class, row_Program, k_Program, snoc_Program, row_Slot, k_Slot, snoc_Slot, eta_Slot, sames_Slot, row_State, k_State, snoc_State, row_Val, k_Val, snoc_Val, eta_Val, sames_Val, row_Obj, k_Obj, snoc_Obj, row_Input, k_Input, snoc_Input, row_Frame, k_Frame, snoc_Frame, row_Run, k_Run, snoc_Run, row_Way, k_Way, snoc_Way, eta_Way, sames_Way, row_Task, k_Task, snoc_Task, eta_Task, sames_Task, hi, hw1, hT, t1, hA, a1, mapOf, keyShape, g1, g2, hi1, hcl0])
      (fun c hI => by
        show K fns _ f32_l0 _ k = _
        rw [u32_l0]; simp [f32_b0, ↓K_seq, ↓K_cond, ↓K_block, ↓K_region, ↓K_skip, ↓K_exit, ↓K_ret, ↓K_wrap, ↓KA_nil, ↓KA_none, ↓KA_some, beq_int, bne_int, dec_eqN, dec_ltN, dec_leN, stepOp, St.rd, St.raw, St.set, St.took, get_cons, V.down, C.down, Env.keep, binV, unV, arith, isShift, strs, intOf, optInt, wrapEnd, keptAt, andK, endOf, frzV, frz1, frzC, frzCs, frz1s, resOf, resOne, resAll, V.closed, V.closed1, C.closed, B.closed, Ob.closed, V.cells, partsIn, rep, chunk, datas, C.data, rowsOf, getCells, put_nil, put_zero, put_succ, mayWrite, C.plain, eqV_bool, eqV_agg, eqV_pnn, eqV_pnp, eqV_ppn, eqV_mnn, eqV_mmn, eqV_snn, eqV_sen, eqV_san, eqV_sdn, rs_len, rs_getE, rs_app, rs_take, rs_drop, rs_all, rs_each, row_len, ↓str_eq, str_nilP, str_nilE, str_nilB, vagg, row_Int, row_Bool, row_Str, k_Int, k_Bool, k_Str, snoc_Int, snoc_Bool, snoc_Str, row_Type, k_Type, snoc_Type, eta_Type, sames_Type, row_Field, k_Field, snoc_Field, eta_Field, sames_Field, row_Instr, k_Instr, snoc_Instr, eta_Instr, sames_Instr, row_Catch, k_Catch, snoc_Catch, eta_Catch, sames_Catch, row_Method, k_Method, snoc_Method, row_Class, k_Class, snoc_Class, row_Program, k_Program, snoc_Program, row_Slot, k_Slot, snoc_Slot, eta_Slot, sames_Slot, row_State, k_State, snoc_State, row_Val, k_Val, snoc_Val, eta_Val, sames_Val, row_Obj, k_Obj, snoc_Obj, row_Input, k_Input, snoc_Input, row_Frame, k_Frame, snoc_Frame, row_Run, k_Run, snoc_Run, row_Way, k_Way, snoc_Way, eta_Way, sames_Way, row_Task, k_Task, snoc_Task, eta_Task, sames_Task, hcl0]) (c := []) (by simp)
    rw [foldl_filter] at this
    simpa using this
  simp only [hr] at L
  have q3 : (8 : Int) ≤ (namesOf (allL p)).length := by omega
  simp [KF, params, f32, ↓K_seq, ↓K_cond, ↓K_block, ↓K_region, ↓K_skip, ↓K_exit, ↓K_ret, ↓K_wrap, ↓KA_nil, ↓KA_none, ↓KA_some, beq_int, bne_int, dec_eqN, dec_ltN, dec_leN, stepOp, St.rd, St.raw, St.set, St.took, get_cons, V.down, C.down, Env.keep, binV, unV, arith, isShift, strs, intOf, optInt, wrapEnd, keptAt, andK, endOf, frzV, frz1, frzC, frzCs, frz1s, resOf, resOne, resAll, V.closed, V.closed1, C.closed, B.closed, Ob.closed, V.cells, partsIn, rep, chunk, datas, C.data, rowsOf, getCells, put_nil, put_zero, put_succ, mayWrite, C.plain, eqV_bool, eqV_agg, eqV_pnn, eqV_pnp, eqV_ppn, eqV_mnn, eqV_mmn, eqV_snn, eqV_sen, eqV_san, eqV_sdn, rs_len, rs_getE, rs_app, rs_take, rs_drop, rs_all, rs_each, row_len, ↓str_eq, str_nilP, str_nilE, str_nilB, vagg, row_Int, row_Bool, row_Str, k_Int, k_Bool, k_Str, snoc_Int, snoc_Bool, snoc_Str, row_Type, k_Type, snoc_Type, eta_Type, sames_Type, row_Field, k_Field, snoc_Field, eta_Field, sames_Field, row_Instr, k_Instr, snoc_Instr, eta_Instr, sames_Instr, row_Catch, k_Catch, snoc_Catch, eta_Catch, sames_Catch, row_Method, k_Method, snoc_Method, row_Class, k_Class, snoc_Class, row_Program, k_Program, snoc_Program, row_Slot, k_Slot, snoc_Slot, eta_Slot, sames_Slot, row_State, k_State, snoc_State, row_Val, k_Val, snoc_Val, eta_Val, sames_Val, row_Obj, k_Obj, snoc_Obj, row_Input, k_Input, snoc_Input, row_Frame, k_Frame, snoc_Frame, row_Run, k_Run, snoc_Run, row_Way, k_Way, snoc_Way, eta_Way, sames_Way, row_Task, k_Task, snoc_Task, eta_Task, sames_Task, hT, t1, hm, q3, hnd, L]
end

theorem fn_kinds (p : GProgram) (hp : OkP p) (a : ByteArray) (σ : List Ob) (lo tr : Nat) : Fn fns 17 [vProgram p, vstr a] σ lo tr = some (.c (.osl 1 (rows (kindsP p a))), σ) := by
  obtain ⟨S, s1, s2⟩ := fn_of p hp (σ := [cP p]) (lo := 0) (tr := 0) (by simp) (by simp) (one_ok p)
  have h1 := fun lo tr hlo => fn_tKinds hp s2 a lo tr hlo
  refine fn_gen t17 rfl (σ1 := []) rfl rfl ?_ σ lo tr
  simp only [List.length_singleton, Nat.reduceAdd] at s1 h1
  simp [KF, params, f17, ↓K_seq, ↓K_cond, ↓K_block, ↓K_region, ↓K_skip, ↓K_exit, ↓K_ret, ↓K_wrap, ↓KA_nil, ↓KA_none, ↓KA_some, beq_int, bne_int, dec_eqN, dec_ltN, dec_leN, stepOp, St.rd, St.raw, St.set, St.took, get_cons, V.down, C.down, Env.keep, binV, unV, arith, isShift, strs, intOf, optInt, wrapEnd, keptAt, andK, endOf, frzV, frz1, frzC, frzCs, frz1s, resOf, resOne, resAll, V.closed, V.closed1, C.closed, B.closed, Ob.closed, V.cells, partsIn, rep, chunk, datas, C.data, rowsOf, getCells, put_nil, put_zero, put_succ, mayWrite, C.plain, eqV_bool, eqV_agg, eqV_pnn, eqV_pnp, eqV_ppn, eqV_mnn, eqV_mmn, eqV_snn, eqV_sen, eqV_san, eqV_sdn, rs_len, rs_getE, rs_app, rs_take, rs_drop, rs_all, rs_each, row_len, ↓str_eq, str_nilP, str_nilE, str_nilB, vagg, row_Int, row_Bool, row_Str, k_Int, k_Bool, k_Str, snoc_Int, snoc_Bool, snoc_Str, row_Type, k_Type, snoc_Type, eta_Type, sames_Type, row_Field, k_Field, snoc_Field, eta_Field, sames_Field, row_Instr, k_Instr, snoc_Instr, eta_Instr, sames_Instr, row_Catch, k_Catch, snoc_Catch, eta_Catch, sames_Catch, row_Method, k_Method, snoc_Method, row_Class, k_Class, snoc_Class, row_Program, k_Program, snoc_Program, row_Slot, k_Slot, snoc_Slot, eta_Slot, sames_Slot, row_State, k_State, snoc_State, row_Val, k_Val, snoc_Val, eta_Val, sames_Val, row_Obj, k_Obj, snoc_Obj, row_Input, k_Input, snoc_Input, row_Frame, k_Frame, snoc_Frame, row_Run, k_Run, snoc_Run, row_Way, k_Way, snoc_Way, eta_Way, sames_Way, row_Task, k_Task, snoc_Task, eta_Task, sames_Task, s1, h1]

def classP (p : GProgram) (l : List GClass) (s : ByteArray) : GClass := (findC l s).getD noC
section
variable {σ S : List Ob} {p : GProgram}
theorem fn_tClass (h : TreeOk σ S p) : ∃ l, (hierP p = 0 → l = allL p) ∧ ∀ (s : ByteArray) (lo tr : Nat), lo ≤ S.length → Fn fns 30 [vptr (σ.length + 3), vstr s] S lo tr = some (.tup [vClass ((findC l s).getD noC), vbool ((findC l s).isSome && decide (hierP p = 0))], S) := by
  obtain ⟨own, names, l, ht, hl⟩ : ∃ own names l, TreeAt S (σ.length + 3) (σ.length + 1) (σ.length + 2) own (hierP p) names l ∧ (hierP p = 0 → l = allL p) := by
    by_cases hE : hierP p = 0
    · obtain ⟨az, h1, h2⟩ := h.ok hE
      exact ⟨8, _, _, ⟨by rw [hE]; exact h2.t, h2.a⟩, fun _ => rfl⟩
    · obtain ⟨own, names, l, ht⟩ := h.t
      exact ⟨own, names, l, ht, fun h => absurd h hE⟩
  refine ⟨l, hl, fun s lo tr hlo => ?_⟩
  rw [fn_eq t30 rfl rfl]
  have hT := get_lt ht.t
  have hA := get_lt ht.a
  have t1 := (List.getElem?_eq_some_iff.mp ht.t).2
  have a1 := (List.getElem?_eq_some_iff.mp ht.a).2
  have hm : max lo S.length = S.length := by omega
  have hb1 : Nat.beq (S.length + 1) S.length = false := by rw [Bool.eq_false_iff]; intro h; have := Nat.eq_of_beq_eq_true h; omega
  have hb2 : Nat.beq (σ.length + 3) S.length = false := by rw [Bool.eq_false_iff]; intro h; have := Nat.eq_of_beq_eq_true h; omega
  obtain ⟨r, g1, g2, g3⟩ := got_C l s
  generalize (findC l s).getD noC = c at *
  cases hs : (findC l s).isSome <;> rw [hs] at g3
  · simp [KF, params, f30, ↓K_seq, ↓K_cond, ↓K_block, ↓K_region, ↓K_skip, ↓K_exit, ↓K_ret, ↓K_wrap, ↓KA_nil, ↓KA_none, ↓KA_some, beq_int, bne_int, dec_eqN, dec_ltN, dec_leN, stepOp, St.rd, St.raw, St.set, St.took, get_cons, V.down, C.down, Env.keep, binV, unV, arith, isShift, strs, intOf, optInt, wrapEnd, keptAt, andK, endOf, frzV, frz1, frzC, frzCs, frz1s, resOf, resOne, resAll, V.closed, V.closed1, C.closed, B.closed, Ob.closed, V.cells, partsIn, rep, chunk, datas, C.data, rowsOf, getCells, put_nil, put_zero, put_succ, mayWrite, C.plain, eqV_bool, eqV_agg, eqV_pnn, eqV_pnp, eqV_ppn, eqV_mnn, eqV_mmn, eqV_snn, eqV_sen, eqV_san, eqV_sdn, rs_len, rs_getE, rs_app, rs_take, rs_drop, rs_all, rs_each, row_len, ↓str_eq, str_nilP, str_nilE, str_nilB, vagg, row_Int, row_Bool, row_Str, k_Int, k_Bool, k_Str, snoc_Int, snoc_Bool, snoc_Str, row_Type, k_Type, snoc_Type, eta_Type, sames_Type, row_Field, k_Field, snoc_Field, eta_Field, sames_Field, row_Instr, k_Instr, snoc_Instr, eta_Instr, sames_Instr, row_Catch, k_Catch, snoc_Catch, eta_Catch, sames_Catch, row_Method, k_Method, snoc_Method, row_Class, k_Class, snoc_Class, row_Program, k_Program, snoc_Program, row_Slot, k_Slot, snoc_Slot, eta_Slot, sames_Slot, row_State, k_State, snoc_State, row_Val, k_Val, snoc_Val, eta_Val, sames_Val, row_Obj, k_Obj, snoc_Obj, row_Input, k_Input, snoc_Input, row_Frame, k_Frame, snoc_Frame, row_Run, k_Run, snoc_Run, row_Way, k_Way, snoc_Way, eta_Way, sames_Way, row_Task, k_Task, snoc_Task, eta_Task, sames_Task, List.getElem?_append_left, List.getElem?_append_right, List.set_append_right, farFrom, hb1, hb2, hT, hA, t1, a1, hm, mapOf, keyShape, g1, g2, g3]
  · simp [KF, params, f30, ↓K_seq, ↓K_cond, ↓K_block, ↓K_region, ↓K_skip, ↓K_exit, ↓K_ret, ↓K_wrap, ↓KA_nil, ↓KA_none, ↓KA_some, beq_int, bne_int, dec_eqN, dec_ltN, dec_leN, stepOp, St.rd, St.raw, St.set, St.took, get_cons, V.down, C.down, Env.keep, binV, unV, arith, isShift, strs, intOf, optInt, wrapEnd, keptAt, andK, endOf, frzV, frz1, frzC, frzCs, frz1s, resOf, resOne, resAll, V.closed, V.closed1, C.closed, B.closed, Ob.closed, V.cells, partsIn, rep, chunk, datas, C.data, rowsOf, getCells, put_nil, put_zero, put_succ, mayWrite, C.plain, eqV_bool, eqV_agg, eqV_pnn, eqV_pnp, eqV_ppn, eqV_mnn, eqV_mmn, eqV_snn, eqV_sen, eqV_san, eqV_sdn, rs_len, rs_getE, rs_app, rs_take, rs_drop, rs_all, rs_each, row_len, ↓str_eq, str_nilP, str_nilE, str_nilB, vagg, row_Int, row_Bool, row_Str, k_Int, k_Bool, k_Str, snoc_Int, snoc_Bool, snoc_Str, row_Type, k_Type, snoc_Type, eta_Type, sames_Type, row_Field, k_Field, snoc_Field, eta_Field, sames_Field, row_Instr, k_Instr, snoc_Instr, eta_Instr, sames_Instr, row_Catch, k_Catch, snoc_Catch, eta_Catch, sames_Catch, row_Method, k_Method, snoc_Method, row_Class, k_Class, snoc_Class, row_Program, k_Program, snoc_Program, row_Slot, k_Slot, snoc_Slot, eta_Slot, sames_Slot, row_State, k_State, snoc_State, row_Val, k_Val, snoc_Val, eta_Val, sames_Val, row_Obj, k_Obj, snoc_Obj, row_Input, k_Input, snoc_Input, row_Frame, k_Frame, snoc_Frame, row_Run, k_Run, snoc_Run, row_Way, k_Way, snoc_Way, eta_Way, sames_Way, row_Task, k_Task, snoc_Task, eta_Task, sames_Task, List.getElem?_append_left, List.getElem?_append_right, List.set_append_right, farFrom, hb1, hb2, hT, hA, t1, a1, hm, mapOf, keyShape, g1, g2, g3]
end

/-- A class' super, of a program that is sound. -/
def supP (p : GProgram) (s : ByteArray) : ByteArray := if hierP p = 0 then (match findC (allL p) s with | some c => superL c | none => ⟨#[]⟩) else ⟨#[]⟩
section
variable {σ S : List Ob} {p : GProgram}
theorem fn_tSuper (h : TreeOk σ S p) (s : ByteArray) (lo tr : Nat) (hlo : lo ≤ S.length) : Fn fns 16 [vptr (σ.length + 3), vstr s] S lo tr = some (.tup [vstr (supP p s), vbool (!decide (supP p s = ⟨#[]⟩))], S) := by
  obtain ⟨l, hl, hc⟩ := fn_tClass h
  rw [fn_eq t16 rfl rfl]
  have hT : σ.length + 3 < S.length := by obtain ⟨_, _, _, ht⟩ := h.t; exact get_lt ht.t
  have hm : max lo S.length = S.length := by omega
  have h1 := fun lo tr hlo => hc s lo tr hlo
  have hs := fun c (σ' : List Ob) lo tr hlo hσ => fn_super c (σ.length + 3) σ' lo tr hlo hσ
  have hcl := h.cl
  unfold supP
  by_cases hE : hierP p = 0
  · have := hl hE
    subst this
    cases hf : findC (allL p) s with
    | none =>
      rw [hf] at h1
      simp [KF, params, f16, ↓K_seq, ↓K_cond, ↓K_block, ↓K_region, ↓K_skip, ↓K_exit, ↓K_ret, ↓K_wrap, ↓KA_nil, ↓KA_none, ↓KA_some, beq_int, bne_int, dec_eqN, dec_ltN, dec_leN, stepOp, St.rd, St.raw, St.set, St.took, get_cons, V.down, C.down, Env.keep, binV, unV, arith, isShift, strs, intOf, optInt, wrapEnd, keptAt, andK, endOf, frzV, frz1, frzC, frzCs, frz1s, resOf, resOne, resAll, V.closed, V.closed1, C.closed, B.closed, Ob.closed, V.cells, partsIn, rep, chunk, datas, C.data, rowsOf, getCells, put_nil, put_zero, put_succ, mayWrite, C.plain, eqV_bool, eqV_agg, eqV_pnn, eqV_pnp, eqV_ppn, eqV_mnn, eqV_mmn, eqV_snn, eqV_sen, eqV_san, eqV_sdn, rs_len, rs_getE, rs_app, rs_take, rs_drop, rs_all, rs_each, row_len, ↓str_eq, str_nilP, str_nilE, str_nilB, vagg, row_Int, row_Bool, row_Str, k_Int, k_Bool, k_Str, snoc_Int, snoc_Bool, snoc_Str, row_Type, k_Type, snoc_Type, eta_Type, sames_Type, row_Field, k_Field, snoc_Field, eta_Field, sames_Field, row_Instr, k_Instr, snoc_Instr, eta_Instr, sames_Instr, row_Catch, k_Catch, snoc_Catch, eta_Catch, sames_Catch, row_Method, k_Method, snoc_Method, row_Class, k_Class, snoc_Class, row_Program, k_Program, snoc_Program, row_Slot, k_Slot, snoc_Slot, eta_Slot, sames_Slot, row_State, k_State, snoc_State, row_Val, k_Val, snoc_Val, eta_Val, sames_Val, row_Obj, k_Obj, snoc_Obj, row_Input, k_Input, snoc_Input, row_Frame, k_Frame, snoc_Frame, row_Run, k_Run, snoc_Run, row_Way, k_Way, snoc_Way, eta_Way, sames_Way, row_Task, k_Task, snoc_Task, eta_Task, sames_Task, hm, hE, h1]
    | some c =>
      rw [hf] at h1
      simp only [Option.getD_some, Option.isSome_some, hE, decide_true, Bool.and_true] at h1
      simp [KF, params, f16, ↓K_seq, ↓K_cond, ↓K_block, ↓K_region, ↓K_skip, ↓K_exit, ↓K_ret, ↓K_wrap, ↓KA_nil, ↓KA_none, ↓KA_some, beq_int, bne_int, dec_eqN, dec_ltN, dec_leN, stepOp, St.rd, St.raw, St.set, St.took, get_cons, V.down, C.down, Env.keep, binV, unV, arith, isShift, strs, intOf, optInt, wrapEnd, keptAt, andK, endOf, frzV, frz1, frzC, frzCs, frz1s, resOf, resOne, resAll, V.closed, V.closed1, C.closed, B.closed, Ob.closed, V.cells, partsIn, rep, chunk, datas, C.data, rowsOf, getCells, put_nil, put_zero, put_succ, mayWrite, C.plain, eqV_bool, eqV_agg, eqV_pnn, eqV_pnp, eqV_ppn, eqV_mnn, eqV_mmn, eqV_snn, eqV_sen, eqV_san, eqV_sdn, rs_len, rs_getE, rs_app, rs_take, rs_drop, rs_all, rs_each, row_len, ↓str_eq, str_nilP, str_nilE, str_nilB, vagg, row_Int, row_Bool, row_Str, k_Int, k_Bool, k_Str, snoc_Int, snoc_Bool, snoc_Str, row_Type, k_Type, snoc_Type, eta_Type, sames_Type, row_Field, k_Field, snoc_Field, eta_Field, sames_Field, row_Instr, k_Instr, snoc_Instr, eta_Instr, sames_Instr, row_Catch, k_Catch, snoc_Catch, eta_Catch, sames_Catch, row_Method, k_Method, snoc_Method, row_Class, k_Class, snoc_Class, row_Program, k_Program, snoc_Program, row_Slot, k_Slot, snoc_Slot, eta_Slot, sames_Slot, row_State, k_State, snoc_State, row_Val, k_Val, snoc_Val, eta_Val, sames_Val, row_Obj, k_Obj, snoc_Obj, row_Input, k_Input, snoc_Input, row_Frame, k_Frame, snoc_Frame, row_Run, k_Run, snoc_Run, row_Way, k_Way, snoc_Way, eta_Way, sames_Way, row_Task, k_Task, snoc_Task, eta_Task, sames_Task, List.getElem?_append_left, List.getElem?_append_right, List.set_append_right, hm, hE, h1, hs, hcl]
  · simp only [hE, decide_false, Bool.and_false] at h1
    generalize (findC l s).getD noC = c at h1
    simp [KF, params, f16, ↓K_seq, ↓K_cond, ↓K_block, ↓K_region, ↓K_skip, ↓K_exit, ↓K_ret, ↓K_wrap, ↓KA_nil, ↓KA_none, ↓KA_some, beq_int, bne_int, dec_eqN, dec_ltN, dec_leN, stepOp, St.rd, St.raw, St.set, St.took, get_cons, V.down, C.down, Env.keep, binV, unV, arith, isShift, strs, intOf, optInt, wrapEnd, keptAt, andK, endOf, frzV, frz1, frzC, frzCs, frz1s, resOf, resOne, resAll, V.closed, V.closed1, C.closed, B.closed, Ob.closed, V.cells, partsIn, rep, chunk, datas, C.data, rowsOf, getCells, put_nil, put_zero, put_succ, mayWrite, C.plain, eqV_bool, eqV_agg, eqV_pnn, eqV_pnp, eqV_ppn, eqV_mnn, eqV_mmn, eqV_snn, eqV_sen, eqV_san, eqV_sdn, rs_len, rs_getE, rs_app, rs_take, rs_drop, rs_all, rs_each, row_len, ↓str_eq, str_nilP, str_nilE, str_nilB, vagg, row_Int, row_Bool, row_Str, k_Int, k_Bool, k_Str, snoc_Int, snoc_Bool, snoc_Str, row_Type, k_Type, snoc_Type, eta_Type, sames_Type, row_Field, k_Field, snoc_Field, eta_Field, sames_Field, row_Instr, k_Instr, snoc_Instr, eta_Instr, sames_Instr, row_Catch, k_Catch, snoc_Catch, eta_Catch, sames_Catch, row_Method, k_Method, snoc_Method, row_Class, k_Class, snoc_Class, row_Program, k_Program, snoc_Program, row_Slot, k_Slot, snoc_Slot, eta_Slot, sames_Slot, row_State, k_State, snoc_State, row_Val, k_Val, snoc_Val, eta_Val, sames_Val, row_Obj, k_Obj, snoc_Obj, row_Input, k_Input, snoc_Input, row_Frame, k_Frame, snoc_Frame, row_Run, k_Run, snoc_Run, row_Way, k_Way, snoc_Way, eta_Way, sames_Way, row_Task, k_Task, snoc_Task, eta_Task, sames_Task, List.getElem?_append_left, List.getElem?_append_right, List.set_append_right, hm, hE, h1]
end

theorem fn_super_ (p : GProgram) (hp : OkP p) (s : ByteArray) (σ : List Ob) (lo tr : Nat) : Fn fns 9 [vProgram p, vstr s] σ lo tr = some (.tup [vstr (supP p s), vbool (!decide (supP p s = ⟨#[]⟩))], σ) := by
  obtain ⟨S, s1, s2⟩ := fn_of p hp (σ := [cP p]) (lo := 0) (tr := 0) (by simp) (by simp) (one_ok p)
  have h1 := fun lo tr hlo => fn_tSuper s2 s lo tr hlo
  refine fn_gen t9 rfl (σ1 := []) rfl rfl ?_ σ lo tr
  simp only [List.length_singleton, Nat.reduceAdd] at s1 h1
  simp [KF, params, f9, ↓K_seq, ↓K_cond, ↓K_block, ↓K_region, ↓K_skip, ↓K_exit, ↓K_ret, ↓K_wrap, ↓KA_nil, ↓KA_none, ↓KA_some, beq_int, bne_int, dec_eqN, dec_ltN, dec_leN, stepOp, St.rd, St.raw, St.set, St.took, get_cons, V.down, C.down, Env.keep, binV, unV, arith, isShift, strs, intOf, optInt, wrapEnd, keptAt, andK, endOf, frzV, frz1, frzC, frzCs, frz1s, resOf, resOne, resAll, V.closed, V.closed1, C.closed, B.closed, Ob.closed, V.cells, partsIn, rep, chunk, datas, C.data, rowsOf, getCells, put_nil, put_zero, put_succ, mayWrite, C.plain, eqV_bool, eqV_agg, eqV_pnn, eqV_pnp, eqV_ppn, eqV_mnn, eqV_mmn, eqV_snn, eqV_sen, eqV_san, eqV_sdn, rs_len, rs_getE, rs_app, rs_take, rs_drop, rs_all, rs_each, row_len, ↓str_eq, str_nilP, str_nilE, str_nilB, vagg, row_Int, row_Bool, row_Str, k_Int, k_Bool, k_Str, snoc_Int, snoc_Bool, snoc_Str, row_Type, k_Type, snoc_Type, eta_Type, sames_Type, row_Field, k_Field, snoc_Field, eta_Field, sames_Field, row_Instr, k_Instr, snoc_Instr, eta_Instr, sames_Instr, row_Catch, k_Catch, snoc_Catch, eta_Catch, sames_Catch, row_Method, k_Method, snoc_Method, row_Class, k_Class, snoc_Class, row_Program, k_Program, snoc_Program, row_Slot, k_Slot, snoc_Slot, eta_Slot, sames_Slot, row_State, k_State, snoc_State, row_Val, k_Val, snoc_Val, eta_Val, sames_Val, row_Obj, k_Obj, snoc_Obj, row_Input, k_Input, snoc_Input, row_Frame, k_Frame, snoc_Frame, row_Run, k_Run, snoc_Run, row_Way, k_Way, snoc_Way, eta_Way, sames_Way, row_Task, k_Task, snoc_Task, eta_Task, sames_Task, s1, h1]

/-- The class of a name, of a program that is sound. -/
def foundP (p : GProgram) (s : ByteArray) : Option GClass := if hierP p = 0 then findC (allL p) s else none
end Go.Proofs.YthahhonmkhafkaaDoor.Am
