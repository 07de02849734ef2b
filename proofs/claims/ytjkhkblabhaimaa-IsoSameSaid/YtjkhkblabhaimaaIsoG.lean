/- A twin whose objects may be written to; the law IsoSame, run. -/
import Derived.Test.YtjkhkblabhaimaaIsoF
namespace Go.Proofs.Ytjkhkblabhaimaa.Am
set_option linter.unusedSimpArgs false
set_option linter.unusedVariables false
open Go

def growA (n : Nat) : Nat → V
  | 0 => .c (.b .nils)
  | i + 1 => .c (.b (.arr 3 (n + i) 0 (i + 1)))
def growS (σ : List Ob) (l : List GObj) : Nat → List Ob
  | 0 => σ
  | i + 1 => σ ++ (List.replicate i Ob.dead ++ [.cells (cellsOf (l.take (i + 1)))])

theorem take_cells {l : List GObj} {i : Nat} (hi : i < l.length) : cellsOf (l.take (i + 1)) = cellsOf (l.take i) ++ [.b (.d (.int .i64 l[i].type_.kind)), .b (.d (.str l[i].type_.name)), .b (.d (.sl (rows l[i].slots)))] := by
  rw [List.take_succ_eq_append_getElem hi, ← cl_app]
  rfl

theorem set_end (σ : List Ob) (j : Nat) (x y : Ob) : (σ ++ (List.replicate j Ob.dead ++ [x])).set (σ.length + j) y = σ ++ (List.replicate j Ob.dead ++ [y]) := by
  rw [List.set_append_right _ _ (by omega), Nat.add_sub_cancel_left, List.set_append_right _ _ (by simp)]
  simp
theorem get_end (σ : List Ob) (j : Nat) (x : Ob) : (σ ++ (List.replicate j Ob.dead ++ [x]))[σ.length + j]? = some x := by
  rw [List.getElem?_append_right (by omega), Nat.add_sub_cancel_left, List.getElem?_append_right (by simp)]
  simp

theorem fn26v (l : List GObj) (hs : l.length < 1000000000) (ha : ∀ o ∈ l, o.slots.length < 1000000000) (σ : List Ob) (lo tr : Nat) (hlo : lo ≤ σ.length) : Fn fns 4122 [vsl l] σ lo tr = some (growA σ.length l.length, growS σ l l.length) := by
  rw [fn_eq t26v1 rfl rfl]
  have L : ∀ k : AExit → St → Option (V × List Ob), K fns ⟨lo, tr⟩ f26v1_l0 ⟨[(0, vsl l), (3, .c (.b .nils)), (4, vint 0)], σ⟩ k = k (.exit 0) ⟨[(3, growA σ.length l.length)], growS σ l l.length⟩ := fun k => by
    have := scan_on (n := l.length) (X := fun i => K fns ⟨lo, tr⟩ f26v1_l0 ⟨[(0, vsl l), (3, growA σ.length i), (4, vint i)], growS σ l i⟩ k)
      (fun i hi => by
        have hw := wrap_succ (i := i) (by omega)
        have hf := fn25 (l[i]).slots (ha _ (List.getElem_mem hi))
        have hC := take_cells hi
        show K fns _ f26v1_l0 _ k = _
        rw [u26v1_l0]
        rcases Nat.eq_zero_or_pos i with rfl | hpos
        · simp only [growA, growS]
          rw [hC]
          have hw1 : IntKind.i64.wrap 1 = 1 := rfl
          simp [f26v1_b0, ↓K_seq, ↓K_cond, ↓K_block, ↓K_region, ↓K_skip, ↓K_exit, ↓K_ret, ↓K_wrap, ↓KA_nil, ↓KA_none, ↓KA_some, beq_int, bne_int, dec_eqN, dec_ltN, dec_leN, stepOp, St.rd, St.raw, St.set, St.took, get_cons, V.down, C.down, Env.keep, binV, unV, arith, isShift, strs, intOf, optInt, wrapEnd, keptAt, andK, endOf, frzV, frz1, frzC, frzCs, frz1s, resOf, resOne, resAll, V.closed, V.closed1, C.closed, B.closed, Ob.closed, V.cells, partsIn, rep, chunk, datas, C.data, rowsOf, getCells, put_nil, put_zero, put_succ, mayWrite, C.plain, eqV_bool, eqV_agg, eqV_pnn, eqV_pnp, eqV_ppn, eqV_mnn, eqV_mmn, eqV_snn, eqV_sen, eqV_san, eqV_sdn, rs_len, rs_getE, rs_app, rs_take, rs_drop, rs_all, rs_each, row_len, str_eq, vagg, row_Int, row_Bool, row_Str, k_Int, k_Bool, k_Str, snoc_Int, snoc_Bool, snoc_Str, row_Type, k_Type, snoc_Type, eta_Type, sames_Type, row_Field, k_Field, snoc_Field, eta_Field, sames_Field, row_Instr, k_Instr, snoc_Instr, eta_Instr, sames_Instr, row_Catch, k_Catch, snoc_Catch, eta_Catch, sames_Catch, row_Method, k_Method, snoc_Method, row_Class, k_Class, snoc_Class, row_Program, k_Program, snoc_Program, row_Slot, k_Slot, snoc_Slot, eta_Slot, sames_Slot, row_State, k_State, snoc_State, row_Val, k_Val, snoc_Val, eta_Val, sames_Val, row_Obj, k_Obj, snoc_Obj, row_Input, k_Input, snoc_Input, row_Frame, k_Frame, snoc_Frame, row_Run, k_Run, snoc_Run, row_Way, k_Way, snoc_Way, eta_Way, sames_Way, row_Task, k_Task, snoc_Task, eta_Task, sames_Task, hi, hw1, hf, elems, cl_nil]
        · obtain ⟨j, hij⟩ : ∃ j, j + 1 = i := ⟨i - 1, by omega⟩
          have hlen : (cellsOf (l.take i)).length = i * 3 := by rw [cl_len k_Obj, List.length_take, Nat.min_eq_left (by omega)]
          have q1 : (i + 1) * 48 ≤ 70368744177664 := by omega
          have q2 : i + 1 ≤ 70368744177664 := by omega
          have hlo' : lo ≤ σ.length + j := by omega
          have htk : (cellsOf (l.take i)).take (i * 3) = cellsOf (l.take i) := List.take_of_length_le (by omega)
          have eA : growA σ.length i = .c (.b (.arr 3 (σ.length + j) 0 i)) := by subst hij; rfl
          have eS : growS σ l i = σ ++ (List.replicate j Ob.dead ++ [.cells (cellsOf (l.take i))]) := by subst hij; rfl
          have eA' : growA σ.length (i + 1) = .c (.b (.arr 3 (σ.length + i) 0 (i + 1))) := rfl
          have eS' : growS σ l (i + 1) = σ ++ (List.replicate i Ob.dead ++ [.cells (cellsOf (l.take (i + 1)))]) := rfl
          have hrep : List.replicate i Ob.dead = List.replicate j Ob.dead ++ [Ob.dead] := by rw [← hij, List.replicate_succ']
          have hdn : (cellsOf (l.take i)).map C.down = cellsOf (l.take i) := cl_down _
          rw [eA, eS, eA', eS', hC, hrep]
          generalize cellsOf (l.take i) = Z at *
          have ge := get_end σ j (.cells Z)
          have se := set_end σ j (.cells Z) .dead
          simp [f26v1_b0, ↓K_seq, ↓K_cond, ↓K_block, ↓K_region, ↓K_skip, ↓K_exit, ↓K_ret, ↓K_wrap, ↓KA_nil, ↓KA_none, ↓KA_some, beq_int, bne_int, dec_eqN, dec_ltN, dec_leN, stepOp, St.rd, St.raw, St.set, St.took, get_cons, V.down, C.down, Env.keep, binV, unV, arith, isShift, strs, intOf, optInt, wrapEnd, keptAt, andK, endOf, frzV, frz1, frzC, frzCs, frz1s, resOf, resOne, resAll, V.closed, V.closed1, C.closed, B.closed, Ob.closed, V.cells, partsIn, rep, chunk, datas, C.data, rowsOf, getCells, put_nil, put_zero, put_succ, mayWrite, C.plain, eqV_bool, eqV_agg, eqV_pnn, eqV_pnp, eqV_ppn, eqV_mnn, eqV_mmn, eqV_snn, eqV_sen, eqV_san, eqV_sdn, rs_len, rs_getE, rs_app, rs_take, rs_drop, rs_all, rs_each, row_len, str_eq, vagg, row_Int, row_Bool, row_Str, k_Int, k_Bool, k_Str, snoc_Int, snoc_Bool, snoc_Str, row_Type, k_Type, snoc_Type, eta_Type, sames_Type, row_Field, k_Field, snoc_Field, eta_Field, sames_Field, row_Instr, k_Instr, snoc_Instr, eta_Instr, sames_Instr, row_Catch, k_Catch, snoc_Catch, eta_Catch, sames_Catch, row_Method, k_Method, snoc_Method, row_Class, k_Class, snoc_Class, row_Program, k_Program, snoc_Program, row_Slot, k_Slot, snoc_Slot, eta_Slot, sames_Slot, row_State, k_State, snoc_State, row_Val, k_Val, snoc_Val, eta_Val, sames_Val, row_Obj, k_Obj, snoc_Obj, row_Input, k_Input, snoc_Input, row_Frame, k_Frame, snoc_Frame, row_Run, k_Run, snoc_Run, row_Way, k_Way, snoc_Way, eta_Way, sames_Way, row_Task, k_Task, snoc_Task, eta_Task, sames_Task, hi, hw, hf, elems, ge, se, hlen, q1, q2, hlo', htk, hdn, hij])
    refine this.trans ?_
    show K fns _ f26v1_l0 _ k = _
    rw [u26v1_l0]
    simp [f26v1_b0, ↓K_seq, ↓K_cond, ↓K_block, ↓K_region, ↓K_skip, ↓K_exit, ↓K_ret, ↓K_wrap, ↓KA_nil, ↓KA_none, ↓KA_some, beq_int, bne_int, dec_eqN, dec_ltN, dec_leN, stepOp, St.rd, St.raw, St.set, St.took, get_cons, V.down, C.down, Env.keep, binV, unV, arith, isShift, strs, intOf, optInt, wrapEnd, keptAt, andK, endOf, frzV, frz1, frzC, frzCs, frz1s, resOf, resOne, resAll, V.closed, V.closed1, C.closed, B.closed, Ob.closed, V.cells, partsIn, rep, chunk, datas, C.data, rowsOf, getCells, put_nil, put_zero, put_succ, mayWrite, C.plain, eqV_bool, eqV_agg, eqV_pnn, eqV_pnp, eqV_ppn, eqV_mnn, eqV_mmn, eqV_snn, eqV_sen, eqV_san, eqV_sdn, rs_len, rs_getE, rs_app, rs_take, rs_drop, rs_all, rs_each, row_len, str_eq, vagg, row_Int, row_Bool, row_Str, k_Int, k_Bool, k_Str, snoc_Int, snoc_Bool, snoc_Str, row_Type, k_Type, snoc_Type, eta_Type, sames_Type, row_Field, k_Field, snoc_Field, eta_Field, sames_Field, row_Instr, k_Instr, snoc_Instr, eta_Instr, sames_Instr, row_Catch, k_Catch, snoc_Catch, eta_Catch, sames_Catch, row_Method, k_Method, snoc_Method, row_Class, k_Class, snoc_Class, row_Program, k_Program, snoc_Program, row_Slot, k_Slot, snoc_Slot, eta_Slot, sames_Slot, row_State, k_State, snoc_State, row_Val, k_Val, snoc_Val, eta_Val, sames_Val, row_Obj, k_Obj, snoc_Obj, row_Input, k_Input, snoc_Input, row_Frame, k_Frame, snoc_Frame, row_Run, k_Run, snoc_Run, row_Way, k_Way, snoc_Way, eta_Way, sames_Way, row_Task, k_Task, snoc_Task, eta_Task, sames_Task]
  cases hn : l.length with
  | zero => rw [hn] at L; simp [KF, params, f26v1, ↓K_seq, ↓K_cond, ↓K_block, ↓K_region, ↓K_skip, ↓K_exit, ↓K_ret, ↓K_wrap, ↓KA_nil, ↓KA_none, ↓KA_some, beq_int, bne_int, dec_eqN, dec_ltN, dec_leN, stepOp, St.rd, St.raw, St.set, St.took, get_cons, V.down, C.down, Env.keep, binV, unV, arith, isShift, strs, intOf, optInt, wrapEnd, keptAt, andK, endOf, frzV, frz1, frzC, frzCs, frz1s, resOf, resOne, resAll, V.closed, V.closed1, C.closed, B.closed, Ob.closed, V.cells, partsIn, rep, chunk, datas, C.data, rowsOf, getCells, put_nil, put_zero, put_succ, mayWrite, C.plain, eqV_bool, eqV_agg, eqV_pnn, eqV_pnp, eqV_ppn, eqV_mnn, eqV_mmn, eqV_snn, eqV_sen, eqV_san, eqV_sdn, rs_len, rs_getE, rs_app, rs_take, rs_drop, rs_all, rs_each, row_len, str_eq, vagg, row_Int, row_Bool, row_Str, k_Int, k_Bool, k_Str, snoc_Int, snoc_Bool, snoc_Str, row_Type, k_Type, snoc_Type, eta_Type, sames_Type, row_Field, k_Field, snoc_Field, eta_Field, sames_Field, row_Instr, k_Instr, snoc_Instr, eta_Instr, sames_Instr, row_Catch, k_Catch, snoc_Catch, eta_Catch, sames_Catch, row_Method, k_Method, snoc_Method, row_Class, k_Class, snoc_Class, row_Program, k_Program, snoc_Program, row_Slot, k_Slot, snoc_Slot, eta_Slot, sames_Slot, row_State, k_State, snoc_State, row_Val, k_Val, snoc_Val, eta_Val, sames_Val, row_Obj, k_Obj, snoc_Obj, row_Input, k_Input, snoc_Input, row_Frame, k_Frame, snoc_Frame, row_Run, k_Run, snoc_Run, row_Way, k_Way, snoc_Way, eta_Way, sames_Way, row_Task, k_Task, snoc_Task, eta_Task, sames_Task, L, growA]
  | succ n => rw [hn] at L; simp [KF, params, f26v1, ↓K_seq, ↓K_cond, ↓K_block, ↓K_region, ↓K_skip, ↓K_exit, ↓K_ret, ↓K_wrap, ↓KA_nil, ↓KA_none, ↓KA_some, beq_int, bne_int, dec_eqN, dec_ltN, dec_leN, stepOp, St.rd, St.raw, St.set, St.took, get_cons, V.down, C.down, Env.keep, binV, unV, arith, isShift, strs, intOf, optInt, wrapEnd, keptAt, andK, endOf, frzV, frz1, frzC, frzCs, frz1s, resOf, resOne, resAll, V.closed, V.closed1, C.closed, B.closed, Ob.closed, V.cells, partsIn, rep, chunk, datas, C.data, rowsOf, getCells, put_nil, put_zero, put_succ, mayWrite, C.plain, eqV_bool, eqV_agg, eqV_pnn, eqV_pnp, eqV_ppn, eqV_mnn, eqV_mmn, eqV_snn, eqV_sen, eqV_san, eqV_sdn, rs_len, rs_getE, rs_app, rs_take, rs_drop, rs_all, rs_each, row_len, str_eq, vagg, row_Int, row_Bool, row_Str, k_Int, k_Bool, k_Str, snoc_Int, snoc_Bool, snoc_Str, row_Type, k_Type, snoc_Type, eta_Type, sames_Type, row_Field, k_Field, snoc_Field, eta_Field, sames_Field, row_Instr, k_Instr, snoc_Instr, eta_Instr, sames_Instr, row_Catch, k_Catch, snoc_Catch, eta_Catch, sames_Catch, row_Method, k_Method, snoc_Method, row_Class, k_Class, snoc_Class, row_Program, k_Program, snoc_Program, row_Slot, k_Slot, snoc_Slot, eta_Slot, sames_Slot, row_State, k_State, snoc_State, row_Val, k_Val, snoc_Val, eta_Val, sames_Val, row_Obj, k_Obj, snoc_Obj, row_Input, k_Input, snoc_Input, row_Frame, k_Frame, snoc_Frame, row_Run, k_Run, snoc_Run, row_Way, k_Way, snoc_Way, eta_Way, sames_Way, row_Task, k_Task, snoc_Task, eta_Task, sames_Task, L, growA]

theorem fn10v (a : GInput) (hs : a.args.length < 1000000000) (hh : a.heap.length < 1000000000) (ha : ∀ o ∈ a.heap, o.slots.length < 1000000000) (j : Nat) (hj : j + 1 = a.heap.length) (o0 o1 o2 : Ob) :
    Fn fns 4106 [vInput a] [o0, o1, o2] 0 0 = some (.agg [.b (.d (.sl (rows a.args))), .b (.arr 3 (j + 5) 0 (j + 1))],
      [o0, o1, o2, .cells [.b (.d (.sl (rows a.args))), .b (.d (.sl (rows a.heap)))], .cells [.b (.d (.sl (rows a.args))), .b (.arr 3 (j + 5) 0 (j + 1))]] ++ (List.replicate j Ob.dead ++ [.cells (cellsOf a.heap)])) := by
  rw [fn_eq t10v1 rfl rfl]
  have h1 := fn25 a.args hs
  have h2 := fn26v a.heap hh ha [o0, o1, o2, .cells [.b (.d (.sl (rows a.args))), .b (.d (.sl (rows a.heap)))], .cells [.osl 2 [], .osl 3 []]] 0 0 (by simp)
  have e1 : growA 5 a.heap.length = .c (.b (.arr 3 (j + 5) 0 (j + 1))) := by rw [← hj]; simp [growA, Nat.add_comm]
  have e2 : ∀ σ, growS σ a.heap a.heap.length = σ ++ (List.replicate j Ob.dead ++ [.cells (cellsOf a.heap)]) := fun σ => by
    have : a.heap.take (j + 1) = a.heap := List.take_of_length_le (by omega)
    rw [← hj]; simp only [growS, this]
  rw [e2] at h2
  simp only [List.length_cons, List.length_nil, e1] at h2
  simp [KF, params, f10v1, ↓K_seq, ↓K_cond, ↓K_block, ↓K_region, ↓K_skip, ↓K_exit, ↓K_ret, ↓K_wrap, ↓KA_nil, ↓KA_none, ↓KA_some, beq_int, bne_int, dec_eqN, dec_ltN, dec_leN, stepOp, St.rd, St.raw, St.set, St.took, get_cons, V.down, C.down, Env.keep, binV, unV, arith, isShift, strs, intOf, optInt, wrapEnd, keptAt, andK, endOf, frzV, frz1, frzC, frzCs, frz1s, resOf, resOne, resAll, V.closed, V.closed1, C.closed, B.closed, Ob.closed, V.cells, partsIn, rep, chunk, datas, C.data, rowsOf, getCells, put_nil, put_zero, put_succ, mayWrite, C.plain, eqV_bool, eqV_agg, eqV_pnn, eqV_pnp, eqV_ppn, eqV_mnn, eqV_mmn, eqV_snn, eqV_sen, eqV_san, eqV_sdn, rs_len, rs_getE, rs_app, rs_take, rs_drop, rs_all, rs_each, row_len, str_eq, vagg, row_Int, row_Bool, row_Str, k_Int, k_Bool, k_Str, snoc_Int, snoc_Bool, snoc_Str, row_Type, k_Type, snoc_Type, eta_Type, sames_Type, row_Field, k_Field, snoc_Field, eta_Field, sames_Field, row_Instr, k_Instr, snoc_Instr, eta_Instr, sames_Instr, row_Catch, k_Catch, snoc_Catch, eta_Catch, sames_Catch, row_Method, k_Method, snoc_Method, row_Class, k_Class, snoc_Class, row_Program, k_Program, snoc_Program, row_Slot, k_Slot, snoc_Slot, eta_Slot, sames_Slot, row_State, k_State, snoc_State, row_Val, k_Val, snoc_Val, eta_Val, sames_Val, row_Obj, k_Obj, snoc_Obj, row_Input, k_Input, snoc_Input, row_Frame, k_Frame, snoc_Frame, row_Run, k_Run, snoc_Run, row_Way, k_Way, snoc_Way, eta_Way, sames_Way, row_Task, k_Task, snoc_Task, eta_Task, sames_Task, h1, h2]

theorem wrap_ne (x : Int) : ¬ IntKind.i64.wrap (x + 1) = x := by
  simp [IntKind.wrap, IntKind.signed, IntKind.bits]; omega

theorem bfs_congr {h g : List GObj} (hl : g.length = h.length) (hs : ∀ x, slotsAt g x = slotsAt h x) : ∀ (n : Nat) (o : List Int) (t : List GVal), bfs g n o t = bfs h n o t
  | 0, o, t => rfl
  | n + 1, o, [] => rfl
  | n + 1, o, v :: t => by
    have hk : ok g v = ok h v := by simp [ok, hl]
    rw [bfs, bfs, hk, hs, bfs_congr hl hs n, bfs_congr hl hs n]

theorem canon_kind {h : List GObj} {r : List GVal} {i : Nat} (hi : i < h.length) (hm : (i : Int) ∈ order h r) : ¬ canon h r = canon (h.set i ⟨⟨IntKind.i64.wrap (h[i].type_.kind + 1), h[i].type_.name⟩, h[i].slots⟩) r := by
  intro he
  generalize hg : h.set i ⟨⟨IntKind.i64.wrap (h[i].type_.kind + 1), h[i].type_.name⟩, h[i].slots⟩ = g at *
  have hl : g.length = h.length := by rw [← hg]; simp
  have hgi : ∀ j (hj : j < g.length), g[j] = if i = j then ⟨⟨IntKind.i64.wrap (h[i].type_.kind + 1), h[i].type_.name⟩, h[i].slots⟩ else h[j] := by
    intro j hj; subst hg; rw [List.getElem_set]
  have hs : ∀ x, slotsAt g x = slotsAt h x := by
    intro x
    unfold slotsAt
    by_cases hx : x.toNat < h.length
    · have hx' : x.toNat < g.length := by omega
      rw [List.getElem?_eq_getElem hx, List.getElem?_eq_getElem hx', hgi _ hx']
      by_cases e : i = x.toNat
      · subst e; simp
      · rw [if_neg e]
    · rw [List.getElem?_eq_none (by omega), List.getElem?_eq_none (by omega)]
  have ho : order g r = order h r := by
    have hu : fuel g [] r = fuel h [] r := by simp only [fuel, unmet, hl, hs]
    unfold order
    rw [bfs_congr hl hs, hu]
  have h1 := congrArg Prod.fst he
  obtain ⟨k, hk, hk1, hk2⟩ := get_ixOf hm
  have c1 := canon_len h r
  have c2 := canon_len g r
  have c3 : (order g r).length = (order h r).length := by rw [ho]
  have g1 := canon_get (h := h) (r := r) (i := k) (by omega) hk1
  have g2 := canon_get (h := g) (r := r) (i := k) (by omega) (by rw [ho]; exact hk1)
  have e0 : (canon h r).1[k]'(by omega) = (canon g r).1[k]'(by omega) := by simp only [h1]
  rw [g1, g2] at e0
  have e1 := congrArg (fun o => o.type_.kind) e0
  simp only [ho, hk2] at e1
  have hi' : i < g.length := by omega
  have e2 : ((h[((i : Int)).toNat]?).getD default) = h[i] := by simp [hi]
  have e3 : ((g[((i : Int)).toNat]?).getD default) = g[i] := by simp [hi']
  rw [e2, e3, hgi _ hi', if_pos rfl] at e1
  exact wrap_ne _ e1.symm

theorem below' (n : Int) {m : Nat} (h0 : 0 < m) (hm : m < 1000000) : IntKind.u64.wrap (m : Int) = (m : Int) ∧ ¬ ((m : Int) = 0) ∧ ∃ k : Nat, k < m ∧ IntKind.i64.wrap ((IntKind.u64.wrap n).tmod (m : Int)) = (k : Int) := by
  have h0 : 0 ≤ IntKind.u64.wrap n := by simp [IntKind.wrap, IntKind.signed, IntKind.bits]; omega
  have h1 : (IntKind.u64.wrap n).tmod (m : Int) = (IntKind.u64.wrap n) % (m : Int) := Int.tmod_eq_emod_of_nonneg h0
  have h2 : 0 ≤ (IntKind.u64.wrap n) % (m : Int) := Int.emod_nonneg _ (by omega)
  have h3 : (IntKind.u64.wrap n) % (m : Int) < (m : Int) := Int.emod_lt_of_pos _ (by omega)
  refine ⟨?_, by omega, ((IntKind.u64.wrap n) % (m : Int)).toNat, by omega, ?_⟩
  · simp [IntKind.wrap, IntKind.signed, IntKind.bits]; omega
  · rw [h1, wrap_nat (by omega) (by omega)]; omega

theorem frz4 {S : Nat → Bool} {σ : List Ob} {k l off len : Nat} : frzD S σ 4 (.b (.arr k l off len)) = (if S l = true then match getCells σ l with
    | some cs => match chunkF (frzD S σ 3) k len (cs.drop off) with
      | some rows => some (.sl rows)
      | none => none
    | none => none
  else none) := rfl
theorem arrs4 {σ : List Ob} {k l off len : Nat} : arrsOf σ 4 (.b (.arr k l off len)) = l :: (match getCells σ l with
  | some cs => cs.flatMap (arrsOf σ 3)
  | none => []) := rfl

theorem end_get0 (j : Nat) (x y : Ob) : (List.replicate j Ob.dead ++ [x, y])[j]? = some x := by
  rw [List.getElem?_append_right (by simp)]; simp
theorem end_get1 (j : Nat) (x y : Ob) : (List.replicate j Ob.dead ++ [x, y])[j + 1]? = some y := by
  rw [List.getElem?_append_right (by simp)]; simp
theorem end_set0 (j : Nat) (x y z : Ob) : (List.replicate j Ob.dead ++ [x, y]).set j z = List.replicate j Ob.dead ++ [z, y] := by
  rw [List.set_append_right _ _ (by simp)]; simp
theorem end_set1 (j : Nat) (x y z : Ob) : (List.replicate j Ob.dead ++ [x, y]).set (j + 1) z = List.replicate j Ob.dead ++ [x, z] := by
  rw [List.set_append_right _ _ (by simp)]; simp

theorem not_heavy {x y z : Bool} (h : ¬ (x || y || z) = true) : x = false ∧ y = false ∧ z = false := by cases x <;> cases y <;> cases z <;> simp_all

set_option maxRecDepth 100000 in
set_option maxHeartbeats 8000000 in
theorem fn6 (a b c : GInput) (at_ : Int) (σ : List Ob) (lo tr : Nat) : Fn fns 6 [vInput a, vInput b, vInput c, vint at_] σ lo tr = some (vbool true, σ) := by
  refine fn_gen t6 rfl (σ1 := []) rfl rfl ?_ σ lo tr
  have ha9 := fn9 a
  have hb9 := fn9 b
  have hc9 := fn9 c
  by_cases hv : (heavy a || heavy b || heavy c) = true
  · cases h1 : heavy a with
    | true => rw [h1] at ha9; simp [KF, params, f6, ↓K_seq, ↓K_cond, ↓K_block, ↓K_region, ↓K_skip, ↓K_exit, ↓K_ret, ↓K_wrap, ↓KA_nil, ↓KA_none, ↓KA_some, beq_int, bne_int, dec_eqN, dec_ltN, dec_leN, stepOp, St.rd, St.raw, St.set, St.took, get_cons, V.down, C.down, Env.keep, binV, unV, arith, isShift, strs, intOf, optInt, wrapEnd, keptAt, andK, endOf, frzV, frz1, frzC, frzCs, frz1s, resOf, resOne, resAll, V.closed, V.closed1, C.closed, B.closed, Ob.closed, V.cells, partsIn, rep, chunk, datas, C.data, rowsOf, getCells, put_nil, put_zero, put_succ, mayWrite, C.plain, eqV_bool, eqV_agg, eqV_pnn, eqV_pnp, eqV_ppn, eqV_mnn, eqV_mmn, eqV_snn, eqV_sen, eqV_san, eqV_sdn, rs_len, rs_getE, rs_app, rs_take, rs_drop, rs_all, rs_each, row_len, str_eq, vagg, row_Int, row_Bool, row_Str, k_Int, k_Bool, k_Str, snoc_Int, snoc_Bool, snoc_Str, row_Type, k_Type, snoc_Type, eta_Type, sames_Type, row_Field, k_Field, snoc_Field, eta_Field, sames_Field, row_Instr, k_Instr, snoc_Instr, eta_Instr, sames_Instr, row_Catch, k_Catch, snoc_Catch, eta_Catch, sames_Catch, row_Method, k_Method, snoc_Method, row_Class, k_Class, snoc_Class, row_Program, k_Program, snoc_Program, row_Slot, k_Slot, snoc_Slot, eta_Slot, sames_Slot, row_State, k_State, snoc_State, row_Val, k_Val, snoc_Val, eta_Val, sames_Val, row_Obj, k_Obj, snoc_Obj, row_Input, k_Input, snoc_Input, row_Frame, k_Frame, snoc_Frame, row_Run, k_Run, snoc_Run, row_Way, k_Way, snoc_Way, eta_Way, sames_Way, row_Task, k_Task, snoc_Task, eta_Task, sames_Task, ha9]
    | false =>
      rw [h1] at ha9
      cases h2 : heavy b with
      | true => rw [h2] at hb9; simp [KF, params, f6, ↓K_seq, ↓K_cond, ↓K_block, ↓K_region, ↓K_skip, ↓K_exit, ↓K_ret, ↓K_wrap, ↓KA_nil, ↓KA_none, ↓KA_some, beq_int, bne_int, dec_eqN, dec_ltN, dec_leN, stepOp, St.rd, St.raw, St.set, St.took, get_cons, V.down, C.down, Env.keep, binV, unV, arith, isShift, strs, intOf, optInt, wrapEnd, keptAt, andK, endOf, frzV, frz1, frzC, frzCs, frz1s, resOf, resOne, resAll, V.closed, V.closed1, C.closed, B.closed, Ob.closed, V.cells, partsIn, rep, chunk, datas, C.data, rowsOf, getCells, put_nil, put_zero, put_succ, mayWrite, C.plain, eqV_bool, eqV_agg, eqV_pnn, eqV_pnp, eqV_ppn, eqV_mnn, eqV_mmn, eqV_snn, eqV_sen, eqV_san, eqV_sdn, rs_len, rs_getE, rs_app, rs_take, rs_drop, rs_all, rs_each, row_len, str_eq, vagg, row_Int, row_Bool, row_Str, k_Int, k_Bool, k_Str, snoc_Int, snoc_Bool, snoc_Str, row_Type, k_Type, snoc_Type, eta_Type, sames_Type, row_Field, k_Field, snoc_Field, eta_Field, sames_Field, row_Instr, k_Instr, snoc_Instr, eta_Instr, sames_Instr, row_Catch, k_Catch, snoc_Catch, eta_Catch, sames_Catch, row_Method, k_Method, snoc_Method, row_Class, k_Class, snoc_Class, row_Program, k_Program, snoc_Program, row_Slot, k_Slot, snoc_Slot, eta_Slot, sames_Slot, row_State, k_State, snoc_State, row_Val, k_Val, snoc_Val, eta_Val, sames_Val, row_Obj, k_Obj, snoc_Obj, row_Input, k_Input, snoc_Input, row_Frame, k_Frame, snoc_Frame, row_Run, k_Run, snoc_Run, row_Way, k_Way, snoc_Way, eta_Way, sames_Way, row_Task, k_Task, snoc_Task, eta_Task, sames_Task, ha9, hb9]
      | false =>
        rw [h2] at hb9
        have h3 : heavy c = true := by simpa [h1, h2] using hv
        rw [h3] at hc9
        simp [KF, params, f6, ↓K_seq, ↓K_cond, ↓K_block, ↓K_region, ↓K_skip, ↓K_exit, ↓K_ret, ↓K_wrap, ↓KA_nil, ↓KA_none, ↓KA_some, beq_int, bne_int, dec_eqN, dec_ltN, dec_leN, stepOp, St.rd, St.raw, St.set, St.took, get_cons, V.down, C.down, Env.keep, binV, unV, arith, isShift, strs, intOf, optInt, wrapEnd, keptAt, andK, endOf, frzV, frz1, frzC, frzCs, frz1s, resOf, resOne, resAll, V.closed, V.closed1, C.closed, B.closed, Ob.closed, V.cells, partsIn, rep, chunk, datas, C.data, rowsOf, getCells, put_nil, put_zero, put_succ, mayWrite, C.plain, eqV_bool, eqV_agg, eqV_pnn, eqV_pnp, eqV_ppn, eqV_mnn, eqV_mmn, eqV_snn, eqV_sen, eqV_san, eqV_sdn, rs_len, rs_getE, rs_app, rs_take, rs_drop, rs_all, rs_each, row_len, str_eq, vagg, row_Int, row_Bool, row_Str, k_Int, k_Bool, k_Str, snoc_Int, snoc_Bool, snoc_Str, row_Type, k_Type, snoc_Type, eta_Type, sames_Type, row_Field, k_Field, snoc_Field, eta_Field, sames_Field, row_Instr, k_Instr, snoc_Instr, eta_Instr, sames_Instr, row_Catch, k_Catch, snoc_Catch, eta_Catch, sames_Catch, row_Method, k_Method, snoc_Method, row_Class, k_Class, snoc_Class, row_Program, k_Program, snoc_Program, row_Slot, k_Slot, snoc_Slot, eta_Slot, sames_Slot, row_State, k_State, snoc_State, row_Val, k_Val, snoc_Val, eta_Val, sames_Val, row_Obj, k_Obj, snoc_Obj, row_Input, k_Input, snoc_Input, row_Frame, k_Frame, snoc_Frame, row_Run, k_Run, snoc_Run, row_Way, k_Way, snoc_Way, eta_Way, sames_Way, row_Task, k_Task, snoc_Task, eta_Task, sames_Task, ha9, hb9, hc9]
  · obtain ⟨va, vb, vc⟩ := not_heavy hv
    rw [va] at ha9; rw [vb] at hb9; rw [vc] at hc9
    have la := light va; have lb := light vb; have lc := light vc
    have ha := la.args; have hb := lb.args; have hc := lc.args
    have Ha := la.small (r := a.args) (by omega)
    have Hb := lb.small (r := b.args) (by omega)
    have Hc := lc.small (r := c.args) (by omega)
    have sab := fn13 Ha Hb
    have sbc := fn13 Hb Hc
    have sba := fn13 Hb Ha
    have sac := fn13 Ha Hc
    have saa := fn13 Ha Ha
    have eba : decide (canon b.heap b.args = canon a.heap a.args) = decide (canon a.heap a.args = canon b.heap b.args) := by
      by_cases h : canon a.heap a.args = canon b.heap b.args
      · rw [decide_eq_true h, decide_eq_true h.symm]
      · rw [decide_eq_false h, decide_eq_false (fun h' => h h'.symm)]
    rw [eba] at sba
    rw [decide_eq_true rfl] at saa
    have hac : decide (canon a.heap a.args = canon b.heap b.args) = true → decide (canon b.heap b.args = canon c.heap c.args) = true → decide (canon a.heap a.args = canon c.heap c.args) = true := by
      simp only [decide_eq_true_eq]
      exact fun h1 h2 => h1.trans h2
    have o1 := fn15 Ha
    have hol := order_len Ha
    have hin := order_in a.heap a.args
    have hw21 := fn21
    have tail : ∀ (x y : Bool), (∀ σ lo tr, Fn fns 13 [vsl a.heap, vsl a.args, vsl b.heap, vsl b.args] σ lo tr = some (vbool x, σ)) → (∀ σ lo tr, Fn fns 13 [vsl b.heap, vsl b.args, vsl a.heap, vsl a.args] σ lo tr = some (vbool x, σ)) →
        (∀ σ lo tr, Fn fns 13 [vsl b.heap, vsl b.args, vsl c.heap, vsl c.args] σ lo tr = some (vbool y, σ)) →
        (x = true → y = true → ∀ σ lo tr, Fn fns 13 [vsl a.heap, vsl a.args, vsl c.heap, vsl c.args] σ lo tr = some (vbool true, σ)) →
        KF fns .pure f6 [vInput a, vInput b, vInput c, vint at_] [] 0 0 = some (vbool true, []) := by
      intro x y sab sba sbc sac
      by_cases hz : order a.heap a.args = []
      · rw [hz] at o1
        simp only [vsl, rs_nil] at o1
        cases x
        · simp [KF, params, f6, ↓K_seq, ↓K_cond, ↓K_block, ↓K_region, ↓K_skip, ↓K_exit, ↓K_ret, ↓K_wrap, ↓KA_nil, ↓KA_none, ↓KA_some, beq_int, bne_int, dec_eqN, dec_ltN, dec_leN, stepOp, St.rd, St.raw, St.set, St.took, get_cons, V.down, C.down, Env.keep, binV, unV, arith, isShift, strs, intOf, optInt, wrapEnd, keptAt, andK, endOf, frzV, frz1, frzC, frzCs, frz1s, resOf, resOne, resAll, V.closed, V.closed1, C.closed, B.closed, Ob.closed, V.cells, partsIn, rep, chunk, datas, C.data, rowsOf, getCells, put_nil, put_zero, put_succ, mayWrite, C.plain, eqV_bool, eqV_agg, eqV_pnn, eqV_pnp, eqV_ppn, eqV_mnn, eqV_mmn, eqV_snn, eqV_sen, eqV_san, eqV_sdn, rs_len, rs_getE, rs_app, rs_take, rs_drop, rs_all, rs_each, row_len, str_eq, vagg, row_Int, row_Bool, row_Str, k_Int, k_Bool, k_Str, snoc_Int, snoc_Bool, snoc_Str, row_Type, k_Type, snoc_Type, eta_Type, sames_Type, row_Field, k_Field, snoc_Field, eta_Field, sames_Field, row_Instr, k_Instr, snoc_Instr, eta_Instr, sames_Instr, row_Catch, k_Catch, snoc_Catch, eta_Catch, sames_Catch, row_Method, k_Method, snoc_Method, row_Class, k_Class, snoc_Class, row_Program, k_Program, snoc_Program, row_Slot, k_Slot, snoc_Slot, eta_Slot, sames_Slot, row_State, k_State, snoc_State, row_Val, k_Val, snoc_Val, eta_Val, sames_Val, row_Obj, k_Obj, snoc_Obj, row_Input, k_Input, snoc_Input, row_Frame, k_Frame, snoc_Frame, row_Run, k_Run, snoc_Run, row_Way, k_Way, snoc_Way, eta_Way, sames_Way, row_Task, k_Task, snoc_Task, eta_Task, sames_Task, ha9, hb9, hc9, sab, sba, sbc, saa, o1, hw21]
        · cases y
          · simp [KF, params, f6, ↓K_seq, ↓K_cond, ↓K_block, ↓K_region, ↓K_skip, ↓K_exit, ↓K_ret, ↓K_wrap, ↓KA_nil, ↓KA_none, ↓KA_some, beq_int, bne_int, dec_eqN, dec_ltN, dec_leN, stepOp, St.rd, St.raw, St.set, St.took, get_cons, V.down, C.down, Env.keep, binV, unV, arith, isShift, strs, intOf, optInt, wrapEnd, keptAt, andK, endOf, frzV, frz1, frzC, frzCs, frz1s, resOf, resOne, resAll, V.closed, V.closed1, C.closed, B.closed, Ob.closed, V.cells, partsIn, rep, chunk, datas, C.data, rowsOf, getCells, put_nil, put_zero, put_succ, mayWrite, C.plain, eqV_bool, eqV_agg, eqV_pnn, eqV_pnp, eqV_ppn, eqV_mnn, eqV_mmn, eqV_snn, eqV_sen, eqV_san, eqV_sdn, rs_len, rs_getE, rs_app, rs_take, rs_drop, rs_all, rs_each, row_len, str_eq, vagg, row_Int, row_Bool, row_Str, k_Int, k_Bool, k_Str, snoc_Int, snoc_Bool, snoc_Str, row_Type, k_Type, snoc_Type, eta_Type, sames_Type, row_Field, k_Field, snoc_Field, eta_Field, sames_Field, row_Instr, k_Instr, snoc_Instr, eta_Instr, sames_Instr, row_Catch, k_Catch, snoc_Catch, eta_Catch, sames_Catch, row_Method, k_Method, snoc_Method, row_Class, k_Class, snoc_Class, row_Program, k_Program, snoc_Program, row_Slot, k_Slot, snoc_Slot, eta_Slot, sames_Slot, row_State, k_State, snoc_State, row_Val, k_Val, snoc_Val, eta_Val, sames_Val, row_Obj, k_Obj, snoc_Obj, row_Input, k_Input, snoc_Input, row_Frame, k_Frame, snoc_Frame, row_Run, k_Run, snoc_Run, row_Way, k_Way, snoc_Way, eta_Way, sames_Way, row_Task, k_Task, snoc_Task, eta_Task, sames_Task, ha9, hb9, hc9, sab, sba, sbc, saa, o1, hw21]
          · have sac := sac rfl rfl
            simp [KF, params, f6, ↓K_seq, ↓K_cond, ↓K_block, ↓K_region, ↓K_skip, ↓K_exit, ↓K_ret, ↓K_wrap, ↓KA_nil, ↓KA_none, ↓KA_some, beq_int, bne_int, dec_eqN, dec_ltN, dec_leN, stepOp, St.rd, St.raw, St.set, St.took, get_cons, V.down, C.down, Env.keep, binV, unV, arith, isShift, strs, intOf, optInt, wrapEnd, keptAt, andK, endOf, frzV, frz1, frzC, frzCs, frz1s, resOf, resOne, resAll, V.closed, V.closed1, C.closed, B.closed, Ob.closed, V.cells, partsIn, rep, chunk, datas, C.data, rowsOf, getCells, put_nil, put_zero, put_succ, mayWrite, C.plain, eqV_bool, eqV_agg, eqV_pnn, eqV_pnp, eqV_ppn, eqV_mnn, eqV_mmn, eqV_snn, eqV_sen, eqV_san, eqV_sdn, rs_len, rs_getE, rs_app, rs_take, rs_drop, rs_all, rs_each, row_len, str_eq, vagg, row_Int, row_Bool, row_Str, k_Int, k_Bool, k_Str, snoc_Int, snoc_Bool, snoc_Str, row_Type, k_Type, snoc_Type, eta_Type, sames_Type, row_Field, k_Field, snoc_Field, eta_Field, sames_Field, row_Instr, k_Instr, snoc_Instr, eta_Instr, sames_Instr, row_Catch, k_Catch, snoc_Catch, eta_Catch, sames_Catch, row_Method, k_Method, snoc_Method, row_Class, k_Class, snoc_Class, row_Program, k_Program, snoc_Program, row_Slot, k_Slot, snoc_Slot, eta_Slot, sames_Slot, row_State, k_State, snoc_State, row_Val, k_Val, snoc_Val, eta_Val, sames_Val, row_Obj, k_Obj, snoc_Obj, row_Input, k_Input, snoc_Input, row_Frame, k_Frame, snoc_Frame, row_Run, k_Run, snoc_Run, row_Way, k_Way, snoc_Way, eta_Way, sames_Way, row_Task, k_Task, snoc_Task, eta_Task, sames_Task, ha9, hb9, hc9, sab, sba, sbc, sac, saa, o1, hw21]
      · have hpos : 0 < (order a.heap a.args).length := List.length_pos_iff.mpr hz
        have hle := len_le (order_nodup a.heap a.args) hin
        have hhl := la.heap
        obtain ⟨b1, b2, m, hm, b3⟩ := below' at_ hpos (by omega)
        obtain ⟨i, hi⟩ : ∃ i : Nat, (order a.heap a.args)[m] = i := ⟨(order a.heap a.args)[m].toNat, by have := hin _ (List.getElem_mem hm); omega⟩
        have hil : i < a.heap.length := by have := hin _ (List.getElem_mem hm); omega
        have hmem : (i : Int) ∈ order a.heap a.args := by rw [← hi]; exact List.getElem_mem hm
        have hck := canon_kind hil hmem
        have Hz : Small (a.heap.set i ⟨⟨IntKind.i64.wrap (a.heap[i].type_.kind + 1), a.heap[i].type_.name⟩, a.heap[i].slots⟩) a.args := Small.of (by simp; omega) (fun o ho => by
          rcases List.mem_or_eq_of_mem_set ho with ho | rfl
          · have := la.slots o ho; omega
          · have := la.slots _ (List.getElem_mem hil); simp only; omega) (by omega)
        have saz := fn13 Ha Hz
        rw [decide_eq_false hck] at saz
        obtain ⟨j, hj⟩ : ∃ j, j + 1 = a.heap.length := ⟨a.heap.length - 1, by omega⟩
        have h10 := fn10v a (by omega) (by omega) (fun o ho => by have := la.slots o ho; omega) j hj
        have hi0 : ¬ ((i : Int) < 0) := by omega
        have hij : ¬ (j + 1 ≤ i) := by omega
        have hij' : i < j + 1 := by omega
        have hkind : (cellsOf a.heap)[i * 3]? = some (.b (.d (.int .i64 a.heap[i].type_.kind))) := by
          have := cl_get k_Obj hil (j := 0) (by omega)
          simpa [row_Obj, box1] using this
        have hput : putAt (cellsOf a.heap) (i * 3) [.b (.d (.int .i64 (IntKind.i64.wrap (a.heap[i].type_.kind + 1))))] = some (cellsOf (a.heap.set i ⟨⟨IntKind.i64.wrap (a.heap[i].type_.kind + 1), a.heap[i].type_.name⟩, a.heap[i].slots⟩)) := by
          have := cl_put k_Obj hil (j := 0) (v := ⟨⟨IntKind.i64.wrap (a.heap[i].type_.kind + 1), a.heap[i].type_.name⟩, a.heap[i].slots⟩) (ds := [.int .i64 (IntKind.i64.wrap (a.heap[i].type_.kind + 1))]) (by simp) (by simp [row_Obj])
          simpa [box1] using this
        have hch : ∀ (S : Nat → Bool) (σ : List Ob), chunkF (frzD S σ 3) 3 (j + 1) (cellsOf (a.heap.set i ⟨⟨IntKind.i64.wrap (a.heap[i].type_.kind + 1), a.heap[i].type_.name⟩, a.heap[i].slots⟩)) = some (rows (a.heap.set i ⟨⟨IntKind.i64.wrap (a.heap[i].type_.kind + 1), a.heap[i].type_.name⟩, a.heap[i].slots⟩)) := fun S σ => by
          have := chunkF_cl (S := S) (σ := σ) (f := 2) k_Obj (a.heap.set i ⟨⟨IntKind.i64.wrap (a.heap[i].type_.kind + 1), a.heap[i].type_.name⟩, a.heap[i].slots⟩)
          rw [List.length_set, ← hj] at this
          exact this
        have har : ∀ (σ : List Ob), (cellsOf (a.heap.set i ⟨⟨IntKind.i64.wrap (a.heap[i].type_.kind + 1), a.heap[i].type_.name⟩, a.heap[i].slots⟩)).flatMap (arrsOf σ 3) = [] := fun σ => arrs_cl _
        have hne : ¬ (order a.heap a.args).length = 0 := by omega
        generalize a.heap.set i ⟨⟨IntKind.i64.wrap (a.heap[i].type_.kind + 1), a.heap[i].type_.name⟩, a.heap[i].slots⟩ = z at *
        have hij1 : ¬ ((j : Int) + 1 ≤ (i : Int)) := by omega
        have hij2 : (i : Int) < (j : Int) + 1 := by omega
        cases x
        · simp [KF, params, f6, ↓K_seq, ↓K_cond, ↓K_block, ↓K_region, ↓K_skip, ↓K_exit, ↓K_ret, ↓K_wrap, ↓KA_nil, ↓KA_none, ↓KA_some, beq_int, bne_int, dec_eqN, dec_ltN, dec_leN, stepOp, St.rd, St.raw, St.set, St.took, get_cons, V.down, C.down, Env.keep, binV, unV, arith, isShift, strs, intOf, optInt, wrapEnd, keptAt, andK, endOf, frzV, frz1, frzC, frzCs, frz1s, resOf, resOne, resAll, V.closed, V.closed1, C.closed, B.closed, Ob.closed, V.cells, partsIn, rep, chunk, datas, C.data, rowsOf, getCells, put_nil, put_zero, put_succ, mayWrite, C.plain, eqV_bool, eqV_agg, eqV_pnn, eqV_pnp, eqV_ppn, eqV_mnn, eqV_mmn, eqV_snn, eqV_sen, eqV_san, eqV_sdn, rs_len, rs_getE, rs_app, rs_take, rs_drop, rs_all, rs_each, row_len, str_eq, vagg, row_Int, row_Bool, row_Str, k_Int, k_Bool, k_Str, snoc_Int, snoc_Bool, snoc_Str, row_Type, k_Type, snoc_Type, eta_Type, sames_Type, row_Field, k_Field, snoc_Field, eta_Field, sames_Field, row_Instr, k_Instr, snoc_Instr, eta_Instr, sames_Instr, row_Catch, k_Catch, snoc_Catch, eta_Catch, sames_Catch, row_Method, k_Method, snoc_Method, row_Class, k_Class, snoc_Class, row_Program, k_Program, snoc_Program, row_Slot, k_Slot, snoc_Slot, eta_Slot, sames_Slot, row_State, k_State, snoc_State, row_Val, k_Val, snoc_Val, eta_Val, sames_Val, row_Obj, k_Obj, snoc_Obj, row_Input, k_Input, snoc_Input, row_Frame, k_Frame, snoc_Frame, row_Run, k_Run, snoc_Run, row_Way, k_Way, snoc_Way, eta_Way, sames_Way, row_Task, k_Task, snoc_Task, eta_Task, sames_Task, ha9, hb9, hc9, sab, sba, sbc, saa, o1, hw21, hne, h10, b1, b2, b3, hm, hi, hi0, hij, hij', hij1, hij2, end_get0, end_get1, end_set0, end_set1, hkind, hput, frz4, arrs4, hch, har, killAll, saz]
        · cases y
          · simp [KF, params, f6, ↓K_seq, ↓K_cond, ↓K_block, ↓K_region, ↓K_skip, ↓K_exit, ↓K_ret, ↓K_wrap, ↓KA_nil, ↓KA_none, ↓KA_some, beq_int, bne_int, dec_eqN, dec_ltN, dec_leN, stepOp, St.rd, St.raw, St.set, St.took, get_cons, V.down, C.down, Env.keep, binV, unV, arith, isShift, strs, intOf, optInt, wrapEnd, keptAt, andK, endOf, frzV, frz1, frzC, frzCs, frz1s, resOf, resOne, resAll, V.closed, V.closed1, C.closed, B.closed, Ob.closed, V.cells, partsIn, rep, chunk, datas, C.data, rowsOf, getCells, put_nil, put_zero, put_succ, mayWrite, C.plain, eqV_bool, eqV_agg, eqV_pnn, eqV_pnp, eqV_ppn, eqV_mnn, eqV_mmn, eqV_snn, eqV_sen, eqV_san, eqV_sdn, rs_len, rs_getE, rs_app, rs_take, rs_drop, rs_all, rs_each, row_len, str_eq, vagg, row_Int, row_Bool, row_Str, k_Int, k_Bool, k_Str, snoc_Int, snoc_Bool, snoc_Str, row_Type, k_Type, snoc_Type, eta_Type, sames_Type, row_Field, k_Field, snoc_Field, eta_Field, sames_Field, row_Instr, k_Instr, snoc_Instr, eta_Instr, sames_Instr, row_Catch, k_Catch, snoc_Catch, eta_Catch, sames_Catch, row_Method, k_Method, snoc_Method, row_Class, k_Class, snoc_Class, row_Program, k_Program, snoc_Program, row_Slot, k_Slot, snoc_Slot, eta_Slot, sames_Slot, row_State, k_State, snoc_State, row_Val, k_Val, snoc_Val, eta_Val, sames_Val, row_Obj, k_Obj, snoc_Obj, row_Input, k_Input, snoc_Input, row_Frame, k_Frame, snoc_Frame, row_Run, k_Run, snoc_Run, row_Way, k_Way, snoc_Way, eta_Way, sames_Way, row_Task, k_Task, snoc_Task, eta_Task, sames_Task, ha9, hb9, hc9, sab, sba, sbc, saa, o1, hw21, hne, h10, b1, b2, b3, hm, hi, hi0, hij, hij', hij1, hij2, end_get0, end_get1, end_set0, end_set1, hkind, hput, frz4, arrs4, hch, har, killAll, saz]
          · have sac := sac rfl rfl
            simp [KF, params, f6, ↓K_seq, ↓K_cond, ↓K_block, ↓K_region, ↓K_skip, ↓K_exit, ↓K_ret, ↓K_wrap, ↓KA_nil, ↓KA_none, ↓KA_some, beq_int, bne_int, dec_eqN, dec_ltN, dec_leN, stepOp, St.rd, St.raw, St.set, St.took, get_cons, V.down, C.down, Env.keep, binV, unV, arith, isShift, strs, intOf, optInt, wrapEnd, keptAt, andK, endOf, frzV, frz1, frzC, frzCs, frz1s, resOf, resOne, resAll, V.closed, V.closed1, C.closed, B.closed, Ob.closed, V.cells, partsIn, rep, chunk, datas, C.data, rowsOf, getCells, put_nil, put_zero, put_succ, mayWrite, C.plain, eqV_bool, eqV_agg, eqV_pnn, eqV_pnp, eqV_ppn, eqV_mnn, eqV_mmn, eqV_snn, eqV_sen, eqV_san, eqV_sdn, rs_len, rs_getE, rs_app, rs_take, rs_drop, rs_all, rs_each, row_len, str_eq, vagg, row_Int, row_Bool, row_Str, k_Int, k_Bool, k_Str, snoc_Int, snoc_Bool, snoc_Str, row_Type, k_Type, snoc_Type, eta_Type, sames_Type, row_Field, k_Field, snoc_Field, eta_Field, sames_Field, row_Instr, k_Instr, snoc_Instr, eta_Instr, sames_Instr, row_Catch, k_Catch, snoc_Catch, eta_Catch, sames_Catch, row_Method, k_Method, snoc_Method, row_Class, k_Class, snoc_Class, row_Program, k_Program, snoc_Program, row_Slot, k_Slot, snoc_Slot, eta_Slot, sames_Slot, row_State, k_State, snoc_State, row_Val, k_Val, snoc_Val, eta_Val, sames_Val, row_Obj, k_Obj, snoc_Obj, row_Input, k_Input, snoc_Input, row_Frame, k_Frame, snoc_Frame, row_Run, k_Run, snoc_Run, row_Way, k_Way, snoc_Way, eta_Way, sames_Way, row_Task, k_Task, snoc_Task, eta_Task, sames_Task, ha9, hb9, hc9, sab, sba, sbc, saa, o1, hw21, hne, h10, b1, b2, b3, hm, hi, hi0, hij, hij', hij1, hij2, end_get0, end_get1, end_set0, end_set1, hkind, hput, frz4, arrs4, hch, har, killAll, saz, sac]
    refine tail _ _ sab sba sbc (fun hx hy => ?_)
    rw [hac hx hy] at sac
    exact sac
end Go.Proofs.Ytjkhkblabhaimaa.Am
