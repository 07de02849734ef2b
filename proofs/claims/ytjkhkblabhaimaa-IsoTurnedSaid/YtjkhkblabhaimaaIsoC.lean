/- What is met, in its order: iso.met, moved, Canon, Order, Same. -/
import Derived.Test.YtjkhkblabhaimaaIsoB
namespace Go.Proofs.Ytjkhkblabhaimaa.Am
set_option linter.unusedSimpArgs false
set_option linter.unusedVariables false
open Go

/-- The place of a number in a list; -1: none. -/
def ixOf (o : List Int) (n : Int) : Int := if n ∈ o then (o.idxOf n : Nat) else -1

theorem ixOf_mem {o : List Int} {n : Int} (h : n ∈ o) : ixOf o n = (o.idxOf n : Nat) := by simp [ixOf, h]
theorem ixOf_not {o : List Int} {n : Int} (h : n ∉ o) : ixOf o n = -1 := by simp [ixOf, h]
theorem ixOf_nonneg {o : List Int} {n : Int} : 0 ≤ ixOf o n ↔ n ∈ o := by
  by_cases h : n ∈ o
  · simp [ixOf, h]
  · simp [ixOf, h]
theorem ixOf_snoc {o : List Int} {n m : Int} (h : m ∉ o) : ixOf (o ++ [m]) n = if n = m then (o.length : Int) else ixOf o n := by
  unfold ixOf
  by_cases h1 : n ∈ o
  · have h2 : n ≠ m := by rintro rfl; exact h h1
    simp [h1, h2, List.idxOf_append]
  · by_cases h2 : n = m
    · subst h2; simp [h, List.idxOf_append]
    · simp [h1, h2]

/-- Of each object its place. -/
def placeOf (n : Nat) (o : List Int) : List Int := (List.range n).map fun j => ixOf o (j : Nat)
theorem placeOf_len (n : Nat) (o : List Int) : (placeOf n o).length = n := by simp [placeOf]
theorem placeOf_get {n : Nat} {o : List Int} {j : Nat} (h : j < (placeOf n o).length) : (placeOf n o)[j] = ixOf o (j : Nat) := by simp [placeOf]
theorem placeOf_set {n : Nat} {o : List Int} {k : Nat} (hk : k < n) (h : (k : Int) ∉ o) : (placeOf n o).set k (o.length : Int) = placeOf n (o ++ [(k : Int)]) := by
  apply List.ext_getElem (by simp [placeOf])
  intro i h1 h2
  rw [List.getElem_set, placeOf_get, placeOf_get, ixOf_snoc h]
  by_cases e : k = i
  · subst e; simp
  · rw [if_neg e, if_neg (by omega)]

def ok (h : List GObj) (v : GVal) : Bool := v.isRef && decide (0 ≤ v.n) && decide (v.n < h.length)
def slotsAt (h : List GObj) (n : Int) : List GVal := ((h[n.toNat]?).map GObj.slots).getD []

/-- The rounds of a search. -/
def bfs (h : List GObj) : Nat → List Int → List GVal → List Int
  | 0, o, _ => o
  | _ + 1, o, [] => o
  | n + 1, o, v :: t => if ok h v = true ∧ v.n ∉ o then bfs h n (o ++ [v.n]) (t ++ slotsAt h v.n) else bfs h n o t

/-- What the unmet ones' slots come to. -/
def unmet (h : List GObj) (o : List Int) : Nat := ((List.range h.length).map fun j => if ((j : Nat) : Int) ∈ o then 0 else (slotsAt h (j : Nat)).length).sum

theorem unmet_snoc {h : List GObj} {o : List Int} {k : Nat} (hk : k < h.length) (hn : (k : Int) ∉ o) : unmet h (o ++ [(k : Int)]) + (slotsAt h k).length = unmet h o := by
  unfold unmet
  have key : ∀ n, (((List.range n).map fun j => if ((j : Nat) : Int) ∈ o ++ [(k : Int)] then 0 else (slotsAt h (j : Nat)).length).sum) + (if k < n then (slotsAt h k).length else 0) = ((List.range n).map fun j => if ((j : Nat) : Int) ∈ o then 0 else (slotsAt h (j : Nat)).length).sum := by
    intro n
    induction n with
    | zero => simp
    | succ n ih =>
      rw [List.range_succ, List.map_append, List.map_append, List.sum_append_nat, List.sum_append_nat, ← ih]
      by_cases h1 : n = k
      · subst h1
        simp [hn]
      · have h2 : ¬ ((n : Int) = k) := by omega
        by_cases h3 : k < n
        · have : k < n + 1 := by omega
          simp [h2, h3, this]; omega
        · have : ¬ k < n + 1 := by omega
          simp [h2, h3, this]
  have := key h.length
  rw [if_pos hk] at this
  exact this

/-- What fuel there must be. -/
def fuel (h : List GObj) (o : List Int) (t : List GVal) : Nat := t.length + unmet h o + 1

/-- The objects that are met, in order. -/
def order (h : List GObj) (roots : List GVal) : List Int := bfs h (fuel h [] roots) [] roots

theorem ok_nat {h : List GObj} {v : GVal} (hv : ok h v = true) : ∃ k : Nat, v = ⟨true, k⟩ ∧ k < h.length := by
  obtain ⟨r, n⟩ := v
  simp only [ok, Bool.and_eq_true, decide_eq_true_eq] at hv
  obtain ⟨⟨rfl, h1⟩, h2⟩ := hv
  exact ⟨n.toNat, by congr 1; omega, by omega⟩

theorem slotsAt_nat {h : List GObj} {k : Nat} (hk : k < h.length) : slotsAt h k = h[k].slots := by simp [slotsAt, hk]

/-- The rounds end by themselves. -/
theorem bfs_step {h : List GObj} {o : List Int} {v : GVal} {t : List GVal} : bfs h (fuel h o (v :: t)) o (v :: t) = if ok h v = true ∧ v.n ∉ o then bfs h (fuel h (o ++ [v.n]) (t ++ slotsAt h v.n)) (o ++ [v.n]) (t ++ slotsAt h v.n) else bfs h (fuel h o t) o t := by
  have e : fuel h o (v :: t) = fuel h o t + 1 := by simp only [fuel, List.length_cons]; omega
  rw [e, bfs]
  split
  · rename_i hc
    obtain ⟨k, rfl, hk⟩ := ok_nat hc.1
    have := unmet_snoc hk hc.2
    congr 1
    simp only [fuel, List.length_append] at this ⊢
    omega
  · rfl
theorem bfs_end {h : List GObj} {o : List Int} : bfs h (fuel h o []) o [] = o := by
  simp [fuel, bfs]

-- met

/-- The bounds within which the laws play. -/
structure Small (h : List GObj) (roots : List GVal) : Prop where
  len : h.length ≤ 40
  slots : ∀ o ∈ h, o.slots.length < 1000000
  roots : roots.length < 1000000
  all : unmet h [] < 100000000

theorem loop27 {h : List GObj} (hh : h.length ≤ 40) {bd : Bd} (hb : bd = ⟨0, 0⟩) {β : Type} {k : AExit → St → Option β} : ∀ (n : Nat) (o : List Int) (t : List GVal), fuel h o t = n → fuel h o t + o.length < 1000000000 →
    K fns bd f27_l0 ⟨[(0, vsl h), (4, .c (.osl 1 (rows o))), (5, .c (.b (.arr 1 0 0 h.length))), (6, .c (.osl 2 (rows t)))], [.cells (cellsOf (placeOf h.length o))]⟩ k =
    k (.exit 0) ⟨[(4, .c (.osl 1 (rows (bfs h (fuel h o t) o t)))), (5, .c (.b (.arr 1 0 0 h.length)))], [.cells (cellsOf (placeOf h.length (bfs h (fuel h o t) o t)))]⟩
  | n, o, [], hn, hlt => by
    subst hb
    rw [bfs_end, u27_l0]
    simp [f27_b0, ↓K_seq, ↓K_cond, ↓K_block, ↓K_region, ↓K_skip, ↓K_exit, ↓K_ret, ↓K_wrap, ↓KA_nil, ↓KA_none, ↓KA_some, beq_int, bne_int, dec_eqN, dec_ltN, dec_leN, stepOp, St.rd, St.raw, St.set, St.took, get_cons, V.down, C.down, Env.keep, binV, unV, arith, isShift, strs, intOf, optInt, wrapEnd, keptAt, andK, endOf, frzV, frz1, frzC, frzCs, frz1s, resOf, resOne, resAll, V.closed, V.closed1, C.closed, B.closed, Ob.closed, V.cells, partsIn, rep, chunk, datas, C.data, rowsOf, getCells, put_nil, put_zero, put_succ, mayWrite, C.plain, eqV_bool, eqV_agg, eqV_pnn, eqV_pnp, eqV_ppn, eqV_mnn, eqV_mmn, eqV_snn, eqV_sen, eqV_san, eqV_sdn, rs_len, rs_getE, rs_app, rs_take, rs_drop, rs_all, rs_each, row_len, str_eq, vagg, row_Int, row_Bool, row_Str, k_Int, k_Bool, k_Str, snoc_Int, snoc_Bool, snoc_Str, row_Type, k_Type, snoc_Type, eta_Type, sames_Type, row_Field, k_Field, snoc_Field, eta_Field, sames_Field, row_Instr, k_Instr, snoc_Instr, eta_Instr, sames_Instr, row_Catch, k_Catch, snoc_Catch, eta_Catch, sames_Catch, row_Method, k_Method, snoc_Method, row_Class, k_Class, snoc_Class, row_Program, k_Program, snoc_Program, row_Slot, k_Slot, snoc_Slot, eta_Slot, sames_Slot, row_State, k_State, snoc_State, row_Val, k_Val, snoc_Val, eta_Val, sames_Val, row_Obj, k_Obj, snoc_Obj, row_Input, k_Input, snoc_Input, row_Frame, k_Frame, snoc_Frame, row_Run, k_Run, snoc_Run, row_Way, k_Way, snoc_Way, eta_Way, sames_Way, row_Task, k_Task, snoc_Task, eta_Task, sames_Task, rs_nil, cl_closed]
  | 0, o, v :: t, hn, hlt => by simp [fuel] at hn
  | n + 1, o, v :: t, hn, hlt => by
    subst hb
    have e : fuel h o (v :: t) = fuel h o t + 1 := by simp only [fuel, List.length_cons]; omega
    have ih1 := loop27 hh rfl (k := k) (β := β) n o t (by omega) (by omega)
    have ht : t.length < 1000000000 := by simp [fuel] at hlt; omega
    rw [bfs_step, u27_l0]
    obtain ⟨r, m⟩ := v
    have hlen : (0 : Int) < t.length + 1 := by omega
    have hl1 : (1 : Int) ≤ t.length + 1 := by omega
    cases r with
    | false =>
      simp only [ok, Bool.false_and, Bool.false_eq_true, false_and, if_false]
      rw [← ih1]
      simp [f27_b0, ↓K_seq, ↓K_cond, ↓K_block, ↓K_region, ↓K_skip, ↓K_exit, ↓K_ret, ↓K_wrap, ↓KA_nil, ↓KA_none, ↓KA_some, beq_int, bne_int, dec_eqN, dec_ltN, dec_leN, stepOp, St.rd, St.raw, St.set, St.took, get_cons, V.down, C.down, Env.keep, binV, unV, arith, isShift, strs, intOf, optInt, wrapEnd, keptAt, andK, endOf, frzV, frz1, frzC, frzCs, frz1s, resOf, resOne, resAll, V.closed, V.closed1, C.closed, B.closed, Ob.closed, V.cells, partsIn, rep, chunk, datas, C.data, rowsOf, getCells, put_nil, put_zero, put_succ, mayWrite, C.plain, eqV_bool, eqV_agg, eqV_pnn, eqV_pnp, eqV_ppn, eqV_mnn, eqV_mmn, eqV_snn, eqV_sen, eqV_san, eqV_sdn, rs_len, rs_getE, rs_app, rs_take, rs_drop, rs_all, rs_each, row_len, str_eq, vagg, row_Int, row_Bool, row_Str, k_Int, k_Bool, k_Str, snoc_Int, snoc_Bool, snoc_Str, row_Type, k_Type, snoc_Type, eta_Type, sames_Type, row_Field, k_Field, snoc_Field, eta_Field, sames_Field, row_Instr, k_Instr, snoc_Instr, eta_Instr, sames_Instr, row_Catch, k_Catch, snoc_Catch, eta_Catch, sames_Catch, row_Method, k_Method, snoc_Method, row_Class, k_Class, snoc_Class, row_Program, k_Program, snoc_Program, row_Slot, k_Slot, snoc_Slot, eta_Slot, sames_Slot, row_State, k_State, snoc_State, row_Val, k_Val, snoc_Val, eta_Val, sames_Val, row_Obj, k_Obj, snoc_Obj, row_Input, k_Input, snoc_Input, row_Frame, k_Frame, snoc_Frame, row_Run, k_Run, snoc_Run, row_Way, k_Way, snoc_Way, eta_Way, sames_Way, row_Task, k_Task, snoc_Task, eta_Task, sames_Task, rs_cons, cl_closed, hlen, hl1]
    | true =>
      by_cases c1 : m < 0
      · have hk : ¬ (ok h ⟨true, m⟩ = true ∧ m ∉ o) := by simp [ok]; omega
        rw [if_neg hk, ← ih1]
        simp [f27_b0, ↓K_seq, ↓K_cond, ↓K_block, ↓K_region, ↓K_skip, ↓K_exit, ↓K_ret, ↓K_wrap, ↓KA_nil, ↓KA_none, ↓KA_some, beq_int, bne_int, dec_eqN, dec_ltN, dec_leN, stepOp, St.rd, St.raw, St.set, St.took, get_cons, V.down, C.down, Env.keep, binV, unV, arith, isShift, strs, intOf, optInt, wrapEnd, keptAt, andK, endOf, frzV, frz1, frzC, frzCs, frz1s, resOf, resOne, resAll, V.closed, V.closed1, C.closed, B.closed, Ob.closed, V.cells, partsIn, rep, chunk, datas, C.data, rowsOf, getCells, put_nil, put_zero, put_succ, mayWrite, C.plain, eqV_bool, eqV_agg, eqV_pnn, eqV_pnp, eqV_ppn, eqV_mnn, eqV_mmn, eqV_snn, eqV_sen, eqV_san, eqV_sdn, rs_len, rs_getE, rs_app, rs_take, rs_drop, rs_all, rs_each, row_len, str_eq, vagg, row_Int, row_Bool, row_Str, k_Int, k_Bool, k_Str, snoc_Int, snoc_Bool, snoc_Str, row_Type, k_Type, snoc_Type, eta_Type, sames_Type, row_Field, k_Field, snoc_Field, eta_Field, sames_Field, row_Instr, k_Instr, snoc_Instr, eta_Instr, sames_Instr, row_Catch, k_Catch, snoc_Catch, eta_Catch, sames_Catch, row_Method, k_Method, snoc_Method, row_Class, k_Class, snoc_Class, row_Program, k_Program, snoc_Program, row_Slot, k_Slot, snoc_Slot, eta_Slot, sames_Slot, row_State, k_State, snoc_State, row_Val, k_Val, snoc_Val, eta_Val, sames_Val, row_Obj, k_Obj, snoc_Obj, row_Input, k_Input, snoc_Input, row_Frame, k_Frame, snoc_Frame, row_Run, k_Run, snoc_Run, row_Way, k_Way, snoc_Way, eta_Way, sames_Way, row_Task, k_Task, snoc_Task, eta_Task, sames_Task, rs_cons, cl_closed, hlen, hl1, c1]
      by_cases c2 : (h.length : Int) ≤ m
      · have hk : ¬ (ok h ⟨true, m⟩ = true ∧ m ∉ o) := by simp [ok]; omega
        rw [if_neg hk, ← ih1]
        simp [f27_b0, ↓K_seq, ↓K_cond, ↓K_block, ↓K_region, ↓K_skip, ↓K_exit, ↓K_ret, ↓K_wrap, ↓KA_nil, ↓KA_none, ↓KA_some, beq_int, bne_int, dec_eqN, dec_ltN, dec_leN, stepOp, St.rd, St.raw, St.set, St.took, get_cons, V.down, C.down, Env.keep, binV, unV, arith, isShift, strs, intOf, optInt, wrapEnd, keptAt, andK, endOf, frzV, frz1, frzC, frzCs, frz1s, resOf, resOne, resAll, V.closed, V.closed1, C.closed, B.closed, Ob.closed, V.cells, partsIn, rep, chunk, datas, C.data, rowsOf, getCells, put_nil, put_zero, put_succ, mayWrite, C.plain, eqV_bool, eqV_agg, eqV_pnn, eqV_pnp, eqV_ppn, eqV_mnn, eqV_mmn, eqV_snn, eqV_sen, eqV_san, eqV_sdn, rs_len, rs_getE, rs_app, rs_take, rs_drop, rs_all, rs_each, row_len, str_eq, vagg, row_Int, row_Bool, row_Str, k_Int, k_Bool, k_Str, snoc_Int, snoc_Bool, snoc_Str, row_Type, k_Type, snoc_Type, eta_Type, sames_Type, row_Field, k_Field, snoc_Field, eta_Field, sames_Field, row_Instr, k_Instr, snoc_Instr, eta_Instr, sames_Instr, row_Catch, k_Catch, snoc_Catch, eta_Catch, sames_Catch, row_Method, k_Method, snoc_Method, row_Class, k_Class, snoc_Class, row_Program, k_Program, snoc_Program, row_Slot, k_Slot, snoc_Slot, eta_Slot, sames_Slot, row_State, k_State, snoc_State, row_Val, k_Val, snoc_Val, eta_Val, sames_Val, row_Obj, k_Obj, snoc_Obj, row_Input, k_Input, snoc_Input, row_Frame, k_Frame, snoc_Frame, row_Run, k_Run, snoc_Run, row_Way, k_Way, snoc_Way, eta_Way, sames_Way, row_Task, k_Task, snoc_Task, eta_Task, sames_Task, rs_cons, cl_closed, hlen, hl1, c1, c2]
      obtain ⟨j, rfl⟩ : ∃ j : Nat, m = j := ⟨m.toNat, by omega⟩
      have hj : j < h.length := by omega
      have hj' : j < (placeOf h.length o).length := by rw [placeOf_len]; exact hj
      have hgt : ¬ h.length ≤ j := by omega
      have c1' : ¬ ((j : Int) < 0) := c1
      have hpl : (cellsOf (placeOf h.length o))[j]? = some (.b (.d (.int .i64 (ixOf o j)))) := by
        have := cl_get k_Int hj' (j := 0) (by omega)
        simpa [row_Int, placeOf_get, box1] using this
      by_cases c3 : (j : Int) ∈ o
      · have hk : ¬ (ok h ⟨true, j⟩ = true ∧ (j : Int) ∉ o) := by simp [c3]
        have h3 : 0 ≤ ixOf o j := ixOf_nonneg.mpr c3
        rw [if_neg hk, ← ih1]
        simp [f27_b0, ↓K_seq, ↓K_cond, ↓K_block, ↓K_region, ↓K_skip, ↓K_exit, ↓K_ret, ↓K_wrap, ↓KA_nil, ↓KA_none, ↓KA_some, beq_int, bne_int, dec_eqN, dec_ltN, dec_leN, stepOp, St.rd, St.raw, St.set, St.took, get_cons, V.down, C.down, Env.keep, binV, unV, arith, isShift, strs, intOf, optInt, wrapEnd, keptAt, andK, endOf, frzV, frz1, frzC, frzCs, frz1s, resOf, resOne, resAll, V.closed, V.closed1, C.closed, B.closed, Ob.closed, V.cells, partsIn, rep, chunk, datas, C.data, rowsOf, getCells, put_nil, put_zero, put_succ, mayWrite, C.plain, eqV_bool, eqV_agg, eqV_pnn, eqV_pnp, eqV_ppn, eqV_mnn, eqV_mmn, eqV_snn, eqV_sen, eqV_san, eqV_sdn, rs_len, rs_getE, rs_app, rs_take, rs_drop, rs_all, rs_each, row_len, str_eq, vagg, row_Int, row_Bool, row_Str, k_Int, k_Bool, k_Str, snoc_Int, snoc_Bool, snoc_Str, row_Type, k_Type, snoc_Type, eta_Type, sames_Type, row_Field, k_Field, snoc_Field, eta_Field, sames_Field, row_Instr, k_Instr, snoc_Instr, eta_Instr, sames_Instr, row_Catch, k_Catch, snoc_Catch, eta_Catch, sames_Catch, row_Method, k_Method, snoc_Method, row_Class, k_Class, snoc_Class, row_Program, k_Program, snoc_Program, row_Slot, k_Slot, snoc_Slot, eta_Slot, sames_Slot, row_State, k_State, snoc_State, row_Val, k_Val, snoc_Val, eta_Val, sames_Val, row_Obj, k_Obj, snoc_Obj, row_Input, k_Input, snoc_Input, row_Frame, k_Frame, snoc_Frame, row_Run, k_Run, snoc_Run, row_Way, k_Way, snoc_Way, eta_Way, sames_Way, row_Task, k_Task, snoc_Task, eta_Task, sames_Task, rs_cons, cl_closed, hlen, hl1, c1', hgt, hj, hpl, h3]
      · have hk : ok h ⟨true, j⟩ = true ∧ (j : Int) ∉ o := ⟨by simp [ok]; omega, c3⟩
        have h3 : ixOf o j = -1 := ixOf_not c3
        rw [h3] at hpl
        have hu := unmet_snoc hj c3
        have hput : putAt (cellsOf (placeOf h.length o)) j [.b (.d (.int .i64 o.length))] = some (cellsOf (placeOf h.length (o ++ [(j : Int)]))) := by
          have := cl_put k_Int hj' (j := 0) (v := (o.length : Int)) (ds := [.int .i64 o.length]) (by simp) (by simp [row_Int])
          rw [placeOf_set hj c3] at this
          simpa [box1] using this
        have hs := slotsAt_nat hj
        have q1 : o.length + 1 ≤ 70368744177664 := by omega
        have q2 : (o.length + 1) * 8 ≤ 70368744177664 := by omega
        have q3 : t.length + h[j].slots.length ≤ 70368744177664 := by rw [← hs]; simp [fuel] at hlt; omega
        have q4 : (t.length + h[j].slots.length) * 16 ≤ 70368744177664 := by rw [← hs]; simp [fuel] at hlt; omega
        have ih2 := loop27 hh rfl (k := k) (β := β) n (o ++ [(j : Int)]) (t ++ slotsAt h j) (by simp only [fuel, List.length_append] at hn ⊢; simp only [List.length_cons] at hn; omega) (by simp only [fuel, List.length_append, List.length_cons, List.length_nil] at hlt ⊢; omega)
        rw [if_pos hk, ← ih2, hs]
        simp [f27_b0, ↓K_seq, ↓K_cond, ↓K_block, ↓K_region, ↓K_skip, ↓K_exit, ↓K_ret, ↓K_wrap, ↓KA_nil, ↓KA_none, ↓KA_some, beq_int, bne_int, dec_eqN, dec_ltN, dec_leN, stepOp, St.rd, St.raw, St.set, St.took, get_cons, V.down, C.down, Env.keep, binV, unV, arith, isShift, strs, intOf, optInt, wrapEnd, keptAt, andK, endOf, frzV, frz1, frzC, frzCs, frz1s, resOf, resOne, resAll, V.closed, V.closed1, C.closed, B.closed, Ob.closed, V.cells, partsIn, rep, chunk, datas, C.data, rowsOf, getCells, put_nil, put_zero, put_succ, mayWrite, C.plain, eqV_bool, eqV_agg, eqV_pnn, eqV_pnp, eqV_ppn, eqV_mnn, eqV_mmn, eqV_snn, eqV_sen, eqV_san, eqV_sdn, rs_len, rs_getE, rs_app, rs_take, rs_drop, rs_all, rs_each, row_len, str_eq, vagg, row_Int, row_Bool, row_Str, k_Int, k_Bool, k_Str, snoc_Int, snoc_Bool, snoc_Str, row_Type, k_Type, snoc_Type, eta_Type, sames_Type, row_Field, k_Field, snoc_Field, eta_Field, sames_Field, row_Instr, k_Instr, snoc_Instr, eta_Instr, sames_Instr, row_Catch, k_Catch, snoc_Catch, eta_Catch, sames_Catch, row_Method, k_Method, snoc_Method, row_Class, k_Class, snoc_Class, row_Program, k_Program, snoc_Program, row_Slot, k_Slot, snoc_Slot, eta_Slot, sames_Slot, row_State, k_State, snoc_State, row_Val, k_Val, snoc_Val, eta_Val, sames_Val, row_Obj, k_Obj, snoc_Obj, row_Input, k_Input, snoc_Input, row_Frame, k_Frame, snoc_Frame, row_Run, k_Run, snoc_Run, row_Way, k_Way, snoc_Way, eta_Way, sames_Way, row_Task, k_Task, snoc_Task, eta_Task, sames_Task, rs_cons, cl_closed, hlen, hl1, c1', hgt, hj, hpl, hput, q1, q2, q3, q4]
  termination_by n => n
end Go.Proofs.Ytjkhkblabhaimaa.Am
