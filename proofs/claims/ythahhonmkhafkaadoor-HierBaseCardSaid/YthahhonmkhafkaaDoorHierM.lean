/- The tree. Written by wip/tools/hm.py. -/
import Derived.Test.YthahhonmkhafkaaDoorHierL
namespace Go.Proofs.YthahhonmkhafkaaDoor.Am
set_option linter.unusedSimpArgs false
set_option linter.unusedVariables false
set_option linter.unusedSectionVars false
open Go
--let OF hier.Of
--let CL (*hier.Tree).climb

/-- One class more in the map of all. -/
def updL (m : List GClass) (c : GClass) : List GClass := match m.findIdx? (fun x : GClass => decide (x.name = c.name)) with
  | some j => m.set j c
  | none => m ++ [c]
def mapL (l : List GClass) : List GClass := l.foldl updL []
theorem mapL_snoc (l : List GClass) (c : GClass) : mapL (l ++ [c]) = updL (mapL l) c := by simp [mapL]

theorem got_U (m : List GClass) (c : GClass) : ∃ r, findKey [2] (vstr c.name) (entC m) 0 = some r ∧ ((r = none ∧ entC m ++ [(vstr c.name, vClass c)] = entC (updL m c)) ∨ ∃ i v, r = some (i, v) ∧ (entC m).set i (vstr c.name, vClass c) = entC (updL m c)) := by
  refine ⟨_, find_key (fun c : GClass => c.name) (fun c => vClass c) c.name m 0, ?_⟩
  unfold updL
  cases hq : m.findIdx? (fun x : GClass => decide (x.name = c.name)) with
  | none => exact Or.inl ⟨rfl, by simp [entC]⟩
  | some j =>
    have hj : j < m.length := by
      rw [List.findIdx?_eq_some_iff_getElem] at hq; exact hq.1
    refine Or.inr ⟨j, vClass m[j], by simp [hj], ?_⟩
    simp [entC, List.map_set]

theorem entC_closed (l : List GClass) (n : Nat) : Ob.closed n (.map (entC l)) = true := by
  simp [Ob.closed, entC, V.closed1, C.closed, B.closed]

abbrev cT (own E : Int) (names : List ByteArray) (A M : Nat) : Ob := .cells [.b (.d (.int .i64 own)), .osl 1 (rows names), .b (.d (.int .i64 E)), .b (.map A), .b (.map M)]

/-- What lies behind the first objects while the tree is built. -/
structure Inv0 (σ S : List Ob) (m : List GClass) (own : Int) (names : List ByteArray) : Prop where
  pre : ∃ X, S = σ ++ X
  t : S[σ.length + 3]? = some (cT own 0 names (σ.length + 1) (σ.length + 2))
  a : S[σ.length + 1]? = some (.map (entC m))
  m : S[σ.length + 2]? = some (.map [])
  cl : ∀ k, S.all (Ob.closed (S.length + k)) = true

theorem pre_set {σ S : List Ob} (h : ∃ X, S = σ ++ X) (j : Nat) (x : Ob) : ∃ X, S.set (σ.length + j) x = σ ++ X := by
  obtain ⟨X, rfl⟩ := h
  exact ⟨X.set j x, by rw [List.set_append_right _ _ (Nat.le_add_right _ _)]; simp⟩
theorem pre_app {σ S : List Ob} (h : ∃ X, S = σ ++ X) (Y : List Ob) : ∃ X, S ++ Y = σ ++ X := by
  obtain ⟨X, rfl⟩ := h
  exact ⟨X ++ Y, by simp⟩

section
variable {σ : List Ob} {lo tr : Nat}
theorem of_l0 (hlo : lo ≤ σ.length) (htr : tr ≤ σ.length) (L : List GClass) (hL : L.length ≤ 100) : ∀ (n i : Nat) (S : List Ob), i + n = L.length → Inv0 σ S (mapL (L.take i)) 8 (namesOf (L.take i)) → ∃ S', Inv0 σ S' (mapL L) 8 (namesOf L) ∧
    ∀ k : AExit → St → Option (V × List Ob), K fns ⟨lo, tr⟩ f14_l0 ⟨[(3, vptr (σ.length + 3)), (4, vsl L), (34, vsl L), (35, vint L.length), (36, vint i)], S⟩ k = k (.exit 0) ⟨[(3, vptr (σ.length + 3)), (4, vsl L)], S'⟩ := by
  intro n
  induction n with
  | zero =>
    intro i S hi h
    have hi' : i = L.length := by omega
    subst hi'
    rw [List.take_length] at h
    refine ⟨S, h, fun k => ?_⟩
    rw [u14_l0]
    simp [f14_b0, ↓K_seq, ↓K_cond, ↓K_block, ↓K_region, ↓K_skip, ↓K_exit, ↓K_ret, ↓K_wrap, ↓KA_nil, ↓KA_none, ↓KA_some, beq_int, bne_int, dec_eqN, dec_ltN, dec_leN, stepOp, St.rd, St.raw, St.set, St.took, get_cons, V.down, C.down, Env.keep, binV, unV, arith, isShift, strs, intOf, optInt, wrapEnd, keptAt, andK, endOf, frzV, frz1, frzC, frzCs, frz1s, resOf, resOne, resAll, V.closed, V.closed1, C.closed, B.closed, Ob.closed, V.cells, partsIn, rep, chunk, datas, C.data, rowsOf, getCells, put_nil, put_zero, put_succ, mayWrite, C.plain, eqV_bool, eqV_agg, eqV_pnn, eqV_pnp, eqV_ppn, eqV_mnn, eqV_mmn, eqV_snn, eqV_sen, eqV_san, eqV_sdn, rs_len, rs_getE, rs_app, rs_take, rs_drop, rs_all, rs_each, row_len, ↓str_eq, str_nilP, str_nilE, str_nilB, vagg, row_Int, row_Bool, row_Str, k_Int, k_Bool, k_Str, snoc_Int, snoc_Bool, snoc_Str, row_Type, k_Type, snoc_Type, eta_Type, sames_Type, row_Field, k_Field, snoc_Field, eta_Field, sames_Field, row_Instr, k_Instr, snoc_Instr, eta_Instr, sames_Instr, row_Catch, k_Catch, snoc_Catch, eta_Catch, sames_Catch, row_Method, k_Method, snoc_Method, row_Class, k_Class, snoc_Class, row_Program, k_Program, snoc_Program, row_Slot, k_Slot, snoc_Slot, eta_Slot, sames_Slot, row_State, k_State, snoc_State, row_Val, k_Val, snoc_Val, eta_Val, sames_Val, row_Obj, k_Obj, snoc_Obj, row_Input, k_Input, snoc_Input, row_Frame, k_Frame, snoc_Frame, row_Run, k_Run, snoc_Run, row_Way, k_Way, snoc_Way, eta_Way, sames_Way, row_Task, k_Task, snoc_Task, eta_Task, sames_Task]
  | succ n ih =>
    intro i S hi h
    have hlt : i < L.length := by omega
    have hw := wrap_succ (i := i) (by omega)
    have htk : L.take (i + 1) = L.take i ++ [L[i]] := by simp
    have hT := get_lt h.t
    have hA := get_lt h.a
    have hM := get_lt h.m
    have ht := (List.getElem?_eq_some_iff.mp h.t).2
    have ha := (List.getElem?_eq_some_iff.mp h.a).2
    obtain ⟨r, g1, g2⟩ := got_U (mapL (L.take i)) L[i]
    have hnl : (namesOf (L.take i)).length = i := by simp [namesOf]; omega
    have inv : Inv0 σ ((S.set (σ.length + 3) (cT 8 0 (namesOf (L.take (i + 1))) (σ.length + 1) (σ.length + 2))).set (σ.length + 1) (.map (entC (mapL (L.take (i + 1))))) ++ [cC L[i]]) (mapL (L.take (i + 1))) 8 (namesOf (L.take (i + 1))) := by
      refine ⟨pre_app (pre_set (pre_set h.pre _ _) _ _) _, ?_, ?_, ?_, ?_⟩
      · rw [List.getElem?_append_left (by simpa using hT), List.getElem?_set_ne (by omega), List.getElem?_set_self hT]
      · rw [List.getElem?_append_left (by simpa using hA), List.getElem?_set_self (by simpa using hA)]
      · rw [List.getElem?_append_left (by simpa using hM), List.getElem?_set_ne (by omega), List.getElem?_set_ne (by omega)]; exact h.m
      · intro k
        have e : ((S.set (σ.length + 3) (cT 8 0 (namesOf (L.take (i + 1))) (σ.length + 1) (σ.length + 2))).set (σ.length + 1) (.map (entC (mapL (L.take (i + 1))))) ++ [cC L[i]]).length + k = S.length + (1 + k) := by simp; omega
        rw [e, List.all_append, all_set (all_set (h.cl (1 + k)) ?_) (entC_closed _ _)]
        · simp [Ob.closed, C.closed, B.closed]
        · simp [Ob.closed, C.closed, B.closed]; omega
    obtain ⟨S', i1, i2⟩ := ih (i + 1) _ (by omega) inv
    refine ⟨S', i1, fun k => ?_⟩
    rw [← i2 k, u14_l0]
    have q1 : (namesOf (L.take i)).length + 1 ≤ 70368744177664 := by omega
    have q2 : ((namesOf (L.take i)).length + 1) * 16 ≤ 70368744177664 := by omega
    have l1 : lo ≤ σ.length + 3 := by omega
    have l2 : lo ≤ σ.length + 1 := by omega
    have l3 : lo ≤ S.length := by omega
    have l4 : tr ≤ σ.length + 3 := by omega
    have l5 : tr ≤ σ.length + 1 := by omega
    have l6 : tr ≤ S.length := by omega
    have e1 : namesOf (L.take (i + 1)) = namesOf (L.take i) ++ [L[i].name] := by rw [htk, namesOf, List.map_append]; rfl
    have e2 : mapL (L.take (i + 1)) = updL (mapL (L.take i)) L[i] := by rw [htk, mapL_snoc]
    rw [e1, e2]
    generalize namesOf (L.take i) = N at *
    generalize mapL (L.take i) = m0 at *
    rcases g2 with ⟨g3, g4⟩ | ⟨j, v, g3, g4⟩
    · subst g3
      rw [← g4]
      simp [f14_b0, ↓K_seq, ↓K_cond, ↓K_block, ↓K_region, ↓K_skip, ↓K_exit, ↓K_ret, ↓K_wrap, ↓KA_nil, ↓KA_none, ↓KA_some, beq_int, bne_int, dec_eqN, dec_ltN, dec_leN, stepOp, St.rd, St.raw, St.set, St.took, get_cons, V.down, C.down, Env.keep, binV, unV, arith, isShift, strs, intOf, optInt, wrapEnd, keptAt, andK, endOf, frzV, frz1, frzC, frzCs, frz1s, resOf, resOne, resAll, V.closed, V.closed1, C.closed, B.closed, Ob.closed, V.cells, partsIn, rep, chunk, datas, C.data, rowsOf, getCells, put_nil, put_zero, put_succ, mayWrite, C.plain, eqV_bool, eqV_agg, eqV_pnn, eqV_pnp, eqV_ppn, eqV_mnn, eqV_mmn, eqV_snn, eqV_sen, eqV_san, eqV_sdn, rs_len, rs_getE, rs_app, rs_take, rs_drop, rs_all, rs_each, row_len, ↓str_eq, str_nilP, str_nilE, str_nilB, vagg, row_Int, row_Bool, row_Str, k_Int, k_Bool, k_Str, snoc_Int, snoc_Bool, snoc_Str, row_Type, k_Type, snoc_Type, eta_Type, sames_Type, row_Field, k_Field, snoc_Field, eta_Field, sames_Field, row_Instr, k_Instr, snoc_Instr, eta_Instr, sames_Instr, row_Catch, k_Catch, snoc_Catch, eta_Catch, sames_Catch, row_Method, k_Method, snoc_Method, row_Class, k_Class, snoc_Class, row_Program, k_Program, snoc_Program, row_Slot, k_Slot, snoc_Slot, eta_Slot, sames_Slot, row_State, k_State, snoc_State, row_Val, k_Val, snoc_Val, eta_Val, sames_Val, row_Obj, k_Obj, snoc_Obj, row_Input, k_Input, snoc_Input, row_Frame, k_Frame, snoc_Frame, row_Run, k_Run, snoc_Run, row_Way, k_Way, snoc_Way, eta_Way, sames_Way, row_Task, k_Task, snoc_Task, eta_Task, sames_Task, List.getElem?_append_left, List.getElem?_append_right, List.set_append_left, List.set_append_right, hlt, hw, hT, hA, ht, ha, q1, q2, l1, l2, l3, l4, l5, l6, mapOf, keyShape, g1]
    · subst g3
      rw [← g4]
      simp [f14_b0, ↓K_seq, ↓K_cond, ↓K_block, ↓K_region, ↓K_skip, ↓K_exit, ↓K_ret, ↓K_wrap, ↓KA_nil, ↓KA_none, ↓KA_some, beq_int, bne_int, dec_eqN, dec_ltN, dec_leN, stepOp, St.rd, St.raw, St.set, St.took, get_cons, V.down, C.down, Env.keep, binV, unV, arith, isShift, strs, intOf, optInt, wrapEnd, keptAt, andK, endOf, frzV, frz1, frzC, frzCs, frz1s, resOf, resOne, resAll, V.closed, V.closed1, C.closed, B.closed, Ob.closed, V.cells, partsIn, rep, chunk, datas, C.data, rowsOf, getCells, put_nil, put_zero, put_succ, mayWrite, C.plain, eqV_bool, eqV_agg, eqV_pnn, eqV_pnp, eqV_ppn, eqV_mnn, eqV_mmn, eqV_snn, eqV_sen, eqV_san, eqV_sdn, rs_len, rs_getE, rs_app, rs_take, rs_drop, rs_all, rs_each, row_len, ↓str_eq, str_nilP, str_nilE, str_nilB, vagg, row_Int, row_Bool, row_Str, k_Int, k_Bool, k_Str, snoc_Int, snoc_Bool, snoc_Str, row_Type, k_Type, snoc_Type, eta_Type, sames_Type, row_Field, k_Field, snoc_Field, eta_Field, sames_Field, row_Instr, k_Instr, snoc_Instr, eta_Instr, sames_Instr, row_Catch, k_Catch, snoc_Catch, eta_Catch, sames_Catch, row_Method, k_Method, snoc_Method, row_Class, k_Class, snoc_Class, row_Program, k_Program, snoc_Program, row_Slot, k_Slot, snoc_Slot, eta_Slot, sames_Slot, row_State, k_State, snoc_State, row_Val, k_Val, snoc_Val, eta_Val, sames_Val, row_Obj, k_Obj, snoc_Obj, row_Input, k_Input, snoc_Input, row_Frame, k_Frame, snoc_Frame, row_Run, k_Run, snoc_Run, row_Way, k_Way, snoc_Way, eta_Way, sames_Way, row_Task, k_Task, snoc_Task, eta_Task, sames_Task, List.getElem?_append_left, List.getElem?_append_right, List.set_append_left, List.set_append_right, hlt, hw, hT, hA, ht, ha, q1, q2, l1, l2, l3, l4, l5, l6, mapOf, keyShape, g1]

def entM (az : List (ByteArray × Nat)) : List (V × V) := az.map fun x => (vstr x.1, .c (.b (.map x.2)))
/-- The tree while what is above each is noted. -/
structure Inv1 (σ S : List Ob) (l : List GClass) (az : List (ByteArray × Nat)) : Prop where
  pre : ∃ X, S = σ ++ X
  t : S[σ.length + 3]? = some (cT 8 0 (namesOf l) (σ.length + 1) (σ.length + 2))
  a : S[σ.length + 1]? = some (.map (entC l))
  m : S[σ.length + 2]? = some (.map (entM az))
  up : ∀ x ∈ az, σ.length + 3 < x.2 ∧ S[x.2]? = some (.map (entS (dfs l 200 [sObject] x.1)))
  cl : ∀ k, S.all (Ob.closed (S.length + k)) = true

theorem of_l1 (hlo : lo ≤ σ.length) (htr : tr ≤ σ.length) (l : List GClass) (hl : l.length ≤ 100) (hc : ∀ c ∈ l, OkC c) (hw : Whole l) (hnd : (namesOf l).Nodup) (hob : sObject ∈ namesOf l) : ∀ (n i : Nat) (S : List Ob) (az : List (ByteArray × Nat)), i + n = (namesOf l).length → az.map (·.1) = (namesOf l).take i → Inv1 σ S l az → ∃ S' az', az'.map (·.1) = namesOf l ∧ Inv1 σ S' l az' ∧
    ∀ k : AExit → St → Option (V × List Ob), K fns ⟨lo, tr⟩ f14_l1 ⟨[(3, vptr (σ.length + 3)), (99, vsl (namesOf l)), (100, vint (namesOf l).length), (101, vint i)], S⟩ k = k (.exit 3) ⟨[(3, vptr (σ.length + 3))], S'⟩ := by
  have hnlen : (namesOf l).length = l.length := by simp [namesOf]
  intro n
  induction n with
  | zero =>
    intro i S az hi has h
    have hi' : i = (namesOf l).length := by omega
    subst hi'
    rw [List.take_length] at has
    refine ⟨S, az, has, h, fun k => ?_⟩
    rw [u14_l1]
    simp [f14_b1, ↓K_seq, ↓K_cond, ↓K_block, ↓K_region, ↓K_skip, ↓K_exit, ↓K_ret, ↓K_wrap, ↓KA_nil, ↓KA_none, ↓KA_some, beq_int, bne_int, dec_eqN, dec_ltN, dec_leN, stepOp, St.rd, St.raw, St.set, St.took, get_cons, V.down, C.down, Env.keep, binV, unV, arith, isShift, strs, intOf, optInt, wrapEnd, keptAt, andK, endOf, frzV, frz1, frzC, frzCs, frz1s, resOf, resOne, resAll, V.closed, V.closed1, C.closed, B.closed, Ob.closed, V.cells, partsIn, rep, chunk, datas, C.data, rowsOf, getCells, put_nil, put_zero, put_succ, mayWrite, C.plain, eqV_bool, eqV_agg, eqV_pnn, eqV_pnp, eqV_ppn, eqV_mnn, eqV_mmn, eqV_snn, eqV_sen, eqV_san, eqV_sdn, rs_len, rs_getE, rs_app, rs_take, rs_drop, rs_all, rs_each, row_len, ↓str_eq, str_nilP, str_nilE, str_nilB, vagg, row_Int, row_Bool, row_Str, k_Int, k_Bool, k_Str, snoc_Int, snoc_Bool, snoc_Str, row_Type, k_Type, snoc_Type, eta_Type, sames_Type, row_Field, k_Field, snoc_Field, eta_Field, sames_Field, row_Instr, k_Instr, snoc_Instr, eta_Instr, sames_Instr, row_Catch, k_Catch, snoc_Catch, eta_Catch, sames_Catch, row_Method, k_Method, snoc_Method, row_Class, k_Class, snoc_Class, row_Program, k_Program, snoc_Program, row_Slot, k_Slot, snoc_Slot, eta_Slot, sames_Slot, row_State, k_State, snoc_State, row_Val, k_Val, snoc_Val, eta_Val, sames_Val, row_Obj, k_Obj, snoc_Obj, row_Input, k_Input, snoc_Input, row_Frame, k_Frame, snoc_Frame, row_Run, k_Run, snoc_Run, row_Way, k_Way, snoc_Way, eta_Way, sames_Way, row_Task, k_Task, snoc_Task, eta_Task, sames_Task]
  | succ n ih =>
    intro i S az hi has h
    have hlt : i < (namesOf l).length := by omega
    have hw1 := wrap_succ (i := i) (by omega)
    have hT := get_lt h.t
    have hA := get_lt h.a
    have hM := get_lt h.m
    have ht := (List.getElem?_eq_some_iff.mp h.t).2
    have ha := (List.getElem?_eq_some_iff.mp h.a).2
    have hmm := (List.getElem?_eq_some_iff.mp h.m).2
    have hsin : (namesOf l)[i] ∈ namesOf l := List.getElem_mem hlt
    have htk : (namesOf l).take (i + 1) = (namesOf l).take i ++ [(namesOf l)[i]] := by simp
    have hnew : az.findIdx? (fun x => decide (x.1 = (namesOf l)[i])) = none := by
      rw [List.findIdx?_eq_none_iff]
      intro x hx
      have h1 : x.1 ∈ (namesOf l).take i := by rw [← has]; exact List.mem_map_of_mem hx
      simp only [decide_eq_false_iff_not]
      intro e
      rw [e] at h1
      obtain ⟨j, hj, hje⟩ := List.mem_iff_getElem.mp h1
      rw [List.getElem_take] at hje
      have hj' : j < i := by rw [List.length_take] at hj; omega
      exact List.pairwise_iff_getElem.mp hnd j i (by omega) hlt hj' hje
    generalize hs : (namesOf l)[i] = s at *
    have k1 : findKey [2] (vstr s) (entM az) 0 = some none := by
      have := find_key (fun x : ByteArray × Nat => x.1) (fun x => .c (.b (.map x.2))) s az 0
      rw [hnew] at this
      exact this
    have k2 : ∃ j, findKey [2] (vstr s) (entM az ++ [(vstr s, .c (.b (.map S.length)))]) 0 = some (some (j, .c (.b (.map S.length)))) := by
      have := find_key (fun x : ByteArray × Nat => x.1) (fun x => .c (.b (.map x.2))) s (az ++ [(s, S.length)]) 0
      have e : (az ++ [(s, S.length)]).findIdx? (fun x => decide (x.1 = s)) = some az.length := by
        rw [List.findIdx?_append, hnew]
        simp
      rw [e] at this
      refine ⟨0 + az.length, ?_⟩
      simpa [entM] using this
    obtain ⟨j, k2⟩ := k2
    have hem : entM az ++ [(vstr s, .c (.b (.map S.length)))] = entM (az ++ [(s, S.length)]) := by simp [entM]
    have mcl : ∀ (bs : List (ByteArray × Nat)) (n : Nat), (∀ x ∈ bs, x.2 < n) → Ob.closed n (.map (entM bs)) = true := by
      intro bs n hb
      simp only [Ob.closed, entM, List.all_map, List.all_eq_true]
      intro x hx
      simp [V.closed1, C.closed, B.closed, hb x hx]
    have hup : ∀ x ∈ az ++ [(s, S.length)], x.2 < S.length + 1 := by
      intro x hx
      rcases List.mem_append.mp hx with a | a
      · have := get_lt (h.up x a).2; omega
      · simp at a; subst a; simp
    -- what climbs
    have cl1 : ∀ (y : Ob), (∀ n, Ob.closed n y = true) → ∀ k, (S.set (σ.length + 2) (.map (entM (az ++ [(s, S.length)]))) ++ [y]).all (Ob.closed ((S.set (σ.length + 2) (.map (entM (az ++ [(s, S.length)]))) ++ [y]).length + k)) = true := by
      intro y hy k
      have e : (S.set (σ.length + 2) (.map (entM (az ++ [(s, S.length)]))) ++ [y]).length + k = S.length + (1 + k) := by simp; omega
      rw [e, List.all_append, all_set (h.cl (1 + k)) (mcl _ _ fun x hx => by have := hup x hx; omega)]
      simp [hy]
    have tree1 : ∀ y : Ob, TreeAt (S.set (σ.length + 2) (.map (entM (az ++ [(s, S.length)]))) ++ [y]) (σ.length + 3) (σ.length + 1) (σ.length + 2) 8 0 (namesOf l) l := fun y =>
      (TreeAt.set (m := σ.length + 2) ⟨h.t, h.a⟩ (by omega) (by omega) _).app _
    have hcall : ∀ tr', Fn fns 29 [vptr (σ.length + 3), vstr s, .c (.b (.map S.length))] (S.set (σ.length + 2) (.map (entM (az ++ [(s, S.length)]))) ++ [Ob.map (entS [sObject])]) lo tr' = some (.tup [], S.set (σ.length + 2) (.map (entM (az ++ [(s, S.length)]))) ++ [Ob.map (entS (dfs l 200 [sObject] s))]) := by
      intro tr'
      have hset : ∀ y : Ob, (S.set (σ.length + 2) (.map (entM (az ++ [(s, S.length)]))) ++ [Ob.map []]).set S.length y = S.set (σ.length + 2) (.map (entM (az ++ [(s, S.length)]))) ++ [y] := fun y => by
        rw [List.set_append_right _ _ (by simp)]; simp
      have := fn_climb (m := S.length) (tree1 (Ob.map [])) (by omega) (by omega) (by simp) hl hc hw (cl1 _ (fun _ => rfl)) 200 [sObject] s lo tr' ⟨by simp, by simpa using hob⟩ hsin (by simp; split <;> omega) (by omega)
      rwa [hset, hset] at this
    have inv : Inv1 σ (S.set (σ.length + 2) (.map (entM (az ++ [(s, S.length)]))) ++ [Ob.map (entS (dfs l 200 [sObject] s))]) l (az ++ [(s, S.length)]) := by
      refine ⟨pre_app (pre_set h.pre _ _) _, (tree1 _).t, (tree1 _).a, ?_, ?_, cl1 _ (entS_closed _)⟩
      · rw [List.getElem?_append_left (by simpa using hM), List.getElem?_set_self hM]
      · intro x hx
        rcases List.mem_append.mp hx with a | a
        · obtain ⟨u1, u2⟩ := h.up x a
          refine ⟨u1, ?_⟩
          rw [List.getElem?_append_left (by simpa using get_lt u2), List.getElem?_set_ne (by omega)]; exact u2
        · simp at a; subst a
          exact ⟨by omega, by simp⟩
    obtain ⟨S', az', j1, j2, j3⟩ := ih (i + 1) _ (az ++ [(s, S.length)]) (by omega) (by rw [List.map_append, has, htk]; rfl) inv
    refine ⟨S', az', j1, j2, fun k => ?_⟩
    rw [← j3 k, u14_l1]
    have l1 : lo ≤ σ.length + 2 := by omega
    have l3 : lo ≤ S.length := by omega
    have l4 : tr ≤ σ.length + 2 := by omega
    have l6 : tr ≤ S.length := by omega
    have he0 : [(vstr sObject, vbool true)] = entS [sObject] := rfl
    have kf : findKey [2] (vstr sObject) [] 0 = some none := rfl
    generalize dfs l 200 [sObject] s = d at *
    rw [← hem] at hcall ⊢
    simp only [← he0] at hcall
    simp [f14_b1, ↓K_seq, ↓K_cond, ↓K_block, ↓K_region, ↓K_skip, ↓K_exit, ↓K_ret, ↓K_wrap, ↓KA_nil, ↓KA_none, ↓KA_some, beq_int, bne_int, dec_eqN, dec_ltN, dec_leN, stepOp, St.rd, St.raw, St.set, St.took, get_cons, V.down, C.down, Env.keep, binV, unV, arith, isShift, strs, intOf, optInt, wrapEnd, keptAt, andK, endOf, frzV, frz1, frzC, frzCs, frz1s, resOf, resOne, resAll, V.closed, V.closed1, C.closed, B.closed, Ob.closed, V.cells, partsIn, rep, chunk, datas, C.data, rowsOf, getCells, put_nil, put_zero, put_succ, mayWrite, C.plain, eqV_bool, eqV_agg, eqV_pnn, eqV_pnp, eqV_ppn, eqV_mnn, eqV_mmn, eqV_snn, eqV_sen, eqV_san, eqV_sdn, rs_len, rs_getE, rs_app, rs_take, rs_drop, rs_all, rs_each, row_len, ↓str_eq, str_nilP, str_nilE, str_nilB, vagg, row_Int, row_Bool, row_Str, k_Int, k_Bool, k_Str, snoc_Int, snoc_Bool, snoc_Str, row_Type, k_Type, snoc_Type, eta_Type, sames_Type, row_Field, k_Field, snoc_Field, eta_Field, sames_Field, row_Instr, k_Instr, snoc_Instr, eta_Instr, sames_Instr, row_Catch, k_Catch, snoc_Catch, eta_Catch, sames_Catch, row_Method, k_Method, snoc_Method, row_Class, k_Class, snoc_Class, row_Program, k_Program, snoc_Program, row_Slot, k_Slot, snoc_Slot, eta_Slot, sames_Slot, row_State, k_State, snoc_State, row_Val, k_Val, snoc_Val, eta_Val, sames_Val, row_Obj, k_Obj, snoc_Obj, row_Input, k_Input, snoc_Input, row_Frame, k_Frame, snoc_Frame, row_Run, k_Run, snoc_Run, row_Way, k_Way, snoc_Way, eta_Way, sames_Way, row_Task, k_Task, snoc_Task, eta_Task, sames_Task, List.getElem?_append_left, List.getElem?_append_right, List.set_append_left, List.set_append_right, hlt, hs, hw1, hT, hA, hM, ht, ha, hmm, l1, l3, l4, l6, mapOf, keyShape, k1, k2, kf, got, hcall]
end
end Go.Proofs.YthahhonmkhafkaaDoor.Am
