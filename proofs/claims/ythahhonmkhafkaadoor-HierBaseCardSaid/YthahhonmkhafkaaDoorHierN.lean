/- The whole tree. Written by wip/tools/hn.py. -/
import Derived.Test.YthahhonmkhafkaaDoorHierM
namespace Go.Proofs.YthahhonmkhafkaaDoor.Am
set_option linter.unusedSimpArgs false
set_option linter.unusedVariables false
set_option linter.unusedSectionVars false
open Go
--let NC slices.ContainsFunc[[]api.Class,api.Class]
--let NS slices.ContainsFunc[[]string,string]
--let OF hier.Of
--let LO (*hier.Tree).lost
--let RI (*hier.Tree).ring

theorem updL_len (m : List GClass) (c : GClass) : (updL m c).length ≤ m.length + 1 := by
  unfold updL; split <;> simp
theorem mapL_len (l : List GClass) : (mapL l).length ≤ l.length := by
  have key : ∀ (l m : List GClass), (l.foldl updL m).length ≤ m.length + l.length := by
    intro l
    induction l with
    | nil => intro m; simp
    | cons c t ih =>
      intro m
      have h1 := ih (updL m c)
      have h2 := updL_len m c
      simp only [List.foldl_cons, List.length_cons]; omega
  have := key l []
  simpa [mapL] using this
/-- No name twice: the map has as many entries. -/
theorem mapL_eq {l : List GClass} (h : ¬ (mapL l).length < l.length) : mapL l = l ∧ (namesOf l).Nodup := by
  have key : ∀ (l m : List GClass), (namesOf m).Nodup → m.length + l.length ≤ (l.foldl updL m).length → l.foldl updL m = m ++ l ∧ (namesOf (m ++ l)).Nodup := by
    intro l
    induction l with
    | nil => intro m hm _; simpa using hm
    | cons c t ih =>
      intro m hm hlen
      have hkey : ∀ (t m : List GClass), (t.foldl updL m).length ≤ m.length + t.length := by
        intro t
        induction t with
        | nil => intro m; simp
        | cons c t ih =>
          intro m
          have h1 := ih (updL m c)
          have h2 := updL_len m c
          simp only [List.foldl_cons, List.length_cons]; omega
      rw [List.foldl_cons] at hlen ⊢
      have h1 := hkey t (updL m c)
      simp only [List.length_cons] at hlen
      cases hq : m.findIdx? (fun x : GClass => decide (x.name = c.name)) with
      | some j =>
        have : updL m c = m.set j c := by simp [updL, hq]
        rw [this, List.length_set] at h1
        rw [this] at hlen
        omega
      | none =>
        have hu : updL m c = m ++ [c] := by simp [updL, hq]
        rw [hu] at hlen ⊢
        have hnot : c.name ∉ namesOf m := by
          intro hx
          obtain ⟨d, hd, hde⟩ := List.mem_map.mp hx
          rw [List.findIdx?_eq_none_iff] at hq
          simpa [hde] using hq d hd
        have hnd : (namesOf (m ++ [c])).Nodup := by
          unfold namesOf at *
          rw [List.map_append, List.nodup_append]
          refine ⟨hm, by simp, ?_⟩
          rintro a ha b hb rfl
          simp at hb; subst hb; exact hnot ha
        obtain ⟨a, b⟩ := ih (m ++ [c]) hnd (by simp; omega)
        rw [a]
        simp only [List.append_assoc, List.singleton_append] at b ⊢
        exact ⟨trivial, b⟩
  have := key l [] (by simp [namesOf]) (by simp only [List.length_nil]; unfold mapL at h; omega)
  simpa [mapL] using this

theorem find_name {l : List GClass} {s : ByteArray} (h : s ∈ namesOf l) : ∃ c, findC l s = some c ∧ c ∈ l ∧ c.name = s := by
  unfold findC
  cases hf : l.find? (fun c : GClass => decide (c.name = s)) with
  | none =>
    obtain ⟨d, hd, hde⟩ := List.mem_map.mp h
    have := List.find?_eq_none.mp hf d hd
    simp [hde] at this
  | some c => exact ⟨c, rfl, find_mem hf⟩

theorem whole_of {l : List GClass} (h : l.any (lostB l) = false) : Whole l := by
  intro s hs x hx
  obtain ⟨c, h1, h2, h3⟩ := find_name hs
  have hl : lostB l c = false := by simpa using List.any_eq_false.mp h c h2
  have hq : ∀ y, findC l y ≠ none → y ∈ namesOf l := fun y hy => by
    cases hf : findC l y with
    | none => exact absurd hf hy
    | some d => exact List.mem_map.mpr ⟨d, find_mem hf⟩
  rw [lostB_eq] at hl
  simp only [Bool.or_eq_false_iff, Bool.and_eq_false_iff, Bool.not_eq_false', decide_eq_true_eq] at hl
  have hx' : x ∈ nextP c := by simpa [nx, h1] using hx
  unfold nextP at hx'
  rcases List.mem_append.mp hx' with a | a
  · have := List.any_eq_false.mp hl.2 x a
    apply hq
    intro hn
    apply this
    have hn' : l.find? (fun y : GClass => decide (y.name = x)) = none := hn
    simp [noIf, hn']
  · by_cases hz : superL c = ⟨#[]⟩
    · simp [hz] at a
    · simp only [hz, if_false, List.mem_singleton] at a
      subst a
      rcases hl.1 with b | b
      · exact absurd b hz
      · apply hq
        intro hn
        have hn' : l.find? (fun y : GClass => decide (y.name = superL c)) = none := hn
        simp [noSup, hn'] at b

def hierP (p : GProgram) : Int := bif progB p then (bif decide ((mapL (allL p)).length < (allL p).length) then 6 else bif (allL p).any (lostB (allL p)) then 5 else bif (namesOf (allL p)).any (ringP (allL p)) then 7 else 0) else 4

/-- What the tree of a program is. -/
structure TreeOk (σ S : List Ob) (p : GProgram) : Prop where
  pre : ∃ X, S = σ ++ X
  cl : ∀ k, S.all (Ob.closed (S.length + k)) = true
  t : ∃ own names l, TreeAt S (σ.length + 3) (σ.length + 1) (σ.length + 2) own (hierP p) names l
  ok : hierP p = 0 → ∃ az, az.map (·.1) = namesOf (allL p) ∧ Inv1 σ S (allL p) az

theorem obj_in (p : GProgram) : sObject ∈ namesOf (allL p) := by
  simp [namesOf, allL, baseL]

theorem Inv0.setE {σ S : List Ob} {m : List GClass} {own : Int} {names : List ByteArray} (h : Inv0 σ S m own names) (E : Int) : (∃ X, S.set (σ.length + 3) (cT own E names (σ.length + 1) (σ.length + 2)) = σ ++ X) ∧ (∀ k, (S.set (σ.length + 3) (cT own E names (σ.length + 1) (σ.length + 2))).all (Ob.closed ((S.set (σ.length + 3) (cT own E names (σ.length + 1) (σ.length + 2))).length + k)) = true) ∧ TreeAt (S.set (σ.length + 3) (cT own E names (σ.length + 1) (σ.length + 2))) (σ.length + 3) (σ.length + 1) (σ.length + 2) own E names m := by
  have hT := get_lt h.t
  refine ⟨pre_set h.pre _ _, fun k => ?_, ?_, ?_⟩
  · rw [List.length_set]
    refine all_set (h.cl k) ?_
    simp [Ob.closed, C.closed, B.closed]; omega
  · rw [List.getElem?_set_self hT]
  · rw [List.getElem?_set_ne (by omega)]; exact h.a

theorem fn_of (p : GProgram) (hp : OkP p) {σ : List Ob} {lo tr : Nat} (hlo : lo ≤ σ.length) (htr : tr ≤ σ.length) (hσ : ∀ k, σ.all (Ob.closed (σ.length + k)) = true) : ∃ S, Fn fns 14 [vProgram p] σ lo tr = some (vptr (σ.length + 3), S) ∧ TreeOk σ S p := by
  rw [fn_eq t14 rfl rfl]
  have hch := fn_check0 p hp
  have hL := all_len hp
  have hcs := allL_ok hp
  have l1 : lo ≤ σ.length + 3 := by omega
  have l3 : tr ≤ σ.length + 3 := by omega
  cases hpb : progB p
  · rw [hpb] at hch
    refine ⟨σ ++ [cP p, .map [], .map [], cT 0 4 [] (σ.length + 1) (σ.length + 2)], ?_, ?_⟩
    · simp only [cond_false] at hch
      have hr : rows ([] : List ByteArray) = [] := rfl
      simp [KF, params, f14, ↓K_seq, ↓K_cond, ↓K_block, ↓K_region, ↓K_skip, ↓K_exit, ↓K_ret, ↓K_wrap, ↓KA_nil, ↓KA_none, ↓KA_some, beq_int, bne_int, dec_eqN, dec_ltN, dec_leN, stepOp, St.rd, St.raw, St.set, St.took, get_cons, V.down, C.down, Env.keep, binV, unV, arith, isShift, strs, intOf, optInt, wrapEnd, keptAt, andK, endOf, frzV, frz1, frzC, frzCs, frz1s, resOf, resOne, resAll, V.closed, V.closed1, C.closed, B.closed, Ob.closed, V.cells, partsIn, rep, chunk, datas, C.data, rowsOf, getCells, put_nil, put_zero, put_succ, mayWrite, C.plain, eqV_bool, eqV_agg, eqV_pnn, eqV_pnp, eqV_ppn, eqV_mnn, eqV_mmn, eqV_snn, eqV_sen, eqV_san, eqV_sdn, rs_len, rs_getE, rs_app, rs_take, rs_drop, rs_all, rs_each, row_len, ↓str_eq, str_nilP, str_nilE, str_nilB, vagg, row_Int, row_Bool, row_Str, k_Int, k_Bool, k_Str, snoc_Int, snoc_Bool, snoc_Str, row_Type, k_Type, snoc_Type, eta_Type, sames_Type, row_Field, k_Field, snoc_Field, eta_Field, sames_Field, row_Instr, k_Instr, snoc_Instr, eta_Instr, sames_Instr, row_Catch, k_Catch, snoc_Catch, eta_Catch, sames_Catch, row_Method, k_Method, snoc_Method, row_Class, k_Class, snoc_Class, row_Program, k_Program, snoc_Program, row_Slot, k_Slot, snoc_Slot, eta_Slot, sames_Slot, row_State, k_State, snoc_State, row_Val, k_Val, snoc_Val, eta_Val, sames_Val, row_Obj, k_Obj, snoc_Obj, row_Input, k_Input, snoc_Input, row_Frame, k_Frame, snoc_Frame, row_Run, k_Run, snoc_Run, row_Way, k_Way, snoc_Way, eta_Way, sames_Way, row_Task, k_Task, snoc_Task, eta_Task, sames_Task, List.getElem?_append_right, hch, hr]
    · have hE : hierP p = 4 := by simp [hierP, hpb]
      refine ⟨⟨_, rfl⟩, fun k => ?_, ⟨0, [], [], ?_⟩, fun h => by rw [hE] at h; cases h⟩
      · have := hσ (4 + k)
        simp only [List.length_append, List.all_append, List.length_cons, List.length_nil, Nat.zero_add, Nat.reduceAdd, Nat.add_assoc, this]
        simp [Ob.closed, C.closed, B.closed]; omega
      · rw [hE]
        exact ⟨by simp [List.getElem?_append_right], by simp [List.getElem?_append_right, entC]⟩
  -- a sound form
  rw [hpb] at hch
  simp only [cond_true] at hch
  have hbl : baseL.length = 8 := rfl
  have hw8 : IntKind.i64.wrap (((8 + p.classes.length : Nat) : Int) - (p.classes.length : Int)) = 8 := by rw [wrap_nat (by have := hp.len; omega) (by have := hp.len; omega)]; omega
  have q1 : 8 + p.classes.length ≤ 70368744177664 := by have := hp.len; omega
  have q2 : (8 + p.classes.length) * 112 ≤ 70368744177664 := by have := hp.len; omega
  have inv0 : Inv0 σ (σ ++ [cP p, .map [], .map [], cT 8 0 [] (σ.length + 1) (σ.length + 2)]) (mapL ((allL p).take 0)) 8 (namesOf ((allL p).take 0)) := by
    refine ⟨⟨_, rfl⟩, by simp [List.getElem?_append_right, namesOf], by simp [List.getElem?_append_right, mapL, entC], by simp [List.getElem?_append_right], fun k => ?_⟩
    have := hσ (4 + k)
    simp only [List.length_append, List.all_append, List.length_cons, List.length_nil, Nat.zero_add, Nat.reduceAdd, Nat.add_assoc, this]
    simp [Ob.closed, C.closed, B.closed]; omega
  obtain ⟨S1, i1, i2⟩ := of_l0 hlo htr (allL p) hL (allL p).length 0 _ (by omega) inv0
  simp only [Int.natCast_zero] at i2
  have hal : allL p = baseL ++ p.classes := rfl
  have hT := get_lt i1.t
  have hA := get_lt i1.a
  have ht := (List.getElem?_eq_some_iff.mp i1.t).2
  have ha := (List.getElem?_eq_some_iff.mp i1.a).2
  obtain ⟨X1, hX1⟩ := i1.pre
  have hSl : σ.length ≤ S1.length := by rw [hX1]; simp
  have hlen8 : (allL p).length = 8 + p.classes.length := by simp [allL, hbl]
  have hal' : baseL ++ p.classes = allL p := rfl
  have hr : rows ([] : List ByteArray) = [] := rfl
  have h35 : ((allL p).length : Int) = 8 + (p.classes.length : Int) := by rw [hlen8]; simp
  have w8 : IntKind.i64.wrap 8 = 8 := by decide
  have hec : ∀ l : List GClass, (entC l).length = l.length := fun l => by simp [entC]
  rw [h35] at i2
  simp only [cT, hr] at i2
  have hcl1 := i1.cl
  have tree1 : TreeAt S1 (σ.length + 3) (σ.length + 1) (σ.length + 2) 8 0 (namesOf (allL p)) (mapL (allL p)) := ⟨i1.t, i1.a⟩
  by_cases htw : (mapL (allL p)).length < (allL p).length
  · -- two of a name
    have hE : hierP p = 6 := by simp [hierP, hpb, htw]
    obtain ⟨e1, e2, e3⟩ := i1.setE 6
    refine ⟨S1.set (σ.length + 3) (cT 8 6 (namesOf (allL p)) (σ.length + 1) (σ.length + 2)), ?_, e1, e2, ⟨_, _, _, by rw [hE]; exact e3⟩, fun h => by rw [hE] at h; cases h⟩
    have htw' : ((mapL (allL p)).length : Int) < 8 + (p.classes.length : Int) := by omega
    generalize mapL (allL p) = ml at *
    generalize namesOf (allL p) = nl at *
    simp [KF, params, f14, ↓K_seq, ↓K_cond, ↓K_block, ↓K_region, ↓K_skip, ↓K_exit, ↓K_ret, ↓K_wrap, ↓KA_nil, ↓KA_none, ↓KA_some, beq_int, bne_int, dec_eqN, dec_ltN, dec_leN, stepOp, St.rd, St.raw, St.set, St.took, get_cons, V.down, C.down, Env.keep, binV, unV, arith, isShift, strs, intOf, optInt, wrapEnd, keptAt, andK, endOf, frzV, frz1, frzC, frzCs, frz1s, resOf, resOne, resAll, V.closed, V.closed1, C.closed, B.closed, Ob.closed, V.cells, partsIn, rep, chunk, datas, C.data, rowsOf, getCells, put_nil, put_zero, put_succ, mayWrite, C.plain, eqV_bool, eqV_agg, eqV_pnn, eqV_pnp, eqV_ppn, eqV_mnn, eqV_mmn, eqV_snn, eqV_sen, eqV_san, eqV_sdn, rs_len, rs_getE, rs_app, rs_take, rs_drop, rs_all, rs_each, row_len, ↓str_eq, str_nilP, str_nilE, str_nilB, vagg, row_Int, row_Bool, row_Str, k_Int, k_Bool, k_Str, snoc_Int, snoc_Bool, snoc_Str, row_Type, k_Type, snoc_Type, eta_Type, sames_Type, row_Field, k_Field, snoc_Field, eta_Field, sames_Field, row_Instr, k_Instr, snoc_Instr, eta_Instr, sames_Instr, row_Catch, k_Catch, snoc_Catch, eta_Catch, sames_Catch, row_Method, k_Method, snoc_Method, row_Class, k_Class, snoc_Class, row_Program, k_Program, snoc_Program, row_Slot, k_Slot, snoc_Slot, eta_Slot, sames_Slot, row_State, k_State, snoc_State, row_Val, k_Val, snoc_Val, eta_Val, sames_Val, row_Obj, k_Obj, snoc_Obj, row_Input, k_Input, snoc_Input, row_Frame, k_Frame, snoc_Frame, row_Run, k_Run, snoc_Run, row_Way, k_Way, snoc_Way, eta_Way, sames_Way, row_Task, k_Task, snoc_Task, eta_Task, sames_Task, List.getElem?_append_right, List.set_append_right, hch, fn_always, hbl, w8, q1, q2, hr, hal', hlen8, hec, l1, l3, i2, hT, hA, ht, ha, htw']
  obtain ⟨hml, hnd⟩ := mapL_eq htw
  have hE0 : hierP p = bif (allL p).any (lostB (allL p)) then 5 else bif (namesOf (allL p)).any (ringP (allL p)) then 7 else 0 := by simp [hierP, hpb, htw]
  rw [hml] at tree1 htw
  have ha := (List.getElem?_eq_some_iff.mp tree1.a).2
  have htw' : ¬ (((allL p).length : Int) < 8 + (p.classes.length : Int)) := by omega
  have l5 : lo ≤ S1.length := by omega
  have hTl : ∀ k, σ.length + 3 < S1.length + k := fun k => by omega
  have hlost : ∀ tr', Fn fns 25 [vsl (allL p), .c (.fn 26 [.ptr (σ.length + 3) 0] [])] S1 lo tr' = some (vbool ((allL p).any (lostB (allL p))), S1) := fun tr' =>
    fn_contC (allL p) 26 [.ptr (σ.length + 3) 0] [] S1 lo tr' l5 (by simp [C.closed, B.closed]) (by simp [C.closed, B.closed]; exact hT) (by simpa using hcl1 0) (by omega) (lostB (allL p))
      (fun i hi tr'' => fn_lost tree1 (allL p)[i] (hcs _ (List.getElem_mem hi)) _ _ (Nat.le_refl _) hcl1)
  cases hlo1 : (allL p).any (lostB (allL p))
  case true =>
    have hE : hierP p = 5 := by simp [hE0, hlo1]
    rw [hlo1] at hlost
    obtain ⟨e1, e2, e3⟩ := i1.setE 5
    rw [hml] at e3
    refine ⟨S1.set (σ.length + 3) (cT 8 5 (namesOf (allL p)) (σ.length + 1) (σ.length + 2)), ?_, e1, e2, ⟨_, _, _, by rw [hE]; exact e3⟩, fun h => by rw [hE] at h; cases h⟩
    generalize namesOf (allL p) = nl at *
    simp [KF, params, f14, ↓K_seq, ↓K_cond, ↓K_block, ↓K_region, ↓K_skip, ↓K_exit, ↓K_ret, ↓K_wrap, ↓KA_nil, ↓KA_none, ↓KA_some, beq_int, bne_int, dec_eqN, dec_ltN, dec_leN, stepOp, St.rd, St.raw, St.set, St.took, get_cons, V.down, C.down, Env.keep, binV, unV, arith, isShift, strs, intOf, optInt, wrapEnd, keptAt, andK, endOf, frzV, frz1, frzC, frzCs, frz1s, resOf, resOne, resAll, V.closed, V.closed1, C.closed, B.closed, Ob.closed, V.cells, partsIn, rep, chunk, datas, C.data, rowsOf, getCells, put_nil, put_zero, put_succ, mayWrite, C.plain, eqV_bool, eqV_agg, eqV_pnn, eqV_pnp, eqV_ppn, eqV_mnn, eqV_mmn, eqV_snn, eqV_sen, eqV_san, eqV_sdn, rs_len, rs_getE, rs_app, rs_take, rs_drop, rs_all, rs_each, row_len, ↓str_eq, str_nilP, str_nilE, str_nilB, vagg, row_Int, row_Bool, row_Str, k_Int, k_Bool, k_Str, snoc_Int, snoc_Bool, snoc_Str, row_Type, k_Type, snoc_Type, eta_Type, sames_Type, row_Field, k_Field, snoc_Field, eta_Field, sames_Field, row_Instr, k_Instr, snoc_Instr, eta_Instr, sames_Instr, row_Catch, k_Catch, snoc_Catch, eta_Catch, sames_Catch, row_Method, k_Method, snoc_Method, row_Class, k_Class, snoc_Class, row_Program, k_Program, snoc_Program, row_Slot, k_Slot, snoc_Slot, eta_Slot, sames_Slot, row_State, k_State, snoc_State, row_Val, k_Val, snoc_Val, eta_Val, sames_Val, row_Obj, k_Obj, snoc_Obj, row_Input, k_Input, snoc_Input, row_Frame, k_Frame, snoc_Frame, row_Run, k_Run, snoc_Run, row_Way, k_Way, snoc_Way, eta_Way, sames_Way, row_Task, k_Task, snoc_Task, eta_Task, sames_Task, List.getElem?_append_right, List.set_append_right, bsOf, hch, fn_always, hbl, w8, q1, q2, hr, hal', hlen8, hec, l1, l3, i2, hT, hA, ht, ha, htw', hlost]
  have hw := whole_of hlo1
  rw [hlo1] at hlost
  have hring : ∀ tr', Fn fns 27 [vsl (namesOf (allL p)), .c (.fn 28 [.ptr (σ.length + 3) 0] [])] S1 lo tr' = some (vbool ((namesOf (allL p)).any (ringP (allL p))), S1) := fun tr' =>
    fn_contS (namesOf (allL p)) 28 [.ptr (σ.length + 3) 0] [] S1 lo tr' l5 (by simp [C.closed, B.closed]) (by simp [C.closed, B.closed]; exact hT) (by simpa using hcl1 0) (by simp [namesOf]; omega) (ringP (allL p))
      (fun i hi tr'' => fn_ring tree1 hL hcs hw hcl1 _ (List.getElem_mem hi) _ _ (Nat.le_refl _))
  cases hri : (namesOf (allL p)).any (ringP (allL p))
  case true =>
    have hE : hierP p = 7 := by simp [hE0, hlo1, hri]
    rw [hri] at hring
    obtain ⟨e1, e2, e3⟩ := i1.setE 7
    rw [hml] at e3
    refine ⟨S1.set (σ.length + 3) (cT 8 7 (namesOf (allL p)) (σ.length + 1) (σ.length + 2)), ?_, e1, e2, ⟨_, _, _, by rw [hE]; exact e3⟩, fun h => by rw [hE] at h; cases h⟩
    generalize namesOf (allL p) = nl at *
    simp [KF, params, f14, ↓K_seq, ↓K_cond, ↓K_block, ↓K_region, ↓K_skip, ↓K_exit, ↓K_ret, ↓K_wrap, ↓KA_nil, ↓KA_none, ↓KA_some, beq_int, bne_int, dec_eqN, dec_ltN, dec_leN, stepOp, St.rd, St.raw, St.set, St.took, get_cons, V.down, C.down, Env.keep, binV, unV, arith, isShift, strs, intOf, optInt, wrapEnd, keptAt, andK, endOf, frzV, frz1, frzC, frzCs, frz1s, resOf, resOne, resAll, V.closed, V.closed1, C.closed, B.closed, Ob.closed, V.cells, partsIn, rep, chunk, datas, C.data, rowsOf, getCells, put_nil, put_zero, put_succ, mayWrite, C.plain, eqV_bool, eqV_agg, eqV_pnn, eqV_pnp, eqV_ppn, eqV_mnn, eqV_mmn, eqV_snn, eqV_sen, eqV_san, eqV_sdn, rs_len, rs_getE, rs_app, rs_take, rs_drop, rs_all, rs_each, row_len, ↓str_eq, str_nilP, str_nilE, str_nilB, vagg, row_Int, row_Bool, row_Str, k_Int, k_Bool, k_Str, snoc_Int, snoc_Bool, snoc_Str, row_Type, k_Type, snoc_Type, eta_Type, sames_Type, row_Field, k_Field, snoc_Field, eta_Field, sames_Field, row_Instr, k_Instr, snoc_Instr, eta_Instr, sames_Instr, row_Catch, k_Catch, snoc_Catch, eta_Catch, sames_Catch, row_Method, k_Method, snoc_Method, row_Class, k_Class, snoc_Class, row_Program, k_Program, snoc_Program, row_Slot, k_Slot, snoc_Slot, eta_Slot, sames_Slot, row_State, k_State, snoc_State, row_Val, k_Val, snoc_Val, eta_Val, sames_Val, row_Obj, k_Obj, snoc_Obj, row_Input, k_Input, snoc_Input, row_Frame, k_Frame, snoc_Frame, row_Run, k_Run, snoc_Run, row_Way, k_Way, snoc_Way, eta_Way, sames_Way, row_Task, k_Task, snoc_Task, eta_Task, sames_Task, List.getElem?_append_right, List.set_append_right, bsOf, hch, fn_always, hbl, w8, q1, q2, hr, hal', hlen8, hec, l1, l3, i2, hT, hA, ht, ha, htw', hlost, hring]
  have hE : hierP p = 0 := by simp [hE0, hlo1, hri]
  rw [hri] at hring
  rw [hml] at i1
  obtain ⟨S2, az, j1, j2, j3⟩ := of_l1 hlo htr (allL p) hL hcs hw hnd (obj_in p) (namesOf (allL p)).length 0 S1 [] (by omega) (by simp) ⟨i1.pre, i1.t, i1.a, i1.m, by simp, i1.cl⟩
  simp only [Int.natCast_zero] at j3
  refine ⟨S2, ?_, j2.pre, j2.cl, ⟨8, namesOf (allL p), allL p, by rw [hE]; exact ⟨j2.t, j2.a⟩⟩, fun _ => ⟨az, j1, j2⟩⟩
  generalize namesOf (allL p) = nl at *
  simp [KF, params, f14, ↓K_seq, ↓K_cond, ↓K_block, ↓K_region, ↓K_skip, ↓K_exit, ↓K_ret, ↓K_wrap, ↓KA_nil, ↓KA_none, ↓KA_some, beq_int, bne_int, dec_eqN, dec_ltN, dec_leN, stepOp, St.rd, St.raw, St.set, St.took, get_cons, V.down, C.down, Env.keep, binV, unV, arith, isShift, strs, intOf, optInt, wrapEnd, keptAt, andK, endOf, frzV, frz1, frzC, frzCs, frz1s, resOf, resOne, resAll, V.closed, V.closed1, C.closed, B.closed, Ob.closed, V.cells, partsIn, rep, chunk, datas, C.data, rowsOf, getCells, put_nil, put_zero, put_succ, mayWrite, C.plain, eqV_bool, eqV_agg, eqV_pnn, eqV_pnp, eqV_ppn, eqV_mnn, eqV_mmn, eqV_snn, eqV_sen, eqV_san, eqV_sdn, rs_len, rs_getE, rs_app, rs_take, rs_drop, rs_all, rs_each, row_len, ↓str_eq, str_nilP, str_nilE, str_nilB, vagg, row_Int, row_Bool, row_Str, k_Int, k_Bool, k_Str, snoc_Int, snoc_Bool, snoc_Str, row_Type, k_Type, snoc_Type, eta_Type, sames_Type, row_Field, k_Field, snoc_Field, eta_Field, sames_Field, row_Instr, k_Instr, snoc_Instr, eta_Instr, sames_Instr, row_Catch, k_Catch, snoc_Catch, eta_Catch, sames_Catch, row_Method, k_Method, snoc_Method, row_Class, k_Class, snoc_Class, row_Program, k_Program, snoc_Program, row_Slot, k_Slot, snoc_Slot, eta_Slot, sames_Slot, row_State, k_State, snoc_State, row_Val, k_Val, snoc_Val, eta_Val, sames_Val, row_Obj, k_Obj, snoc_Obj, row_Input, k_Input, snoc_Input, row_Frame, k_Frame, snoc_Frame, row_Run, k_Run, snoc_Run, row_Way, k_Way, snoc_Way, eta_Way, sames_Way, row_Task, k_Task, snoc_Task, eta_Task, sames_Task, List.getElem?_append_right, List.set_append_right, bsOf, hch, fn_always, hbl, w8, q1, q2, hr, hal', hlen8, hec, l1, l3, i2, hT, hA, ht, ha, htw', hlost, hring, j3]
end Go.Proofs.YthahhonmkhafkaaDoor.Am
