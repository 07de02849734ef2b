/- Turn, run: from the beginning to the end. -/
import Derived.Test.YtjkhkblabhaimaaIsoP
namespace Go.Proofs.Ytjkhkblabhaimaa.Am
open Go
set_option linter.unusedSimpArgs false
set_option linter.unusedVariables false
set_option maxRecDepth 100000 in
theorem fn23_1 (a : GInput) (x : Int) (more : Bool) (hne : a.heap ≠ []) (hn : a.heap.length < 1000000) (ha : a.args.length < 1000000) (hsl : ∀ o ∈ a.heap, o.slots.length < 1000000)
    (hia : ∀ v ∈ a.args, v.isRef = true → -1 ≤ v.n ∧ v.n < a.heap.length) (hih : ∀ o ∈ a.heap, ∀ v ∈ o.slots, v.isRef = true → -1 ≤ v.n ∧ v.n < a.heap.length) :
    ∃ s, s < a.heap.length ∧ ∀ σ lo tr, Fn fns 23 [vInput a, vint x, vbool more] σ lo tr = some (vInput ⟨a.args.map (tv a.heap.length s), turnH a.heap s ++ (if more then [⟨⟨4, ⟨#[]⟩⟩, []⟩] else [])⟩, σ) := by
  have hpos : 0 < a.heap.length := List.length_pos_iff.mpr hne
  obtain ⟨m1, s, hs, m2⟩ := byMod x hpos hn
  refine ⟨s, hs, fun σ lo tr => fn_gen t23 rfl (σ1 := []) rfl rfl ?_ σ lo tr⟩
  obtain ⟨c, τ, e2, e1, e3, e4, e5⟩ := mk25 a.args (by omega) [inCells a, .cells [.osl 2 [], .osl 3 []]] 0
  have hcall := e1 0 (by simp)
  have hn0 : ¬ a.heap.length = 0 := by omega
  have hn0' : ¬ (a.heap.length : Int) = 0 := by omega
  simp only [inCells] at hcall
  obtain ⟨x', σ1, ps, g1, g2, g3, g4, g5, g6, g7, g8⟩ := loop23 (a := a) (more := more) (c0 := c) (b := τ.length + 1 + 1) (N := τ.length + 1 + 1 + 1) hs hn hsl (by omega) (by omega) a.heap.length 0 .nils
    (inCells a :: .cells [.osl 2 [], .osl 3 []] :: (τ ++ [.cells [c, .b .nils]])) [] (by omega) (.inl ⟨rfl, rfl⟩) ⟨by simp, by simp, by simp⟩ (by simp [Inc]) (by simp) rfl (by simp) (by simp)
  simp only [E23, inCells, Int.natCast_zero] at g8
  have hc0 := e3 []
  rcases g1 with ⟨_, rfl⟩ | ⟨M, hx', hN⟩
  · have := congrArg List.length g7
    simp at this; omega
  simp only [V.c.injEq, C.b.injEq] at hx'
  subst hx'
  have hpl : ps.length = a.heap.length := by simpa using congrArg List.length g7
  have hmem : ∀ p ∈ ps, p.1 ∈ a.heap := by
    intro p hp
    have : p.1 ∈ (List.range a.heap.length).map (raw a.heap s) := by rw [← g7]; exact List.mem_map_of_mem hp
    obtain ⟨i, hi, he⟩ := List.mem_map.mp this
    have hlt : (i + s) % a.heap.length < a.heap.length := Nat.mod_lt _ hpos
    rw [← he, raw, List.getElem?_eq_getElem hlt]
    exact List.getElem_mem hlt
  have hNM : τ.length + 1 + 1 + 1 ≤ M := g2.1 _ _ _ _ rfl
  have hcN : ∀ m, pointsTo c = some m → 2 ≤ m ∧ m < τ.length + 2 := fun m hm => by have := e4 m hm; simp at this; omega
  have key : ∀ σ2 : List Ob, Fn fns 34 [.c c, vint a.heap.length, vint s] σ1 0 0 = some (.tup [], σ2) → (∀ l, pointsTo c ≠ some l → σ2[l]? = σ1[l]?) → SlotAt σ2 2 c (a.args.map (tv a.heap.length s)) →
      KF fns .pure f23 [vInput a, vint x, vbool more] [] 0 0 = some (vInput ⟨a.args.map (tv a.heap.length s), turnH a.heap s ++ (if more then [⟨⟨4, ⟨#[]⟩⟩, []⟩] else [])⟩, []) := by
    intro σ2 h34 hfr hsl2
    have hne' : ∀ l, τ.length + 2 ≤ l → σ2[l]? = σ1[l]? := fun l hl => hfr l fun h => by have := hcN l h; omega
    obtain ⟨σ3, H3, k2, k3⟩ := loop23b (more := more) (b := τ.length + 1 + 1) (N := τ.length + 1 + 1 + 1) (c0 := c) (M := M) (ps := ps) hs hn hpl (fun p hp => hsl _ (hmem p hp)) (fun p hp => hih _ (hmem p hp)) g3 g2 (fun p hp => (hN.slot p hp).2) (by omega) a.heap.length 0 σ2 (by omega)
      ⟨(hne' M (by omega)).trans hN.here, fun k hk => by
        rw [if_neg (by omega)]
        exact ((hN.slot _ (List.getElem_mem hk)).1).frame fun m hm => hne' m (by have := g2.2.1 _ (List.getElem_mem hk) m hm; omega)⟩ ((hne' _ (by omega)).trans g6)
    have hnest := half_nest H3 hpl (fun p hp => (hN.slot p hp).2)
    have hrows := turned_rows g7
    have b3 : σ3[τ.length + 1 + 1]? = some (.cells [c, .b (.arr 3 M 0 ps.length)]) := (k2 _ (by omega)).trans ((hne' _ (by omega)).trans g6)
    have o3 : σ3[1]? = some (.cells [.osl 2 [], .osl 3 []]) := (k2 1 (by omega)).trans ((hfr 1 fun h => by have := hcN 1 h; omega).trans ((g5 1 (by omega) (by omega)).trans rfl))
    have hl3 := hnest.here
    have hM3 : M < σ3.length := (List.getElem?_eq_some_iff.mp hl3).1
    have hc3 : SlotAt σ3 2 c (a.args.map (tv a.heap.length s)) := hsl2.frame fun m hm => k2 m (by have := hcN m hm; omega)
    simp only [E23b, Int.natCast_zero] at k3
    have hcase : (c = .b .nils ∧ a.args = []) ∨ ∃ m, c = .b (.arr 2 m 0 a.args.length) := by
      rcases hc0 with rfl | ⟨h1, h2⟩ | ⟨m, h1, _⟩
      · rcases e5 with h | ⟨m, h⟩ <;> cases h
      · exact .inl ⟨h1, h2⟩
      · exact .inr ⟨m, h1⟩
    have hZl := cellsN_len (ps.map (turnP a.heap.length s))
    have hZd := cellsN_down (fun p hp => (hnest.slot p hp).1)
    generalize hqs : ps.map (turnP a.heap.length s) = qs at *
    have hql : qs.length = ps.length := by rw [← hqs]; simp
    have h13 : ∀ X : Ob, (σ3.set 1 X)[1]? = some X := fun X => List.getElem?_set_self (by omega)
    cases more with
    | false =>
      have hn2 : Nest (σ3.set 1 (.cells [c, .b (.arr 3 M 0 ps.length)])) M qs := ⟨fun p hp => ⟨((hnest.slot p hp).1).frame fun m hm => List.getElem?_set_ne (by
          rw [← hqs] at hp
          obtain ⟨q, hq, rfl⟩ := List.mem_map.mp hp
          have := g2.2.1 q hq m hm
          omega), (hnest.slot p hp).2⟩, by rw [List.getElem?_set_ne (by omega)]; exact hnest.here⟩
      have hz2 := frzD_out hn2 (S := fun _ => true) (fun _ => rfl)
      rw [hql] at hz2
      rw [hrows] at hz2
      have hz1 : ∀ m, c = .b (.arr 2 m 0 a.args.length) → frzD (fun _ => true) (σ3.set 1 (.cells [c, .b (.arr 3 M 0 ps.length)])) 4 (.b (.arr 2 m 0 a.args.length)) = some (.sl (rows (a.args.map (tv a.heap.length s)))) := by
        intro m hm
        rcases hc3 with h | ⟨h, _⟩ | ⟨m', h, h'⟩
        · rw [h] at hm; cases hm
        · rw [h] at hm; cases hm
        · rw [h] at hm
          simp only [C.b.injEq, B.arr.injEq, true_and, List.length_map, and_true] at hm
          subst hm
          have h2 := hcN m' (by rw [h]; rfl)
          have hch := chunkF_cl (S := fun _ => true) (σ := σ3.set 1 (.cells [c, .b (.arr 3 M 0 ps.length)])) (f := 2) k_Val (a.args.map (tv a.heap.length s))
          rw [List.length_map] at hch
          rw [frz4]
          simp only [if_true, getCells, List.getElem?_set_ne (show 1 ≠ m' by omega), h', List.drop_zero, hch]
      rcases hcase with ⟨rfl, hnil⟩ | ⟨m, rfl⟩
      · have hrn : rows (a.args.map (tv a.heap.length s)) = [] := by rw [hnil]; rfl
        simp [KF, params, f23, ↓K_seq, ↓K_cond, ↓K_block, ↓K_region, ↓K_skip, ↓K_exit, ↓K_ret, ↓K_wrap, ↓KA_nil, ↓KA_none, ↓KA_some, beq_int, bne_int, dec_eqN, dec_ltN, dec_leN, stepOp, St.rd, St.raw, St.set, St.took, get_cons, V.down, C.down, Env.keep, binV, unV, arith, isShift, strs, intOf, optInt, wrapEnd, keptAt, andK, endOf, frzV, frz1, frzC, frzCs, frz1s, resOf, resOne, resAll, V.closed, V.closed1, C.closed, B.closed, Ob.closed, V.cells, partsIn, rep, chunk, datas, C.data, rowsOf, getCells, put_nil, put_zero, put_succ, mayWrite, C.plain, eqV_bool, eqV_agg, eqV_pnn, eqV_pnp, eqV_ppn, eqV_mnn, eqV_mmn, eqV_snn, eqV_sen, eqV_san, eqV_sdn, rs_len, rs_getE, rs_app, rs_take, rs_drop, rs_all, rs_each, row_len, str_eq, vagg, row_Int, row_Bool, row_Str, k_Int, k_Bool, k_Str, snoc_Int, snoc_Bool, snoc_Str, row_Type, k_Type, snoc_Type, eta_Type, sames_Type, row_Field, k_Field, snoc_Field, eta_Field, sames_Field, row_Instr, k_Instr, snoc_Instr, eta_Instr, sames_Instr, row_Catch, k_Catch, snoc_Catch, eta_Catch, sames_Catch, row_Method, k_Method, snoc_Method, row_Class, k_Class, snoc_Class, row_Program, k_Program, snoc_Program, row_Slot, k_Slot, snoc_Slot, eta_Slot, sames_Slot, row_State, k_State, snoc_State, row_Val, k_Val, snoc_Val, eta_Val, sames_Val, row_Obj, k_Obj, snoc_Obj, row_Input, k_Input, snoc_Input, row_Frame, k_Frame, snoc_Frame, row_Run, k_Run, snoc_Run, row_Way, k_Way, snoc_Way, eta_Way, sames_Way, row_Task, k_Task, snoc_Task, eta_Task, sames_Task, m1, m2, hn0, hn0', hcall, g8, g6, h34, k3, b3, o3, h13, hz2, hrn]
      · have hz1 := hz1 m rfl
        simp [KF, params, f23, ↓K_seq, ↓K_cond, ↓K_block, ↓K_region, ↓K_skip, ↓K_exit, ↓K_ret, ↓K_wrap, ↓KA_nil, ↓KA_none, ↓KA_some, beq_int, bne_int, dec_eqN, dec_ltN, dec_leN, stepOp, St.rd, St.raw, St.set, St.took, get_cons, V.down, C.down, Env.keep, binV, unV, arith, isShift, strs, intOf, optInt, wrapEnd, keptAt, andK, endOf, frzV, frz1, frzC, frzCs, frz1s, resOf, resOne, resAll, V.closed, V.closed1, C.closed, B.closed, Ob.closed, V.cells, partsIn, rep, chunk, datas, C.data, rowsOf, getCells, put_nil, put_zero, put_succ, mayWrite, C.plain, eqV_bool, eqV_agg, eqV_pnn, eqV_pnp, eqV_ppn, eqV_mnn, eqV_mmn, eqV_snn, eqV_sen, eqV_san, eqV_sdn, rs_len, rs_getE, rs_app, rs_take, rs_drop, rs_all, rs_each, row_len, str_eq, vagg, row_Int, row_Bool, row_Str, k_Int, k_Bool, k_Str, snoc_Int, snoc_Bool, snoc_Str, row_Type, k_Type, snoc_Type, eta_Type, sames_Type, row_Field, k_Field, snoc_Field, eta_Field, sames_Field, row_Instr, k_Instr, snoc_Instr, eta_Instr, sames_Instr, row_Catch, k_Catch, snoc_Catch, eta_Catch, sames_Catch, row_Method, k_Method, snoc_Method, row_Class, k_Class, snoc_Class, row_Program, k_Program, snoc_Program, row_Slot, k_Slot, snoc_Slot, eta_Slot, sames_Slot, row_State, k_State, snoc_State, row_Val, k_Val, snoc_Val, eta_Val, sames_Val, row_Obj, k_Obj, snoc_Obj, row_Input, k_Input, snoc_Input, row_Frame, k_Frame, snoc_Frame, row_Run, k_Run, snoc_Run, row_Way, k_Way, snoc_Way, eta_Way, sames_Way, row_Task, k_Task, snoc_Task, eta_Task, sames_Task, m1, m2, hn0, hn0', hcall, g8, g6, h34, k3, b3, o3, h13, hz2, hz1]
    | true =>
      let X : Ob := .cells [.b (.d (.int .i64 4)), .b (.d (.str ⟨#[]⟩)), .b .nils]
      have hb3 : τ.length + 1 + 1 < σ3.length := (List.getElem?_eq_some_iff.mp b3).1
      have hMg : ∀ Y : List Ob, (σ3 ++ Y)[M]? = some (.cells (cellsN qs)) := fun Y => by rw [List.getElem?_append_left hM3]; exact hnest.here
      have hMs : ∀ (Y : List Ob) (Z : Ob), (σ3 ++ Y).set M Z = σ3.set M Z ++ Y := fun Y Z => List.set_append_left _ _ hM3
      have hbg : ∀ Y : List Ob, (σ3.set M .dead ++ Y)[τ.length + 1 + 1]? = some (.cells [c, .b (.arr 3 M 0 ps.length)]) := fun Y => by
        rw [List.getElem?_append_left (by simpa using hb3), List.getElem?_set_ne (by omega)]; exact b3
      have hbs : ∀ (Y : List Ob) (Z : Ob), (σ3.set M .dead ++ Y).set (τ.length + 1 + 1) Z = (σ3.set M .dead).set (τ.length + 1 + 1) Z ++ Y := fun Y Z => List.set_append_left _ _ (by simpa using hb3)
      have hbg2 : ∀ (Y : List Ob) (Z : Ob), ((σ3.set M .dead).set (τ.length + 1 + 1) Z ++ Y)[τ.length + 1 + 1]? = some Z := fun Y Z => by
        rw [List.getElem?_append_left (by simpa using hb3), List.getElem?_set_self (by simpa using hb3)]
      have ho : ∀ (Y : List Ob) (Z : Ob), ((σ3.set M .dead).set (τ.length + 1 + 1) Z ++ Y)[1]? = some (.cells [.osl 2 [], .osl 3 []]) := fun Y Z => by
        rw [List.getElem?_append_left (by simp; omega), List.getElem?_set_ne (by omega), List.getElem?_set_ne (by omega)]; exact o3
      have hos : ∀ (Y : List Ob) (Z W : Ob), ((σ3.set M .dead).set (τ.length + 1 + 1) Z ++ Y).set 1 W = ((σ3.set M .dead).set (τ.length + 1 + 1) Z).set 1 W ++ Y := fun Y Z W => List.set_append_left _ _ (by simp; omega)
      have ho2 : ∀ (Y : List Ob) (Z W : Ob), (((σ3.set M .dead).set (τ.length + 1 + 1) Z).set 1 W ++ Y)[1]? = some W := fun Y Z W => by
        rw [List.getElem?_append_left (by simp; omega), List.getElem?_set_self (by simp; omega)]
      have ho' : ∀ (Y : List Ob) (Z : Ob) (h : 1 < ((σ3.set M .dead).set (τ.length + 1 + 1) Z ++ Y).length), ((σ3.set M .dead).set (τ.length + 1 + 1) Z ++ Y)[1]'h = .cells [.osl 2 [], .osl 3 []] := fun Y Z h => by
        have := ho Y Z
        rw [List.getElem?_eq_getElem h, Option.some.injEq] at this
        exact this
      have ho2' : ∀ (Y : List Ob) (Z W : Ob) (h : 1 < (((σ3.set M .dead).set (τ.length + 1 + 1) Z).set 1 W ++ Y).length), (((σ3.set M .dead).set (τ.length + 1 + 1) Z).set 1 W ++ Y)[1]'h = W := fun Y Z W h => by
        have := ho2 Y Z W
        rw [List.getElem?_eq_getElem h, Option.some.injEq] at this
        exact this
      have q1 : (ps.length + 1) * 48 ≤ 70368744177664 := by omega
      have q2 : ps.length + 1 ≤ 70368744177664 := by omega
      have q3 : ps.length ≤ 70368744177663 := by omega
      have hZt : (cellsN qs).take (ps.length * 3) = cellsN qs := List.take_of_length_le (by omega)
      have hZ2 : ps.length * 3 ≤ (cellsN qs).length := by omega
      -- the heap as it is then
      have hsn : cellsN qs ++ [.b (.d (.int .i64 4)), .b (.d (.str ⟨#[]⟩)), .b .nils] = cellsN (qs ++ [((⟨⟨4, ⟨#[]⟩⟩, []⟩ : GObj), C.b .nils)]) := by simp [cellsN, cells3]
      have hqr : (qs ++ [((⟨⟨4, ⟨#[]⟩⟩, []⟩ : GObj), C.b .nils)]).map (·.1) = turnH a.heap s ++ [⟨⟨4, ⟨#[]⟩⟩, []⟩] := by rw [List.map_append, hrows]; rfl
      have hfar : ∀ (Y : List Ob) (Z W : Ob) (l : Nat), l < σ3.length → l ≠ M → l ≠ τ.length + 1 + 1 → l ≠ 1 → (((σ3.set M .dead).set (τ.length + 1 + 1) Z).set 1 W ++ Y)[l]? = σ3[l]? := fun Y Z W l h1 h2 h3 h4 => by
        rw [List.getElem?_append_left (by simpa using h1), List.getElem?_set_ne (by omega), List.getElem?_set_ne (by omega), List.getElem?_set_ne (by omega)]
      have hn2 : ∀ (Z W : Ob), Nest (((σ3.set M .dead).set (τ.length + 1 + 1) Z).set 1 W ++ [X, .cells (cellsN qs ++ [.b (.d (.int .i64 4)), .b (.d (.str ⟨#[]⟩)), .b .nils])]) (σ3.length + 1) (qs ++ [((⟨⟨4, ⟨#[]⟩⟩, []⟩ : GObj), C.b .nils)]) := fun Z W => by
        refine ⟨fun p hp => ?_, ?_⟩
        · rcases List.mem_append.mp hp with hp | hp
          · have hp0 := hp
            rw [← hqs] at hp0
            obtain ⟨q, hq, hqe⟩ := List.mem_map.mp hp0
            have hpt : pointsTo p.2 = pointsTo q.2 := by rw [← hqe]; rfl
            have hslot := (hnest.slot p hp)
            refine ⟨(hslot.1).frame fun m hm => ?_, fun hm => ?_⟩
            · have h1 := slotAt_lt hslot.1 hm
              have h2 := g2.2.1 q hq m (by rw [← hpt]; exact hm)
              exact hfar _ _ _ m h1 (fun h => hslot.2 (by rw [hm, h])) (by omega) (by omega)
            · have h1 := slotAt_lt hslot.1 hm
              omega
          · simp only [List.mem_singleton] at hp
            subst hp
            exact ⟨.inr (.inl ⟨rfl, rfl⟩), by simp [pointsTo]⟩
        · rw [List.getElem?_append_right (by simp)]
          simp [hsn]
      have hz2 : ∀ (Z W : Ob), frzD (fun _ => true) (((σ3.set M .dead).set (τ.length + 1 + 1) Z).set 1 W ++ [X, .cells (cellsN qs ++ [.b (.d (.int .i64 4)), .b (.d (.str ⟨#[]⟩)), .b .nils])]) 4 (.b (.arr 3 (σ3.length + 1) 0 (ps.length + 1))) = some (.sl (rows (turnH a.heap s ++ [⟨⟨4, ⟨#[]⟩⟩, []⟩]))) := fun Z W => by
        have := frzD_out (hn2 Z W) (S := fun _ => true) (fun _ => rfl)
        rw [hqr] at this
        rw [List.length_append, hql] at this
        exact this
      have hz1 : ∀ (Y : List Ob) (Z W : Ob) m, c = .b (.arr 2 m 0 a.args.length) → frzD (fun _ => true) (((σ3.set M .dead).set (τ.length + 1 + 1) Z).set 1 W ++ Y) 4 (.b (.arr 2 m 0 a.args.length)) = some (.sl (rows (a.args.map (tv a.heap.length s)))) := by
        intro Y Z W m hm
        rcases hc3 with h | ⟨h, _⟩ | ⟨m', h, h'⟩
        · rw [h] at hm; cases hm
        · rw [h] at hm; cases hm
        · rw [h] at hm
          simp only [C.b.injEq, B.arr.injEq, true_and, List.length_map, and_true] at hm
          subst hm
          have h2 := hcN m' (by rw [h]; rfl)
          have hch := chunkF_cl (S := fun _ => true) (σ := ((σ3.set M .dead).set (τ.length + 1 + 1) Z).set 1 W ++ Y) (f := 2) k_Val (a.args.map (tv a.heap.length s))
          rw [List.length_map] at hch
          rw [frz4]
          simp only [if_true, getCells, hfar _ _ _ m' (by omega) (by omega) (by omega) (by omega), h', List.drop_zero, hch]
      simp only [X] at hz2
      rcases hcase with ⟨rfl, hnil⟩ | ⟨m, rfl⟩
      · have hrn : rows (a.args.map (tv a.heap.length s)) = [] := by rw [hnil]; rfl
        simp [KF, params, f23, ↓K_seq, ↓K_cond, ↓K_block, ↓K_region, ↓K_skip, ↓K_exit, ↓K_ret, ↓K_wrap, ↓KA_nil, ↓KA_none, ↓KA_some, beq_int, bne_int, dec_eqN, dec_ltN, dec_leN, stepOp, St.rd, St.raw, St.set, St.took, get_cons, V.down, C.down, Env.keep, binV, unV, arith, isShift, strs, intOf, optInt, wrapEnd, keptAt, andK, endOf, frzV, frz1, frzC, frzCs, frz1s, resOf, resOne, resAll, V.closed, V.closed1, C.closed, B.closed, Ob.closed, V.cells, partsIn, rep, chunk, datas, C.data, rowsOf, getCells, put_nil, put_zero, put_succ, mayWrite, C.plain, eqV_bool, eqV_agg, eqV_pnn, eqV_pnp, eqV_ppn, eqV_mnn, eqV_mmn, eqV_snn, eqV_sen, eqV_san, eqV_sdn, rs_len, rs_getE, rs_app, rs_take, rs_drop, rs_all, rs_each, row_len, str_eq, vagg, row_Int, row_Bool, row_Str, k_Int, k_Bool, k_Str, snoc_Int, snoc_Bool, snoc_Str, row_Type, k_Type, snoc_Type, eta_Type, sames_Type, row_Field, k_Field, snoc_Field, eta_Field, sames_Field, row_Instr, k_Instr, snoc_Instr, eta_Instr, sames_Instr, row_Catch, k_Catch, snoc_Catch, eta_Catch, sames_Catch, row_Method, k_Method, snoc_Method, row_Class, k_Class, snoc_Class, row_Program, k_Program, snoc_Program, row_Slot, k_Slot, snoc_Slot, eta_Slot, sames_Slot, row_State, k_State, snoc_State, row_Val, k_Val, snoc_Val, eta_Val, sames_Val, row_Obj, k_Obj, snoc_Obj, row_Input, k_Input, snoc_Input, row_Frame, k_Frame, snoc_Frame, row_Run, k_Run, snoc_Run, row_Way, k_Way, snoc_Way, eta_Way, sames_Way, row_Task, k_Task, snoc_Task, eta_Task, sames_Task, m1, m2, hn0, hn0', hcall, g8, g6, h34, k3, b3, o3, h13, hrn, elems, hMg, hMs, hbg, hbs, hbg2, ho, hos, ho2, ho', ho2', q1, q2, q3, hZt, hZ2, hZd, hz2]
      · have hz1 := fun Y Z W => hz1 Y Z W m rfl
        simp [KF, params, f23, ↓K_seq, ↓K_cond, ↓K_block, ↓K_region, ↓K_skip, ↓K_exit, ↓K_ret, ↓K_wrap, ↓KA_nil, ↓KA_none, ↓KA_some, beq_int, bne_int, dec_eqN, dec_ltN, dec_leN, stepOp, St.rd, St.raw, St.set, St.took, get_cons, V.down, C.down, Env.keep, binV, unV, arith, isShift, strs, intOf, optInt, wrapEnd, keptAt, andK, endOf, frzV, frz1, frzC, frzCs, frz1s, resOf, resOne, resAll, V.closed, V.closed1, C.closed, B.closed, Ob.closed, V.cells, partsIn, rep, chunk, datas, C.data, rowsOf, getCells, put_nil, put_zero, put_succ, mayWrite, C.plain, eqV_bool, eqV_agg, eqV_pnn, eqV_pnp, eqV_ppn, eqV_mnn, eqV_mmn, eqV_snn, eqV_sen, eqV_san, eqV_sdn, rs_len, rs_getE, rs_app, rs_take, rs_drop, rs_all, rs_each, row_len, str_eq, vagg, row_Int, row_Bool, row_Str, k_Int, k_Bool, k_Str, snoc_Int, snoc_Bool, snoc_Str, row_Type, k_Type, snoc_Type, eta_Type, sames_Type, row_Field, k_Field, snoc_Field, eta_Field, sames_Field, row_Instr, k_Instr, snoc_Instr, eta_Instr, sames_Instr, row_Catch, k_Catch, snoc_Catch, eta_Catch, sames_Catch, row_Method, k_Method, snoc_Method, row_Class, k_Class, snoc_Class, row_Program, k_Program, snoc_Program, row_Slot, k_Slot, snoc_Slot, eta_Slot, sames_Slot, row_State, k_State, snoc_State, row_Val, k_Val, snoc_Val, eta_Val, sames_Val, row_Obj, k_Obj, snoc_Obj, row_Input, k_Input, snoc_Input, row_Frame, k_Frame, snoc_Frame, row_Run, k_Run, snoc_Run, row_Way, k_Way, snoc_Way, eta_Way, sames_Way, row_Task, k_Task, snoc_Task, eta_Task, sames_Task, m1, m2, hn0, hn0', hcall, g8, g6, h34, k3, b3, o3, h13, elems, hMg, hMs, hbg, hbs, hbg2, ho, hos, ho2, ho', ho2', q1, q2, q3, hZt, hZ2, hZd, hz2, hz1]
  rcases hc0 with h | ⟨h1, h2⟩ | ⟨m, h1, h2⟩
  · rw [h] at e5; rcases e5 with h | ⟨m, h⟩ <;> cases h
  · subst h1
    exact key σ1 (fn34n σ1) (fun _ _ => rfl) (.inr (.inl ⟨rfl, by rw [h2]; rfl⟩))
  · subst h1
    have hm := hcN m rfl
    have hm1 : σ1[m]? = some (.cells (cellsOf a.args)) := by
      rw [g5 m (by omega) (by omega)]
      rw [← h2]
      rcases m with _ | _ | m
      · omega
      · omega
      · simp only [List.getElem?_cons_succ, List.append_nil, List.cons_append, List.nil_append]
        rw [List.getElem?_append_left (by omega)]
    have hml : m < σ1.length := by omega
    refine key _ (fn34w hm1 hs hn (by omega) hia) (fun l hl => List.getElem?_set_ne fun h => hl (by rw [h]; rfl)) (.inr (.inr ⟨m, by rw [List.length_map], by simp [hml]⟩))

theorem fn23_0 (a : GInput) (x : Int) (more : Bool) (hne : a.heap = []) (ha : a.args.length < 1000000) (σ : List Ob) (lo tr : Nat) : Fn fns 23 [vInput a, vint x, vbool more] σ lo tr = some (vInput a, σ) := by
  refine fn_gen t23 rfl (σ1 := []) rfl rfl ?_ σ lo tr
  have h := fn10 a (by omega) (by rw [hne]; simp) (by rw [hne]; simp)
  have hl : a.heap.length = 0 := by rw [hne]; rfl
  simp [KF, params, f23, ↓K_seq, ↓K_cond, ↓K_block, ↓K_region, ↓K_skip, ↓K_exit, ↓K_ret, ↓K_wrap, ↓KA_nil, ↓KA_none, ↓KA_some, beq_int, bne_int, dec_eqN, dec_ltN, dec_leN, stepOp, St.rd, St.raw, St.set, St.took, get_cons, V.down, C.down, Env.keep, binV, unV, arith, isShift, strs, intOf, optInt, wrapEnd, keptAt, andK, endOf, frzV, frz1, frzC, frzCs, frz1s, resOf, resOne, resAll, V.closed, V.closed1, C.closed, B.closed, Ob.closed, V.cells, partsIn, rep, chunk, datas, C.data, rowsOf, getCells, put_nil, put_zero, put_succ, mayWrite, C.plain, eqV_bool, eqV_agg, eqV_pnn, eqV_pnp, eqV_ppn, eqV_mnn, eqV_mmn, eqV_snn, eqV_sen, eqV_san, eqV_sdn, rs_len, rs_getE, rs_app, rs_take, rs_drop, rs_all, rs_each, row_len, str_eq, vagg, row_Int, row_Bool, row_Str, k_Int, k_Bool, k_Str, snoc_Int, snoc_Bool, snoc_Str, row_Type, k_Type, snoc_Type, eta_Type, sames_Type, row_Field, k_Field, snoc_Field, eta_Field, sames_Field, row_Instr, k_Instr, snoc_Instr, eta_Instr, sames_Instr, row_Catch, k_Catch, snoc_Catch, eta_Catch, sames_Catch, row_Method, k_Method, snoc_Method, row_Class, k_Class, snoc_Class, row_Program, k_Program, snoc_Program, row_Slot, k_Slot, snoc_Slot, eta_Slot, sames_Slot, row_State, k_State, snoc_State, row_Val, k_Val, snoc_Val, eta_Val, sames_Val, row_Obj, k_Obj, snoc_Obj, row_Input, k_Input, snoc_Input, row_Frame, k_Frame, snoc_Frame, row_Run, k_Run, snoc_Run, row_Way, k_Way, snoc_Way, eta_Way, sames_Way, row_Task, k_Task, snoc_Task, eta_Task, sames_Task, h, hl]
end Go.Proofs.Ytjkhkblabhaimaa.Am
