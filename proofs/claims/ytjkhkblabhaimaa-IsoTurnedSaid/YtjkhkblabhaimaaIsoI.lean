/- Slices of objects whose slots lie in objects; the page's Canon. -/
import Derived.Test.YtjkhkblabhaimaaIsoH
namespace Go.Proofs.Ytjkhkblabhaimaa.Am
set_option linter.unusedSimpArgs false
set_option linter.unusedVariables false
open Go

theorem frz4 {S : Nat → Bool} {σ : List Ob} {k l off len : Nat} : frzD S σ 4 (.b (.arr k l off len)) = (if S l = true then match getCells σ l with
    | some cs => match chunkF (frzD S σ 3) k len (cs.drop off) with
      | some rows => some (.sl rows)
      | none => none
    | none => none
  else none) := rfl

def pointsTo : C → Option Nat
  | .b (.arr _ m _ _) => some m
  | _ => none

/-- A cell that holds a slice: plain, nil, or in an object. -/
def SlotAt {α : Type} [Rec α] (σ : List Ob) (k : Nat) (c : C) (l : List α) : Prop :=
  c = .b (.d (.sl (rows l))) ∨ (c = .b .nils ∧ l = []) ∨ ∃ m, c = .b (.arr k m 0 l.length) ∧ σ[m]? = some (.cells (cellsOf l))

theorem SlotAt.frame {α : Type} [Rec α] {σ σ' : List Ob} {k : Nat} {c : C} {l : List α} (h : SlotAt σ k c l) (hf : ∀ m, pointsTo c = some m → σ'[m]? = σ[m]?) : SlotAt σ' k c l := by
  rcases h with h | h | ⟨m, h1, h2⟩
  · exact .inl h
  · exact .inr (.inl h)
  · exact .inr (.inr ⟨m, h1, by rw [hf m (by rw [h1]; rfl)]; exact h2⟩)

theorem SlotAt.frz {α : Type} [Rec α] {σ : List Ob} {k : Nat} {c : C} {l : List α} (hk : Rec.k α = k) (h : SlotAt σ k c l) {S : Nat → Bool} (hS : ∀ m, S m = true) : frzD S σ 3 c = some (.sl (rows l)) := by
  rcases h with rfl | ⟨rfl, rfl⟩ | ⟨m, rfl, h2⟩
  · rfl
  · rfl
  · have e : frzD S σ 3 (.b (.arr k m 0 l.length)) = (if S m = true then match getCells σ m with
        | some cs => match chunkF (frzD S σ 2) k l.length (cs.drop 0) with
          | some rows => some (.sl rows)
          | none => none
        | none => none
      else none) := rfl
    rw [e, hS, if_pos rfl]
    simp only [getCells, h2, List.drop_zero, chunkF_cl hk]

def cells3 (p : GObj × C) : List C := [.b (.d (.int .i64 p.1.type_.kind)), .b (.d (.str p.1.type_.name)), p.2]
def cellsN (ps : List (GObj × C)) : List C := ps.flatMap cells3
theorem cellsN_len : ∀ ps : List (GObj × C), (cellsN ps).length = ps.length * 3
  | [] => rfl
  | p :: ps => by
    have := cellsN_len ps
    simp only [cellsN, List.flatMap_cons, List.length_append, List.length_cons] at this ⊢
    rw [this]; simp [cells3]; omega
theorem cellsN_snoc (ps : List (GObj × C)) (p : GObj × C) : cellsN (ps ++ [p]) = cellsN ps ++ cells3 p := by simp [cellsN]

theorem SlotAt.down {α : Type} [Rec α] {σ : List Ob} {k : Nat} {c : C} {l : List α} (h : SlotAt σ k c l) : c.down = c := by
  rcases h with rfl | ⟨rfl, rfl⟩ | ⟨m, rfl, h2⟩ <;> rfl

/-- Objects whose slots may lie in objects. -/
structure Nest (σ : List Ob) (M : Nat) (ps : List (GObj × C)) : Prop where
  slot : ∀ p ∈ ps, SlotAt σ 2 p.2 p.1.slots ∧ pointsTo p.2 ≠ some M
  here : σ[M]? = some (.cells (cellsN ps))

def OutAt (σ : List Ob) (v : V) (ps : List (GObj × C)) : Prop := (v = .c (.b .nils) ∧ ps = []) ∨ ∃ M, v = .c (.b (.arr 3 M 0 ps.length)) ∧ Nest σ M ps

theorem cellsN_down {σ : List Ob} : ∀ {ps : List (GObj × C)}, (∀ p ∈ ps, SlotAt σ 2 p.2 p.1.slots) → (cellsN ps).map C.down = cellsN ps
  | [], _ => rfl
  | p :: ps, h => by
    have ih := cellsN_down (ps := ps) (fun q hq => h q (by simp [hq]))
    have h0 := (h p (by simp)).down
    simp only [cellsN, List.flatMap_cons, List.map_append] at ih ⊢
    rw [ih]
    simp [cells3, C.down] at h0 ⊢
    exact h0

theorem frz_cellsN {σ : List Ob} {S : Nat → Bool} (hS : ∀ m, S m = true) : ∀ {ps : List (GObj × C)}, (∀ p ∈ ps, SlotAt σ 2 p.2 p.1.slots) → chunkF (frzD S σ 3) 3 ps.length (cellsN ps) = some (rows (ps.map (·.1)))
  | [], _ => rfl
  | p :: ps, h => by
    have ih := frz_cellsN (S := S) hS (ps := ps) (fun q hq => h q (by simp [hq]))
    have h0 := (h p (by simp)).frz k_Val hS
    have e : cellsN (p :: ps) = cells3 p ++ cellsN ps := rfl
    rw [e, List.length_cons]
    simp only [chunkF]
    have e1 : (cells3 p ++ cellsN ps).take 3 = cells3 p := rfl
    have e2 : (cells3 p ++ cellsN ps).drop 3 = cellsN ps := rfl
    have e3 : datasF (frzD S σ 3) (cells3 p) = some (Rec.row p.1) := by
      simp only [cells3, datasF, h0]
      rfl
    rw [e1, e2, e3, ih]
    rfl

theorem frz_out {σ : List Ob} {v : V} {ps : List (GObj × C)} (h : OutAt σ v ps) {S : Nat → Bool} (hS : ∀ m, S m = true) : frz1 S σ v = some (vsl (ps.map (·.1))) := by
  rcases h with ⟨rfl, rfl⟩ | ⟨M, rfl, hn⟩
  · rfl
  · simp only [frz1, frzC, hS, if_true, frz4, getCells, hn.here, List.drop_zero]
    rw [frz_cellsN hS (fun p hp => (hn.slot p hp).1)]

theorem out_down {σ : List Ob} {v : V} {ps : List (GObj × C)} (h : OutAt σ v ps) : v.down = v := by
  rcases h with ⟨rfl, rfl⟩ | ⟨M, rfl, hn⟩ <;> rfl

-- Canon

def bx (kd : Int) (nm : ByteArray) (c : C) : Ob := .cells [.b (.d (.int .i64 kd)), .b (.d (.str nm)), c]
/-- The slot's cell behind so many appends; the objects from the box on. -/
def slC (n : Nat) : Nat → C
  | 0 => .b .nils
  | i + 1 => .b (.arr 2 (n + (i + 1)) 0 (i + 1))
def slO (kd : Int) (nm : ByteArray) (n : Nat) (l : List GVal) : Nat → List Ob
  | 0 => [bx kd nm (slC n 0)]
  | i + 1 => bx kd nm (slC n (i + 1)) :: (List.replicate i Ob.dead ++ [.cells (cellsOf (l.take (i + 1)))])

theorem take_cellsV {l : List GVal} {i : Nat} (hi : i < l.length) : cellsOf (l.take (i + 1)) = cellsOf (l.take i) ++ [.b (.d (.bool l[i].isRef)), .b (.d (.int .i64 l[i].n))] := by
  rw [List.take_succ_eq_append_getElem hi, ← cl_app]
  rfl

theorem inner12 {h : List GObj} {r : List GVal} {o : List Int} {v : V} {i j : Nat} (hi : i < o.length) (hj : o[i] = (j : Int)) (hjl : j < h.length) (ho : o.length < 1000000000) (hs : h[j].slots.length < 1000000) (kd : Int) (nm : ByteArray) (σ0 : List Ob)
    {k : AExit → St → Option (V × List Ob)} : K fns ⟨0, 0⟩ f12_l0 ⟨[(0, vsl h), (1, vsl r), (6, vsl o), (7, v), (8, vint i), (9, .c (.b (.ptr σ0.length 0))), (10, vint 0)], σ0 ++ [bx kd nm (.b .nils)]⟩ k =
    k (.exit 2) ⟨[(0, vsl h), (1, vsl r), (6, vsl o), (7, v), (8, vint i), (9, .c (.b (.ptr σ0.length 0)))], σ0 ++ slO kd nm σ0.length (h[j].slots.map (ren o)) h[j].slots.length⟩ := by
  have := scan_on (n := h[j].slots.length) (X := fun q => K fns ⟨0, 0⟩ f12_l0 ⟨[(0, vsl h), (1, vsl r), (6, vsl o), (7, v), (8, vint i), (9, .c (.b (.ptr σ0.length 0))), (10, vint q)], σ0 ++ slO kd nm σ0.length (h[j].slots.map (ren o)) q⟩ k)
    (fun q hq => by
      have hw := wrap_succ (i := q) (by omega)
      have hq' : q < (h[j].slots.map (ren o)).length := by simpa using hq
      have hf := fn29 o h[j].slots[q] ho
      have hC := take_cellsV hq'
      have hgq : (h[j].slots.map (ren o))[q] = ren o h[j].slots[q] := by simp
      rw [hgq] at hC
      show K fns _ f12_l0 _ k = _
      rw [u12_l0]
      generalize h[j].slots.map (ren o) = sl at *
      generalize ren o h[j].slots[q] = rv at *
      rcases Nat.eq_zero_or_pos q with rfl | hpos
      · simp only [slO, slC]
        rw [hC]
        have hw1 : IntKind.i64.wrap 1 = 1 := rfl
        simp [f12_b0, ↓K_seq, ↓K_cond, ↓K_block, ↓K_region, ↓K_skip, ↓K_exit, ↓K_ret, ↓K_wrap, ↓KA_nil, ↓KA_none, ↓KA_some, beq_int, bne_int, dec_eqN, dec_ltN, dec_leN, stepOp, St.rd, St.raw, St.set, St.took, get_cons, V.down, C.down, Env.keep, binV, unV, arith, isShift, strs, intOf, optInt, wrapEnd, keptAt, andK, endOf, frzV, frz1, frzC, frzCs, frz1s, resOf, resOne, resAll, V.closed, V.closed1, C.closed, B.closed, Ob.closed, V.cells, partsIn, rep, chunk, datas, C.data, rowsOf, getCells, put_nil, put_zero, put_succ, mayWrite, C.plain, eqV_bool, eqV_agg, eqV_pnn, eqV_pnp, eqV_ppn, eqV_mnn, eqV_mmn, eqV_snn, eqV_sen, eqV_san, eqV_sdn, rs_len, rs_getE, rs_app, rs_take, rs_drop, rs_all, rs_each, row_len, str_eq, vagg, row_Int, row_Bool, row_Str, k_Int, k_Bool, k_Str, snoc_Int, snoc_Bool, snoc_Str, row_Type, k_Type, snoc_Type, eta_Type, sames_Type, row_Field, k_Field, snoc_Field, eta_Field, sames_Field, row_Instr, k_Instr, snoc_Instr, eta_Instr, sames_Instr, row_Catch, k_Catch, snoc_Catch, eta_Catch, sames_Catch, row_Method, k_Method, snoc_Method, row_Class, k_Class, snoc_Class, row_Program, k_Program, snoc_Program, row_Slot, k_Slot, snoc_Slot, eta_Slot, sames_Slot, row_State, k_State, snoc_State, row_Val, k_Val, snoc_Val, eta_Val, sames_Val, row_Obj, k_Obj, snoc_Obj, row_Input, k_Input, snoc_Input, row_Frame, k_Frame, snoc_Frame, row_Run, k_Run, snoc_Run, row_Way, k_Way, snoc_Way, eta_Way, sames_Way, row_Task, k_Task, snoc_Task, eta_Task, sames_Task, hi, hj, hjl, hq, hw1, hf, elems, cl_nil, bx]
      · obtain ⟨j', hij⟩ : ∃ j', j' + 1 = q := ⟨q - 1, by omega⟩
        have eC : slC σ0.length q = .b (.arr 2 (σ0.length + q) 0 q) := by subst hij; rfl
        have eO : slO kd nm σ0.length sl q = bx kd nm (.b (.arr 2 (σ0.length + q) 0 q)) :: (List.replicate j' Ob.dead ++ [.cells (cellsOf (sl.take q))]) := by subst hij; rfl
        have eO' : slO kd nm σ0.length sl (q + 1) = bx kd nm (.b (.arr 2 (σ0.length + (q + 1)) 0 (q + 1))) :: (List.replicate q Ob.dead ++ [.cells (cellsOf (sl.take (q + 1)))]) := rfl
        have hlen : (cellsOf (sl.take q)).length = q * 2 := by rw [cl_len k_Val, List.length_take, Nat.min_eq_left (by omega)]
        have htk : (cellsOf (sl.take q)).take (q * 2) = cellsOf (sl.take q) := List.take_of_length_le (by omega)
        have hdn : (cellsOf (sl.take q)).map C.down = cellsOf (sl.take q) := cl_down _
        have hrep : List.replicate q Ob.dead = List.replicate j' Ob.dead ++ [Ob.dead] := by rw [← hij, List.replicate_succ']
        have q1 : (q + 1) * 16 ≤ 70368744177664 := by omega
        have q2 : q + 1 ≤ 70368744177664 := by omega
        rw [eO, eO', hC, hrep]
        generalize cellsOf (sl.take q) = Z at *
        have ge : ∀ B X : Ob, (σ0 ++ (B :: (List.replicate j' Ob.dead ++ [X])))[σ0.length + q]? = some X := fun B X => by
          rw [List.getElem?_append_right (by omega), Nat.add_sub_cancel_left, ← hij, List.getElem?_cons_succ, List.getElem?_append_right (by simp)]
          simp
        have ge2 : ∀ (B X : Ob) (hh : q < (B :: (List.replicate j' Ob.dead ++ [X])).length), (B :: (List.replicate j' Ob.dead ++ [X]))[q] = X := fun B X hh => by
          have := ge B X
          rw [List.getElem?_append_right (by omega), Nat.add_sub_cancel_left, List.getElem?_eq_getElem hh, Option.some.injEq] at this
          exact this
        have se : ∀ B X Y : Ob, (σ0 ++ (B :: (List.replicate j' Ob.dead ++ [X]))).set (σ0.length + q) Y = σ0 ++ (B :: (List.replicate j' Ob.dead ++ [Y])) := fun B X Y => by
          rw [List.set_append_right _ _ (by omega), Nat.add_sub_cancel_left, ← hij, List.set_cons_succ, List.set_append_right _ _ (by simp)]
          simp
        have s0 : ∀ (B Y : Ob) (R : List Ob), (σ0 ++ (B :: R)).set σ0.length Y = σ0 ++ (Y :: R) := fun B Y R => by
          rw [List.set_append_right _ _ (by omega), Nat.sub_self, List.set_cons_zero]
        simp [f12_b0, ↓K_seq, ↓K_cond, ↓K_block, ↓K_region, ↓K_skip, ↓K_exit, ↓K_ret, ↓K_wrap, ↓KA_nil, ↓KA_none, ↓KA_some, beq_int, bne_int, dec_eqN, dec_ltN, dec_leN, stepOp, St.rd, St.raw, St.set, St.took, get_cons, V.down, C.down, Env.keep, binV, unV, arith, isShift, strs, intOf, optInt, wrapEnd, keptAt, andK, endOf, frzV, frz1, frzC, frzCs, frz1s, resOf, resOne, resAll, V.closed, V.closed1, C.closed, B.closed, Ob.closed, V.cells, partsIn, rep, chunk, datas, C.data, rowsOf, getCells, put_nil, put_zero, put_succ, mayWrite, C.plain, eqV_bool, eqV_agg, eqV_pnn, eqV_pnp, eqV_ppn, eqV_mnn, eqV_mmn, eqV_snn, eqV_sen, eqV_san, eqV_sdn, rs_len, rs_getE, rs_app, rs_take, rs_drop, rs_all, rs_each, row_len, str_eq, vagg, row_Int, row_Bool, row_Str, k_Int, k_Bool, k_Str, snoc_Int, snoc_Bool, snoc_Str, row_Type, k_Type, snoc_Type, eta_Type, sames_Type, row_Field, k_Field, snoc_Field, eta_Field, sames_Field, row_Instr, k_Instr, snoc_Instr, eta_Instr, sames_Instr, row_Catch, k_Catch, snoc_Catch, eta_Catch, sames_Catch, row_Method, k_Method, snoc_Method, row_Class, k_Class, snoc_Class, row_Program, k_Program, snoc_Program, row_Slot, k_Slot, snoc_Slot, eta_Slot, sames_Slot, row_State, k_State, snoc_State, row_Val, k_Val, snoc_Val, eta_Val, sames_Val, row_Obj, k_Obj, snoc_Obj, row_Input, k_Input, snoc_Input, row_Frame, k_Frame, snoc_Frame, row_Run, k_Run, snoc_Run, row_Way, k_Way, snoc_Way, eta_Way, sames_Way, row_Task, k_Task, snoc_Task, eta_Task, sames_Task, hi, hj, hjl, hq, hw, hf, elems, bx, ge, ge2, se, s0, hlen, q1, q2, htk, hdn, hij])
  refine this.trans ?_
  show K fns _ f12_l0 _ k = _
  rw [u12_l0]
  simp [f12_b0, ↓K_seq, ↓K_cond, ↓K_block, ↓K_region, ↓K_skip, ↓K_exit, ↓K_ret, ↓K_wrap, ↓KA_nil, ↓KA_none, ↓KA_some, beq_int, bne_int, dec_eqN, dec_ltN, dec_leN, stepOp, St.rd, St.raw, St.set, St.took, get_cons, V.down, C.down, Env.keep, binV, unV, arith, isShift, strs, intOf, optInt, wrapEnd, keptAt, andK, endOf, frzV, frz1, frzC, frzCs, frz1s, resOf, resOne, resAll, V.closed, V.closed1, C.closed, B.closed, Ob.closed, V.cells, partsIn, rep, chunk, datas, C.data, rowsOf, getCells, put_nil, put_zero, put_succ, mayWrite, C.plain, eqV_bool, eqV_agg, eqV_pnn, eqV_pnp, eqV_ppn, eqV_mnn, eqV_mmn, eqV_snn, eqV_sen, eqV_san, eqV_sdn, rs_len, rs_getE, rs_app, rs_take, rs_drop, rs_all, rs_each, row_len, str_eq, vagg, row_Int, row_Bool, row_Str, k_Int, k_Bool, k_Str, snoc_Int, snoc_Bool, snoc_Str, row_Type, k_Type, snoc_Type, eta_Type, sames_Type, row_Field, k_Field, snoc_Field, eta_Field, sames_Field, row_Instr, k_Instr, snoc_Instr, eta_Instr, sames_Instr, row_Catch, k_Catch, snoc_Catch, eta_Catch, sames_Catch, row_Method, k_Method, snoc_Method, row_Class, k_Class, snoc_Class, row_Program, k_Program, snoc_Program, row_Slot, k_Slot, snoc_Slot, eta_Slot, sames_Slot, row_State, k_State, snoc_State, row_Val, k_Val, snoc_Val, eta_Val, sames_Val, row_Obj, k_Obj, snoc_Obj, row_Input, k_Input, snoc_Input, row_Frame, k_Frame, snoc_Frame, row_Run, k_Run, snoc_Run, row_Way, k_Way, snoc_Way, eta_Way, sames_Way, row_Task, k_Task, snoc_Task, eta_Task, sames_Task, hi, hj, hjl]

theorem slO_ok (kd : Int) (nm : ByteArray) (σ0 : List Ob) (sl : List GVal) : ∃ (c : C) (R : List Ob), slO kd nm σ0.length sl sl.length = bx kd nm c :: R ∧ c.down = c ∧ (∀ X, SlotAt (σ0 ++ (bx kd nm c :: R) ++ X) 2 c sl) ∧ ∀ m, pointsTo c = some m → σ0.length < m ∧ m < σ0.length + (R.length + 1) := by
  cases hn : sl.length with
  | zero =>
    refine ⟨.b .nils, [], rfl, rfl, fun X => .inr (.inl ⟨rfl, List.eq_nil_of_length_eq_zero hn⟩), fun m h => by cases h⟩
  | succ n =>
    refine ⟨slC σ0.length (n + 1), _, rfl, rfl, fun X => .inr (.inr ⟨σ0.length + (n + 1), by rw [hn]; rfl, ?_⟩), fun m h => ?_⟩
    · rw [List.append_assoc, List.getElem?_append_right (by omega), Nat.add_sub_cancel_left, List.cons_append, List.getElem?_cons_succ, List.append_assoc, List.getElem?_append_right (by simp)]
      have : sl.take (n + 1) = sl := List.take_of_length_le (by omega)
      simp [this]
    · simp only [slC, pointsTo, Option.some.injEq] at h
      subst h
      simp

theorem nest_frame {σ σ' : List Ob} {ps : List (GObj × C)} (h : ∀ p ∈ ps, SlotAt σ 2 p.2 p.1.slots) (hf : ∀ p ∈ ps, ∀ m, pointsTo p.2 = some m → σ'[m]? = σ[m]?) : ∀ p ∈ ps, SlotAt σ' 2 p.2 p.1.slots :=
  fun p hp => (h p hp).frame (hf p hp)

theorem slotAt_lt {α : Type} [Rec α] {σ : List Ob} {k : Nat} {c : C} {l : List α} (h : SlotAt σ k c l) {m : Nat} (hm : pointsTo c = some m) : m < σ.length := by
  rcases h with rfl | ⟨rfl, _⟩ | ⟨m', rfl, h2⟩
  · cases hm
  · cases hm
  · cases hm; exact (List.getElem?_eq_some_iff.mp h2).1

theorem step12 {h : List GObj} {r : List GVal} {o : List Int} {v : V} {i j : Nat} (hi : i < o.length) (hj : o[i] = (j : Int)) (hjl : j < h.length) (ho : o.length < 1000000000) (hs : h[j].slots.length < 1000000) {σ0 : List Ob} {ps : List (GObj × C)} (hO : OutAt σ0 v ps) (hps : ps.length = i) :
    ∃ v' σ' c, OutAt σ' v' (ps ++ [(⟨h[j].type_, h[j].slots.map (ren o)⟩, c)]) ∧ ∀ k : AExit → St → Option (V × List Ob), K fns ⟨0, 0⟩ f12_l1 ⟨[(0, vsl h), (1, vsl r), (6, vsl o), (7, v), (8, vint i)], σ0⟩ k =
      K fns ⟨0, 0⟩ f12_l1 ⟨[(0, vsl h), (1, vsl r), (6, vsl o), (7, v'), (8, vint (i + 1 : Nat))], σ'⟩ k := by
  obtain ⟨c, R, e1, e2, e3, e4⟩ := slO_ok h[j].type_.kind h[j].type_.name σ0 (h[j].slots.map (ren o))
  have hin := fun (k : AExit → St → Option (V × List Ob)) => inner12 (r := r) (v := v) hi hj hjl ho hs h[j].type_.kind h[j].type_.name σ0 (k := k)
  have hlenm : (h[j].slots.map (ren o)).length = h[j].slots.length := by simp
  rw [← hlenm, e1] at hin
  have hw := wrap_succ (i := i) (by omega)
  have hdown : v.down = v := out_down hO
  generalize hsl : h[j].slots.map (ren o) = sl at *
  have hfz : ∀ X : List Ob, (bx h[j].type_.kind h[j].type_.name c :: R) ++ X = bx h[j].type_.kind h[j].type_.name c :: (R ++ X) := fun X => rfl
  have e2' := e2
  simp only [C.down] at e2'
  let obj : Ob := bx h[j].type_.kind h[j].type_.name c
  have s0 : ∀ (B Y : Ob) (R : List Ob), (σ0 ++ (B :: R)).set σ0.length Y = σ0 ++ (Y :: R) := fun B Y R => by
    rw [List.set_append_right _ _ (by omega), Nat.sub_self, List.set_cons_zero]
  rcases hO with ⟨rfl, rfl⟩ | ⟨M, rfl, hN⟩
  · have hi0 : i = 0 := by simpa using hps.symm
    subst hi0
    refine ⟨.c (.b (.arr 3 (σ0.length + (R.length + 1 + 1)) 0 1)), σ0 ++ (bx h[j].type_.kind h[j].type_.name c :: R) ++ [obj, obj], c, .inr ⟨_, rfl, ?_, ?_⟩, fun k => ?_⟩
    · intro p hp
      simp only [List.nil_append, List.mem_singleton] at hp
      subst hp
      exact ⟨e3 _, fun hm => by have := e4 _ hm; omega⟩
    · rw [List.getElem?_append_right (by simp)]
      have : σ0.length + (R.length + 1 + 1) - (σ0 ++ (bx h[j].type_.kind h[j].type_.name c :: R)).length = 1 := by simp; omega
      rw [this]
      rfl
    · rw [u12_l1]
      have hw1 : IntKind.i64.wrap 1 = 1 := rfl
      simp [bx] at hin s0
      simp [f12_b1, ↓K_seq, ↓K_cond, ↓K_block, ↓K_region, ↓K_skip, ↓K_exit, ↓K_ret, ↓K_wrap, ↓KA_nil, ↓KA_none, ↓KA_some, beq_int, bne_int, dec_eqN, dec_ltN, dec_leN, stepOp, St.rd, St.raw, St.set, St.took, get_cons, V.down, C.down, Env.keep, binV, unV, arith, isShift, strs, intOf, optInt, wrapEnd, keptAt, andK, endOf, frzV, frz1, frzC, frzCs, frz1s, resOf, resOne, resAll, V.closed, V.closed1, C.closed, B.closed, Ob.closed, V.cells, partsIn, rep, chunk, datas, C.data, rowsOf, getCells, put_nil, put_zero, put_succ, mayWrite, C.plain, eqV_bool, eqV_agg, eqV_pnn, eqV_pnp, eqV_ppn, eqV_mnn, eqV_mmn, eqV_snn, eqV_sen, eqV_san, eqV_sdn, rs_len, rs_getE, rs_app, rs_take, rs_drop, rs_all, rs_each, row_len, str_eq, vagg, row_Int, row_Bool, row_Str, k_Int, k_Bool, k_Str, snoc_Int, snoc_Bool, snoc_Str, row_Type, k_Type, snoc_Type, eta_Type, sames_Type, row_Field, k_Field, snoc_Field, eta_Field, sames_Field, row_Instr, k_Instr, snoc_Instr, eta_Instr, sames_Instr, row_Catch, k_Catch, snoc_Catch, eta_Catch, sames_Catch, row_Method, k_Method, snoc_Method, row_Class, k_Class, snoc_Class, row_Program, k_Program, snoc_Program, row_Slot, k_Slot, snoc_Slot, eta_Slot, sames_Slot, row_State, k_State, snoc_State, row_Val, k_Val, snoc_Val, eta_Val, sames_Val, row_Obj, k_Obj, snoc_Obj, row_Input, k_Input, snoc_Input, row_Frame, k_Frame, snoc_Frame, row_Run, k_Run, snoc_Run, row_Way, k_Way, snoc_Way, eta_Way, sames_Way, row_Task, k_Task, snoc_Task, eta_Task, sames_Task, hi, hj, hjl, hw1, hin, elems, bx, s0, e2', obj]
  · have hM : M < σ0.length := (List.getElem?_eq_some_iff.mp hN.here).1
    have hZl := cellsN_len ps
    have hZd := cellsN_down (fun p hp => (hN.slot p hp).1)
    have hZt : (cellsN ps).take (ps.length * 3) = cellsN ps := List.take_of_length_le (by omega)
    have hMg : ∀ X, (σ0 ++ X)[M]? = some (.cells (cellsN ps)) := fun X => by rw [List.getElem?_append_left hM]; exact hN.here
    have hMs : ∀ (X : List Ob) (Y : Ob), (σ0 ++ X).set M Y = σ0.set M Y ++ X := fun X Y => List.set_append_left _ _ hM
    refine ⟨.c (.b (.arr 3 (σ0.length + (R.length + 1 + 1)) 0 (ps.length + 1))), σ0.set M .dead ++ (bx h[j].type_.kind h[j].type_.name c :: R) ++ [obj, .cells (cellsN (ps ++ [(⟨h[j].type_, sl⟩, c)]))], c, .inr ⟨σ0.length + (R.length + 1 + 1), by simp, ?_, ?_⟩, fun k => ?_⟩
    · intro p hp
      rcases List.mem_append.mp hp with hp | hp
      · obtain ⟨h1, h2⟩ := hN.slot p hp
        refine ⟨h1.frame (fun m hm => ?_), fun hm => ?_⟩
        · have := slotAt_lt h1 hm
          rw [List.append_assoc, List.getElem?_append_left (by simpa using this), List.getElem?_set_ne]
          rintro rfl; exact h2 hm
        · have := slotAt_lt h1 hm
          omega
      · simp only [List.mem_singleton] at hp
        subst hp
        refine ⟨(e3 [obj, .cells (cellsN (ps ++ [(⟨h[j].type_, sl⟩, c)]))]).frame (fun m hm => ?_), fun hm => by have := e4 _ hm; omega⟩
        have := e4 _ hm
        have g1 : ∀ (A X : List Ob), A.length ≤ m → (A ++ X)[m]? = X[m - A.length]? := fun A X h => List.getElem?_append_right h
        rw [List.append_assoc, List.append_assoc, g1 (σ0.set M .dead) _ (by simp; omega), g1 σ0 _ (by omega), List.length_set]
    · rw [List.getElem?_append_right (by simp)]
      have : σ0.length + (R.length + 1 + 1) - (σ0.set M .dead ++ (bx h[j].type_.kind h[j].type_.name c :: R)).length = 1 := by simp; omega
      rw [this]
      rfl
    · rw [u12_l1]
      have q1 : (ps.length + 1) * 48 ≤ 70368744177664 := by omega
      have q2 : ps.length + 1 ≤ 70368744177664 := by omega
      simp [bx] at hin s0
      rw [cellsN_snoc]
      subst hps
      generalize cellsN ps = Z at *
      simp [f12_b1, ↓K_seq, ↓K_cond, ↓K_block, ↓K_region, ↓K_skip, ↓K_exit, ↓K_ret, ↓K_wrap, ↓KA_nil, ↓KA_none, ↓KA_some, beq_int, bne_int, dec_eqN, dec_ltN, dec_leN, stepOp, St.rd, St.raw, St.set, St.took, get_cons, V.down, C.down, Env.keep, binV, unV, arith, isShift, strs, intOf, optInt, wrapEnd, keptAt, andK, endOf, frzV, frz1, frzC, frzCs, frz1s, resOf, resOne, resAll, V.closed, V.closed1, C.closed, B.closed, Ob.closed, V.cells, partsIn, rep, chunk, datas, C.data, rowsOf, getCells, put_nil, put_zero, put_succ, mayWrite, C.plain, eqV_bool, eqV_agg, eqV_pnn, eqV_pnp, eqV_ppn, eqV_mnn, eqV_mmn, eqV_snn, eqV_sen, eqV_san, eqV_sdn, rs_len, rs_getE, rs_app, rs_take, rs_drop, rs_all, rs_each, row_len, str_eq, vagg, row_Int, row_Bool, row_Str, k_Int, k_Bool, k_Str, snoc_Int, snoc_Bool, snoc_Str, row_Type, k_Type, snoc_Type, eta_Type, sames_Type, row_Field, k_Field, snoc_Field, eta_Field, sames_Field, row_Instr, k_Instr, snoc_Instr, eta_Instr, sames_Instr, row_Catch, k_Catch, snoc_Catch, eta_Catch, sames_Catch, row_Method, k_Method, snoc_Method, row_Class, k_Class, snoc_Class, row_Program, k_Program, snoc_Program, row_Slot, k_Slot, snoc_Slot, eta_Slot, sames_Slot, row_State, k_State, snoc_State, row_Val, k_Val, snoc_Val, eta_Val, sames_Val, row_Obj, k_Obj, snoc_Obj, row_Input, k_Input, snoc_Input, row_Frame, k_Frame, snoc_Frame, row_Run, k_Run, snoc_Run, row_Way, k_Way, snoc_Way, eta_Way, sames_Way, row_Task, k_Task, snoc_Task, eta_Task, sames_Task, hi, hj, hjl, hw, hin, elems, bx, s0, e2', obj, hMg, hMs, hZl, hZd, hZt, q1, q2, cells3]

def canonOb (h : List GObj) (o : List Int) (i : Int) : GObj := ⟨((h[i.toNat]?).getD default).type_, (slotsAt h i).map (ren o)⟩

theorem loop12 {h : List GObj} {r : List GVal} {o : List Int} (ho : o.length < 1000000000) (hin : ∀ x ∈ o, 0 ≤ x ∧ x < h.length) (hs : ∀ x ∈ h, x.slots.length < 1000000) : ∀ (n i : Nat) (v : V) (σ0 : List Ob) (ps : List (GObj × C)), i + n = o.length → OutAt σ0 v ps → ps.map (·.1) = (o.take i).map (canonOb h o) →
    ∃ v' σ' ps', OutAt σ' v' ps' ∧ ps'.map (·.1) = o.map (canonOb h o) ∧ ∀ k : AExit → St → Option (V × List Ob), K fns ⟨0, 0⟩ f12_l1 ⟨[(0, vsl h), (1, vsl r), (6, vsl o), (7, v), (8, vint i)], σ0⟩ k = k (.exit 0) ⟨[(1, vsl r), (6, vsl o), (7, v')], σ'⟩
  | 0, i, v, σ0, ps, hn, hO, hps => by
    have hi : i = o.length := by omega
    subst hi
    refine ⟨v, σ0, ps, hO, by simpa using hps, fun k => ?_⟩
    rw [u12_l1]
    simp [f12_b1, ↓K_seq, ↓K_cond, ↓K_block, ↓K_region, ↓K_skip, ↓K_exit, ↓K_ret, ↓K_wrap, ↓KA_nil, ↓KA_none, ↓KA_some, beq_int, bne_int, dec_eqN, dec_ltN, dec_leN, stepOp, St.rd, St.raw, St.set, St.took, get_cons, V.down, C.down, Env.keep, binV, unV, arith, isShift, strs, intOf, optInt, wrapEnd, keptAt, andK, endOf, frzV, frz1, frzC, frzCs, frz1s, resOf, resOne, resAll, V.closed, V.closed1, C.closed, B.closed, Ob.closed, V.cells, partsIn, rep, chunk, datas, C.data, rowsOf, getCells, put_nil, put_zero, put_succ, mayWrite, C.plain, eqV_bool, eqV_agg, eqV_pnn, eqV_pnp, eqV_ppn, eqV_mnn, eqV_mmn, eqV_snn, eqV_sen, eqV_san, eqV_sdn, rs_len, rs_getE, rs_app, rs_take, rs_drop, rs_all, rs_each, row_len, str_eq, vagg, row_Int, row_Bool, row_Str, k_Int, k_Bool, k_Str, snoc_Int, snoc_Bool, snoc_Str, row_Type, k_Type, snoc_Type, eta_Type, sames_Type, row_Field, k_Field, snoc_Field, eta_Field, sames_Field, row_Instr, k_Instr, snoc_Instr, eta_Instr, sames_Instr, row_Catch, k_Catch, snoc_Catch, eta_Catch, sames_Catch, row_Method, k_Method, snoc_Method, row_Class, k_Class, snoc_Class, row_Program, k_Program, snoc_Program, row_Slot, k_Slot, snoc_Slot, eta_Slot, sames_Slot, row_State, k_State, snoc_State, row_Val, k_Val, snoc_Val, eta_Val, sames_Val, row_Obj, k_Obj, snoc_Obj, row_Input, k_Input, snoc_Input, row_Frame, k_Frame, snoc_Frame, row_Run, k_Run, snoc_Run, row_Way, k_Way, snoc_Way, eta_Way, sames_Way, row_Task, k_Task, snoc_Task, eta_Task, sames_Task]
  | n + 1, i, v, σ0, ps, hn, hO, hps => by
    have hi : i < o.length := by omega
    obtain ⟨j, hj⟩ : ∃ j : Nat, o[i] = j := ⟨o[i].toNat, by have := hin _ (List.getElem_mem hi); omega⟩
    have hjl : j < h.length := by have := hin _ (List.getElem_mem hi); omega
    have hlen : ps.length = i := by
      have := congrArg List.length hps
      simpa [Nat.min_eq_left (Nat.le_of_lt hi)] using this
    obtain ⟨v1, σ1, c, h1, h2⟩ := step12 (r := r) hi hj hjl ho (hs _ (List.getElem_mem hjl)) hO hlen
    obtain ⟨v', σ', ps', h3, h4, h5⟩ := loop12 (r := r) ho hin hs n (i + 1) v1 σ1 _ (by omega) h1 (by
      rw [List.map_append, hps, List.take_succ_eq_append_getElem hi, List.map_append]
      simp [canonOb, hj, hjl, slotsAt_nat hjl])
    exact ⟨v', σ', ps', h3, h4, fun k => (h2 k).trans (h5 k)⟩

theorem frzD_out {σ : List Ob} {M : Nat} {ps : List (GObj × C)} (hn : Nest σ M ps) {S : Nat → Bool} (hS : ∀ m, S m = true) : frzD S σ 4 (.b (.arr 3 M 0 ps.length)) = some (.sl (rows (ps.map (·.1)))) := by
  simp only [hS, if_true, frz4, getCells, hn.here, List.drop_zero]
  rw [frz_cellsN hS (fun p hp => (hn.slot p hp).1)]

theorem fn12 {h : List GObj} {roots : List GVal} (H : Small h roots) (σ : List Ob) (lo tr : Nat) : Fn fns 12 [vsl h, vsl roots] σ lo tr = some (.tup [vsl (canon h roots).1, vsl (canon h roots).2], σ) := by
  refine fn_gen t12 rfl (σ1 := []) rfl rfl ?_ σ lo tr
  have h1 := fn16 H
  have hol := order_len H
  have hin := order_in h roots
  have hc1 : (canon h roots).1 = (order h roots).map (canonOb h (order h roots)) := rfl
  have hc2 : (canon h roots).2 = roots.map (ren (order h roots)) := rfl
  have hr := H.roots
  obtain ⟨v', σ', ps', h3, h4, h5⟩ := loop12 (r := roots) hol hin H.slots _ 0 (.c (.b .nils)) [] [] (Nat.zero_add _) (.inl ⟨rfl, rfl⟩) rfl
  rw [← hc1] at h4
  rw [hc2]
  replace h5 : ∀ k : AExit → St → Option (V × List Ob), K fns ⟨0, 0⟩ f12_l1 ⟨[(0, vsl h), (1, vsl roots), (6, vsl (order h roots)), (7, .c (.b .nils)), (8, vint 0)], []⟩ k = k (.exit 0) ⟨[(1, vsl roots), (6, vsl (order h roots)), (7, v')], σ'⟩ := h5
  generalize order h roots = o at *
  generalize (canon h roots).1 = q at *
  have L : ∀ k : AExit → St → Option (V × List Ob), K fns ⟨0, 0⟩ f12_l2 ⟨[(1, vsl roots), (6, vsl o), (7, v'), (11, .c (.osl 2 [])), (12, vint 0)], σ'⟩ k =
      k (.exit 4) ⟨[(7, v'), (11, .c (.osl 2 (rows (roots.map (ren o)))))], σ'⟩ := fun k =>
    scan_map (l := roots) (f := ren o)
      (X := fun i c => K fns ⟨0, 0⟩ f12_l2 ⟨[(1, vsl roots), (6, vsl o), (7, v'), (11, .c (.osl 2 (rows c))), (12, vint i)], σ'⟩ k)
      (e := fun c => k (.exit 4) ⟨[(7, v'), (11, .c (.osl 2 (rows c)))], σ'⟩)
      (fun i c hi hc => by
        have hw := wrap_succ (i := i) (by omega)
        have hcl : c.length = i := by rw [hc]; simp; omega
        have hf := fn29 o roots[i] hol
        have q1 : c.length + 1 ≤ 70368744177664 := by omega
        have q2 : (c.length + 1) * 16 ≤ 70368744177664 := by omega
        show K fns _ f12_l2 _ k = _
        rw [u12_l2]
        simp [f12_b2, ↓K_seq, ↓K_cond, ↓K_block, ↓K_region, ↓K_skip, ↓K_exit, ↓K_ret, ↓K_wrap, ↓KA_nil, ↓KA_none, ↓KA_some, beq_int, bne_int, dec_eqN, dec_ltN, dec_leN, stepOp, St.rd, St.raw, St.set, St.took, get_cons, V.down, C.down, Env.keep, binV, unV, arith, isShift, strs, intOf, optInt, wrapEnd, keptAt, andK, endOf, frzV, frz1, frzC, frzCs, frz1s, resOf, resOne, resAll, V.closed, V.closed1, C.closed, B.closed, Ob.closed, V.cells, partsIn, rep, chunk, datas, C.data, rowsOf, getCells, put_nil, put_zero, put_succ, mayWrite, C.plain, eqV_bool, eqV_agg, eqV_pnn, eqV_pnp, eqV_ppn, eqV_mnn, eqV_mmn, eqV_snn, eqV_sen, eqV_san, eqV_sdn, rs_len, rs_getE, rs_app, rs_take, rs_drop, rs_all, rs_each, row_len, str_eq, vagg, row_Int, row_Bool, row_Str, k_Int, k_Bool, k_Str, snoc_Int, snoc_Bool, snoc_Str, row_Type, k_Type, snoc_Type, eta_Type, sames_Type, row_Field, k_Field, snoc_Field, eta_Field, sames_Field, row_Instr, k_Instr, snoc_Instr, eta_Instr, sames_Instr, row_Catch, k_Catch, snoc_Catch, eta_Catch, sames_Catch, row_Method, k_Method, snoc_Method, row_Class, k_Class, snoc_Class, row_Program, k_Program, snoc_Program, row_Slot, k_Slot, snoc_Slot, eta_Slot, sames_Slot, row_State, k_State, snoc_State, row_Val, k_Val, snoc_Val, eta_Val, sames_Val, row_Obj, k_Obj, snoc_Obj, row_Input, k_Input, snoc_Input, row_Frame, k_Frame, snoc_Frame, row_Run, k_Run, snoc_Run, row_Way, k_Way, snoc_Way, eta_Way, sames_Way, row_Task, k_Task, snoc_Task, eta_Task, sames_Task, hi, hw, hf, q1, q2])
      (fun c hc => by
        show K fns _ f12_l2 _ k = _
        rw [u12_l2]
        simp [f12_b2, ↓K_seq, ↓K_cond, ↓K_block, ↓K_region, ↓K_skip, ↓K_exit, ↓K_ret, ↓K_wrap, ↓KA_nil, ↓KA_none, ↓KA_some, beq_int, bne_int, dec_eqN, dec_ltN, dec_leN, stepOp, St.rd, St.raw, St.set, St.took, get_cons, V.down, C.down, Env.keep, binV, unV, arith, isShift, strs, intOf, optInt, wrapEnd, keptAt, andK, endOf, frzV, frz1, frzC, frzCs, frz1s, resOf, resOne, resAll, V.closed, V.closed1, C.closed, B.closed, Ob.closed, V.cells, partsIn, rep, chunk, datas, C.data, rowsOf, getCells, put_nil, put_zero, put_succ, mayWrite, C.plain, eqV_bool, eqV_agg, eqV_pnn, eqV_pnp, eqV_ppn, eqV_mnn, eqV_mmn, eqV_snn, eqV_sen, eqV_san, eqV_sdn, rs_len, rs_getE, rs_app, rs_take, rs_drop, rs_all, rs_each, row_len, str_eq, vagg, row_Int, row_Bool, row_Str, k_Int, k_Bool, k_Str, snoc_Int, snoc_Bool, snoc_Str, row_Type, k_Type, snoc_Type, eta_Type, sames_Type, row_Field, k_Field, snoc_Field, eta_Field, sames_Field, row_Instr, k_Instr, snoc_Instr, eta_Instr, sames_Instr, row_Catch, k_Catch, snoc_Catch, eta_Catch, sames_Catch, row_Method, k_Method, snoc_Method, row_Class, k_Class, snoc_Class, row_Program, k_Program, snoc_Program, row_Slot, k_Slot, snoc_Slot, eta_Slot, sames_Slot, row_State, k_State, snoc_State, row_Val, k_Val, snoc_Val, eta_Val, sames_Val, row_Obj, k_Obj, snoc_Obj, row_Input, k_Input, snoc_Input, row_Frame, k_Frame, snoc_Frame, row_Run, k_Run, snoc_Run, row_Way, k_Way, snoc_Way, eta_Way, sames_Way, row_Task, k_Task, snoc_Task, eta_Task, sames_Task])
  rcases h3 with ⟨rfl, rfl⟩ | ⟨M, rfl, hN⟩
  · have hq : q = [] := by simpa using h4.symm
    subst hq
    simp [KF, params, f12, ↓K_seq, ↓K_cond, ↓K_block, ↓K_region, ↓K_skip, ↓K_exit, ↓K_ret, ↓K_wrap, ↓KA_nil, ↓KA_none, ↓KA_some, beq_int, bne_int, dec_eqN, dec_ltN, dec_leN, stepOp, St.rd, St.raw, St.set, St.took, get_cons, V.down, C.down, Env.keep, binV, unV, arith, isShift, strs, intOf, optInt, wrapEnd, keptAt, andK, endOf, frzV, frz1, frzC, frzCs, frz1s, resOf, resOne, resAll, V.closed, V.closed1, C.closed, B.closed, Ob.closed, V.cells, partsIn, rep, chunk, datas, C.data, rowsOf, getCells, put_nil, put_zero, put_succ, mayWrite, C.plain, eqV_bool, eqV_agg, eqV_pnn, eqV_pnp, eqV_ppn, eqV_mnn, eqV_mmn, eqV_snn, eqV_sen, eqV_san, eqV_sdn, rs_len, rs_getE, rs_app, rs_take, rs_drop, rs_all, rs_each, row_len, str_eq, vagg, row_Int, row_Bool, row_Str, k_Int, k_Bool, k_Str, snoc_Int, snoc_Bool, snoc_Str, row_Type, k_Type, snoc_Type, eta_Type, sames_Type, row_Field, k_Field, snoc_Field, eta_Field, sames_Field, row_Instr, k_Instr, snoc_Instr, eta_Instr, sames_Instr, row_Catch, k_Catch, snoc_Catch, eta_Catch, sames_Catch, row_Method, k_Method, snoc_Method, row_Class, k_Class, snoc_Class, row_Program, k_Program, snoc_Program, row_Slot, k_Slot, snoc_Slot, eta_Slot, sames_Slot, row_State, k_State, snoc_State, row_Val, k_Val, snoc_Val, eta_Val, sames_Val, row_Obj, k_Obj, snoc_Obj, row_Input, k_Input, snoc_Input, row_Frame, k_Frame, snoc_Frame, row_Run, k_Run, snoc_Run, row_Way, k_Way, snoc_Way, eta_Way, sames_Way, row_Task, k_Task, snoc_Task, eta_Task, sames_Task, h1, h5, L, rs_nil]
  · have hfz := frzD_out hN (S := fun _ => true) (fun _ => rfl)
    rw [h4] at hfz
    simp [KF, params, f12, ↓K_seq, ↓K_cond, ↓K_block, ↓K_region, ↓K_skip, ↓K_exit, ↓K_ret, ↓K_wrap, ↓KA_nil, ↓KA_none, ↓KA_some, beq_int, bne_int, dec_eqN, dec_ltN, dec_leN, stepOp, St.rd, St.raw, St.set, St.took, get_cons, V.down, C.down, Env.keep, binV, unV, arith, isShift, strs, intOf, optInt, wrapEnd, keptAt, andK, endOf, frzV, frz1, frzC, frzCs, frz1s, resOf, resOne, resAll, V.closed, V.closed1, C.closed, B.closed, Ob.closed, V.cells, partsIn, rep, chunk, datas, C.data, rowsOf, getCells, put_nil, put_zero, put_succ, mayWrite, C.plain, eqV_bool, eqV_agg, eqV_pnn, eqV_pnp, eqV_ppn, eqV_mnn, eqV_mmn, eqV_snn, eqV_sen, eqV_san, eqV_sdn, rs_len, rs_getE, rs_app, rs_take, rs_drop, rs_all, rs_each, row_len, str_eq, vagg, row_Int, row_Bool, row_Str, k_Int, k_Bool, k_Str, snoc_Int, snoc_Bool, snoc_Str, row_Type, k_Type, snoc_Type, eta_Type, sames_Type, row_Field, k_Field, snoc_Field, eta_Field, sames_Field, row_Instr, k_Instr, snoc_Instr, eta_Instr, sames_Instr, row_Catch, k_Catch, snoc_Catch, eta_Catch, sames_Catch, row_Method, k_Method, snoc_Method, row_Class, k_Class, snoc_Class, row_Program, k_Program, snoc_Program, row_Slot, k_Slot, snoc_Slot, eta_Slot, sames_Slot, row_State, k_State, snoc_State, row_Val, k_Val, snoc_Val, eta_Val, sames_Val, row_Obj, k_Obj, snoc_Obj, row_Input, k_Input, snoc_Input, row_Frame, k_Frame, snoc_Frame, row_Run, k_Run, snoc_Run, row_Way, k_Way, snoc_Way, eta_Way, sames_Way, row_Task, k_Task, snoc_Task, eta_Task, sames_Task, h1, h5, L, hfz]

theorem fn19 {h g : List GObj} {x y : List GVal} (H : Small h x) (G : Small g y) (σ : List Ob) (lo tr : Nat) : Fn fns 19 [vsl h, vsl x, vsl g, vsl y] σ lo tr = some (vbool (decide (canon h x = canon g y)), σ) := by
  refine fn_gen t19 rfl (σ1 := []) rfl rfl ?_ σ lo tr
  have h1 := fn12 H
  have h2 := fn12 G
  have h3 := fn18 (canon h x).2 (canon g y).2 (by have := H.roots; simp [canon]; omega)
  have h4 := fn17 (canon h x).1 (canon g y).1 (by have := order_len H; simpa [canon] using this) (by
    intro o ho
    simp only [canon, List.mem_map] at ho
    obtain ⟨i, hi, rfl⟩ := ho
    have := order_in h x i hi
    obtain ⟨j, rfl⟩ : ∃ j : Nat, i = j := ⟨i.toNat, by omega⟩
    have hj : j < h.length := by omega
    have := H.slots _ (List.getElem_mem hj)
    simp [slotsAt_nat hj]; omega)
  have hp : canon h x = canon g y ↔ (canon h x).1 = (canon g y).1 ∧ (canon h x).2 = (canon g y).2 := Prod.ext_iff
  simp only [hp]
  cases hd1 : decide ((canon h x).1 = (canon g y).1)
  · have hc1 := of_decide_eq_false hd1
    simp [KF, params, f19, ↓K_seq, ↓K_cond, ↓K_block, ↓K_region, ↓K_skip, ↓K_exit, ↓K_ret, ↓K_wrap, ↓KA_nil, ↓KA_none, ↓KA_some, beq_int, bne_int, dec_eqN, dec_ltN, dec_leN, stepOp, St.rd, St.raw, St.set, St.took, get_cons, V.down, C.down, Env.keep, binV, unV, arith, isShift, strs, intOf, optInt, wrapEnd, keptAt, andK, endOf, frzV, frz1, frzC, frzCs, frz1s, resOf, resOne, resAll, V.closed, V.closed1, C.closed, B.closed, Ob.closed, V.cells, partsIn, rep, chunk, datas, C.data, rowsOf, getCells, put_nil, put_zero, put_succ, mayWrite, C.plain, eqV_bool, eqV_agg, eqV_pnn, eqV_pnp, eqV_ppn, eqV_mnn, eqV_mmn, eqV_snn, eqV_sen, eqV_san, eqV_sdn, rs_len, rs_getE, rs_app, rs_take, rs_drop, rs_all, rs_each, row_len, str_eq, vagg, row_Int, row_Bool, row_Str, k_Int, k_Bool, k_Str, snoc_Int, snoc_Bool, snoc_Str, row_Type, k_Type, snoc_Type, eta_Type, sames_Type, row_Field, k_Field, snoc_Field, eta_Field, sames_Field, row_Instr, k_Instr, snoc_Instr, eta_Instr, sames_Instr, row_Catch, k_Catch, snoc_Catch, eta_Catch, sames_Catch, row_Method, k_Method, snoc_Method, row_Class, k_Class, snoc_Class, row_Program, k_Program, snoc_Program, row_Slot, k_Slot, snoc_Slot, eta_Slot, sames_Slot, row_State, k_State, snoc_State, row_Val, k_Val, snoc_Val, eta_Val, sames_Val, row_Obj, k_Obj, snoc_Obj, row_Input, k_Input, snoc_Input, row_Frame, k_Frame, snoc_Frame, row_Run, k_Run, snoc_Run, row_Way, k_Way, snoc_Way, eta_Way, sames_Way, row_Task, k_Task, snoc_Task, eta_Task, sames_Task, h1, h2, h4, hd1, hc1]
  · simp [KF, params, f19, ↓K_seq, ↓K_cond, ↓K_block, ↓K_region, ↓K_skip, ↓K_exit, ↓K_ret, ↓K_wrap, ↓KA_nil, ↓KA_none, ↓KA_some, beq_int, bne_int, dec_eqN, dec_ltN, dec_leN, stepOp, St.rd, St.raw, St.set, St.took, get_cons, V.down, C.down, Env.keep, binV, unV, arith, isShift, strs, intOf, optInt, wrapEnd, keptAt, andK, endOf, frzV, frz1, frzC, frzCs, frz1s, resOf, resOne, resAll, V.closed, V.closed1, C.closed, B.closed, Ob.closed, V.cells, partsIn, rep, chunk, datas, C.data, rowsOf, getCells, put_nil, put_zero, put_succ, mayWrite, C.plain, eqV_bool, eqV_agg, eqV_pnn, eqV_pnp, eqV_ppn, eqV_mnn, eqV_mmn, eqV_snn, eqV_sen, eqV_san, eqV_sdn, rs_len, rs_getE, rs_app, rs_take, rs_drop, rs_all, rs_each, row_len, str_eq, vagg, row_Int, row_Bool, row_Str, k_Int, k_Bool, k_Str, snoc_Int, snoc_Bool, snoc_Str, row_Type, k_Type, snoc_Type, eta_Type, sames_Type, row_Field, k_Field, snoc_Field, eta_Field, sames_Field, row_Instr, k_Instr, snoc_Instr, eta_Instr, sames_Instr, row_Catch, k_Catch, snoc_Catch, eta_Catch, sames_Catch, row_Method, k_Method, snoc_Method, row_Class, k_Class, snoc_Class, row_Program, k_Program, snoc_Program, row_Slot, k_Slot, snoc_Slot, eta_Slot, sames_Slot, row_State, k_State, snoc_State, row_Val, k_Val, snoc_Val, eta_Val, sames_Val, row_Obj, k_Obj, snoc_Obj, row_Input, k_Input, snoc_Input, row_Frame, k_Frame, snoc_Frame, row_Run, k_Run, snoc_Run, row_Way, k_Way, snoc_Way, eta_Way, sames_Way, row_Task, k_Task, snoc_Task, eta_Task, sames_Task, h1, h2, h3, h4, hd1]
end Go.Proofs.Ytjkhkblabhaimaa.Am
