/- Turn, run: its loops. -/
import Derived.Test.YtjkhkblabhaimaaIsoN
import Derived.Test.YtjkhkblabhaimaaIsoL
namespace Go.Proofs.Ytjkhkblabhaimaa.Am
set_option linter.unusedSimpArgs false
set_option linter.unusedVariables false
open Go

/-- What is known of the heap that Turn makes, beside its contents. -/
def Fresh (n : Nat) (v : V) (ps : List (GObj × C)) : Prop := (∀ k M o l, v = .c (.b (.arr k M o l)) → n ≤ M) ∧ (∀ p ∈ ps, ∀ m, pointsTo p.2 = some m → n ≤ m) ∧ (∀ p ∈ ps, p.2 = .b .nils ∨ ∃ m, pointsTo p.2 = some m)
def Inc (ps : List (GObj × C)) : Prop := ps.Pairwise fun p q => ∀ m m', pointsTo p.2 = some m → pointsTo q.2 = some m' → m < m'

def E23 (s : Nat) (more : Bool) (n b i : Nat) : Env := [(1, vint s), (2, vbool more), (3, .c (.b (.ptr 0 0))), (6, .c (.b (.ptr 1 0))), (7, vint n), (8, .c (.b (.ptr b 0))), (9, vint i)]

theorem get_tail {A B X : List Ob} {m : Nat} (h : A.length = B.length) (hm : B.length ≤ m) : (A ++ X)[m]? = (B ++ X)[m]? := by
  rw [List.getElem?_append_right (by omega), List.getElem?_append_right hm, h]
theorem app4 (A B C D : List Ob) : A ++ B ++ C ++ D = A ++ (B ++ C ++ D) := by simp

theorem step23 {a : GInput} {s i j b N : Nat} {more : Bool} {c0 : C} {x : B} (hi : i < a.heap.length) (hs : s < a.heap.length) (hj : (i + s) % a.heap.length = j) (hn : a.heap.length < 1000000) (hsl : ∀ o ∈ a.heap, o.slots.length < 1000000) {σ0 : List Ob} {ps : List (GObj × C)}
    (hO : OutAt σ0 (.c (.b x)) ps) (hps : ps.length = i) (hF : Fresh N (.c (.b x)) ps) (hI : Inc ps) (hbN : b < N) (hN : N ≤ σ0.length) (h0 : σ0[0]? = some (inCells a)) (hb : σ0[b]? = some (.cells [c0, .b x])) :
    ∃ x' σ' c, OutAt σ' (.c (.b x')) (ps ++ [(a.heap[j]'(by subst hj; exact Nat.mod_lt _ (by omega)), c)]) ∧ Fresh N (.c (.b x')) (ps ++ [(a.heap[j]'(by subst hj; exact Nat.mod_lt _ (by omega)), c)]) ∧ Inc (ps ++ [(a.heap[j]'(by subst hj; exact Nat.mod_lt _ (by omega)), c)]) ∧
      N ≤ σ'.length ∧ (∀ l, l < N → l ≠ b → σ'[l]? = σ0[l]?) ∧ σ'[b]? = some (.cells [c0, .b x']) ∧
      ∀ k : AExit → St → Option (V × List Ob), K fns ⟨0, 0⟩ f23_l0 ⟨E23 s more a.heap.length b i, σ0⟩ k = K fns ⟨0, 0⟩ f23_l0 ⟨E23 s more a.heap.length b (i + 1), σ'⟩ k := by
  have hjl : j < a.heap.length := by subst hj; exact Nat.mod_lt _ (by omega)
  have hsj := hsl _ (List.getElem_mem hjl)
  obtain ⟨c, τ, e2, e1, e3, e4, e5⟩ := mk25 a.heap[j].slots (by omega) (σ0 ++ [.cells [.b (.d (.int .i64 a.heap[j].type_.kind)), .b (.d (.str a.heap[j].type_.name)), .b (.d (.sl (rows a.heap[j].slots)))]]) (max 0 (σ0.length + 1))
  have hf := e1 (max 0 (σ0.length + 1)) (by simp)
  have hw := wrap_succ (i := i) (by omega)
  have hws : IntKind.i64.wrap ((i : Int) + s) = (i : Int) + s := by simp [IntKind.wrap, IntKind.signed, IntKind.bits]; omega
  have htm : ((i : Int) + s).tmod a.heap.length = (j : Int) := by
    rw [Int.tmod_eq_emod_of_nonneg (by omega), ← hj]; push_cast; rfl
  have hwj : IntKind.i64.wrap (j : Int) = (j : Int) := wrap_nat (by omega) (by omega)
  have hn0 : ¬ a.heap.length = 0 := by omega
  have hn0' : ¬ (a.heap.length : Int) = 0 := by omega
  simp only [inCells] at h0
  have s0 : ∀ X Y : Ob, (σ0 ++ [X]).set σ0.length Y = σ0 ++ [Y] := fun X Y => by rw [List.set_append_right _ _ (by omega)]; simp
  have hc := e3 []
  have hdn := e2
  rcases hO with ⟨hx, rfl⟩ | ⟨M, hx, hN⟩
  · simp only [V.c.injEq, C.b.injEq] at hx
    subst hx
    have hi0 : i = 0 := by simpa using hps.symm
    subst hi0
    have hbl : b < σ0.length := by omega
    have hbs : ∀ (X : List Ob) (Y : Ob), (σ0 ++ X).set b Y = σ0.set b Y ++ X := fun X Y => List.set_append_left _ _ hbl
    have hbg : ∀ X, (σ0 ++ X)[b]? = some (.cells [c0, .b .nils]) := fun X => by rw [List.getElem?_append_left hbl]; exact hb
    have h0g : ∀ X : List Ob, (σ0 ++ X)[0]? = some (.cells [.b (.d (.sl (rows a.args))), .b (.d (.sl (rows a.heap)))]) := fun X => by rw [List.getElem?_append_left (by omega)]; exact h0
    refine ⟨.arr 3 (σ0.length + (τ.length + 1 + 1)) 0 1, σ0.set b (.cells [c0, .b (.arr 3 (σ0.length + (τ.length + 1 + 1)) 0 1)]) ++ ([.cells [.b (.d (.int .i64 a.heap[j].type_.kind)), .b (.d (.str a.heap[j].type_.name)), .b (.d (.sl (rows a.heap[j].slots)))]] ++ τ ++ [bx a.heap[j].type_.kind a.heap[j].type_.name c, bx a.heap[j].type_.kind a.heap[j].type_.name c]), c, ?_, ?_, ?_, ?_, ?_, ?_, fun k => ?_⟩
    · refine .inr ⟨_, rfl, ?_, ?_⟩
      · intro p hp
        simp only [List.nil_append, List.mem_singleton] at hp
        subst hp
        refine ⟨(e3 [bx a.heap[j].type_.kind a.heap[j].type_.name c, bx a.heap[j].type_.kind a.heap[j].type_.name c]).frame (fun m hm => ?_), fun hm => ?_⟩
        · have := e4 _ hm
          simp only [List.length_append, List.length_cons, List.length_nil] at this
          rw [app4 σ0]
          exact get_tail (by simp) (by omega)
        · have := e4 _ hm
          simp only [List.length_append, List.length_cons, List.length_nil] at this
          omega
      · rw [List.getElem?_append_right (by simp), List.getElem?_append_right (by simp)]
        have : σ0.length + (τ.length + 1 + 1) - (σ0.set b (.cells [c0, .b (.arr 3 (σ0.length + (τ.length + 1 + 1)) 0 1)])).length - ([Ob.cells [.b (.d (.int .i64 a.heap[j].type_.kind)), .b (.d (.str a.heap[j].type_.name)), .b (.d (.sl (rows a.heap[j].slots)))]] ++ τ).length = 1 := by simp
        rw [this]
        rfl
    · refine ⟨fun k M o l hv => ?_, fun p hp m hm => ?_, fun p hp => ?_⟩
      · simp only [V.c.injEq, C.b.injEq, B.arr.injEq] at hv
        omega
      · simp only [List.nil_append, List.mem_singleton] at hp
        subst hp
        have := e4 _ hm
        simp only [List.length_append, List.length_cons, List.length_nil] at this
        omega
      · simp only [List.nil_append, List.mem_singleton] at hp
        subst hp
        exact e5
    · simp [Inc]
    · simp; omega
    · intro l hl hlb
      rw [List.getElem?_append_left (by simp; omega), List.getElem?_set_ne (fun h => hlb h.symm)]
    · rw [List.getElem?_append_left (by simpa using hbl)]; simp [hbl]
    · rw [E23, u23_l0]
      have hw1 : IntKind.i64.wrap 1 = 1 := rfl
      simp only [Int.natCast_zero, Int.zero_add] at hws htm
      simp at hf hbs hbg h0g
      rcases hc with rfl | ⟨rfl, _⟩ | ⟨m, rfl, _⟩ <;> simp [f23_b0, ↓K_seq, ↓K_cond, ↓K_block, ↓K_region, ↓K_skip, ↓K_exit, ↓K_ret, ↓K_wrap, ↓KA_nil, ↓KA_none, ↓KA_some, beq_int, bne_int, dec_eqN, dec_ltN, dec_leN, stepOp, St.rd, St.raw, St.set, St.took, get_cons, V.down, C.down, Env.keep, binV, unV, arith, isShift, strs, intOf, optInt, wrapEnd, keptAt, andK, endOf, frzV, frz1, frzC, frzCs, frz1s, resOf, resOne, resAll, V.closed, V.closed1, C.closed, B.closed, Ob.closed, V.cells, partsIn, rep, chunk, datas, C.data, rowsOf, getCells, put_nil, put_zero, put_succ, mayWrite, C.plain, eqV_bool, eqV_agg, eqV_pnn, eqV_pnp, eqV_ppn, eqV_mnn, eqV_mmn, eqV_snn, eqV_sen, eqV_san, eqV_sdn, rs_len, rs_getE, rs_app, rs_take, rs_drop, rs_all, rs_each, row_len, str_eq, vagg, row_Int, row_Bool, row_Str, k_Int, k_Bool, k_Str, snoc_Int, snoc_Bool, snoc_Str, row_Type, k_Type, snoc_Type, eta_Type, sames_Type, row_Field, k_Field, snoc_Field, eta_Field, sames_Field, row_Instr, k_Instr, snoc_Instr, eta_Instr, sames_Instr, row_Catch, k_Catch, snoc_Catch, eta_Catch, sames_Catch, row_Method, k_Method, snoc_Method, row_Class, k_Class, snoc_Class, row_Program, k_Program, snoc_Program, row_Slot, k_Slot, snoc_Slot, eta_Slot, sames_Slot, row_State, k_State, snoc_State, row_Val, k_Val, snoc_Val, eta_Val, sames_Val, row_Obj, k_Obj, snoc_Obj, row_Input, k_Input, snoc_Input, row_Frame, k_Frame, snoc_Frame, row_Run, k_Run, snoc_Run, row_Way, k_Way, snoc_Way, eta_Way, sames_Way, row_Task, k_Task, snoc_Task, eta_Task, sames_Task, E23, hi, hjl, hw1, hws, htm, hwj, hn0, hn0', hf, elems, bx, hbs, hbg, h0g, h0]
  · simp only [V.c.injEq, C.b.injEq] at hx
    subst hx
    have hM : M < σ0.length := (List.getElem?_eq_some_iff.mp hN.here).1
    have hNM : N ≤ M := hF.1 _ _ _ _ rfl
    have hbl : b < σ0.length := by omega
    have hZl := cellsN_len ps
    have hZd := cellsN_down (fun p hp => (hN.slot p hp).1)
    have hZt : (cellsN ps).take (ps.length * 3) = cellsN ps := List.take_of_length_le (by omega)
    have hMg : ∀ X, (σ0 ++ X)[M]? = some (.cells (cellsN ps)) := fun X => by rw [List.getElem?_append_left hM]; exact hN.here
    have hMs : ∀ (X : List Ob) (Y : Ob), (σ0 ++ X).set M Y = σ0.set M Y ++ X := fun X Y => List.set_append_left _ _ hM
    have hbs : ∀ (X : List Ob) (Y : Ob), (σ0.set M .dead ++ X).set b Y = (σ0.set M .dead).set b Y ++ X := fun X Y => List.set_append_left _ _ (by simpa using hbl)
    have hbg : ∀ X, (σ0 ++ X)[b]? = some (.cells [c0, .b (.arr 3 M 0 ps.length)]) := fun X => by rw [List.getElem?_append_left hbl]; exact hb
    have hbg2 : ∀ X, (σ0.set M .dead ++ X)[b]? = some (.cells [c0, .b (.arr 3 M 0 ps.length)]) := fun X => by rw [List.getElem?_append_left (by simpa using hbl), List.getElem?_set_ne (by omega)]; exact hb
    have h0g : ∀ X : List Ob, (σ0 ++ X)[0]? = some (.cells [.b (.d (.sl (rows a.args))), .b (.d (.sl (rows a.heap)))]) := fun X => by rw [List.getElem?_append_left (by omega)]; exact h0
    refine ⟨.arr 3 (σ0.length + (τ.length + 1 + 1)) 0 (ps.length + 1), (σ0.set M .dead).set b (.cells [c0, .b (.arr 3 (σ0.length + (τ.length + 1 + 1)) 0 (ps.length + 1))]) ++ ([.cells [.b (.d (.int .i64 a.heap[j].type_.kind)), .b (.d (.str a.heap[j].type_.name)), .b (.d (.sl (rows a.heap[j].slots)))]] ++ τ ++ [bx a.heap[j].type_.kind a.heap[j].type_.name c, .cells (cellsN (ps ++ [(a.heap[j], c)]))]), c, ?_, ?_, ?_, ?_, ?_, ?_, fun k => ?_⟩
    · refine .inr ⟨σ0.length + (τ.length + 1 + 1), by simp, ?_, ?_⟩
      · intro p hp
        rcases List.mem_append.mp hp with hp | hp
        · obtain ⟨h1, h2⟩ := hN.slot p hp
          refine ⟨h1.frame (fun m hm => ?_), fun hm => ?_⟩
          · have := slotAt_lt h1 hm
            have hmN := hF.2.1 p hp m hm
            rw [List.getElem?_append_left (by simpa using this), List.getElem?_set_ne (by omega), List.getElem?_set_ne]
            rintro rfl; exact h2 hm
          · have := slotAt_lt h1 hm
            omega
        · simp only [List.mem_singleton] at hp
          subst hp
          refine ⟨(e3 [bx a.heap[j].type_.kind a.heap[j].type_.name c, .cells (cellsN (ps ++ [(a.heap[j], c)]))]).frame (fun m hm => ?_), fun hm => ?_⟩
          · have := e4 _ hm
            simp only [List.length_append, List.length_cons, List.length_nil] at this
            rw [app4 σ0]
            exact get_tail (by simp) (by omega)
          · have := e4 _ hm
            simp only [List.length_append, List.length_cons, List.length_nil] at this
            omega
      · rw [List.getElem?_append_right (by simp), List.getElem?_append_right (by simp)]
        have : σ0.length + (τ.length + 1 + 1) - ((σ0.set M .dead).set b (.cells [c0, .b (.arr 3 (σ0.length + (τ.length + 1 + 1)) 0 (ps.length + 1))])).length - ([Ob.cells [.b (.d (.int .i64 a.heap[j].type_.kind)), .b (.d (.str a.heap[j].type_.name)), .b (.d (.sl (rows a.heap[j].slots)))]] ++ τ).length = 1 := by simp
        rw [this]
        rfl
    · refine ⟨fun k M o l hv => ?_, fun p hp m hm => ?_, fun p hp => ?_⟩
      · simp only [V.c.injEq, C.b.injEq, B.arr.injEq] at hv
        omega
      · rcases List.mem_append.mp hp with hp | hp
        · exact hF.2.1 p hp m hm
        · simp only [List.mem_singleton] at hp
          subst hp
          have := e4 _ hm
          simp only [List.length_append, List.length_cons, List.length_nil] at this
          omega
      · rcases List.mem_append.mp hp with hp | hp
        · exact hF.2.2 p hp
        · simp only [List.mem_singleton] at hp
          subst hp
          exact e5
    · unfold Inc
      rw [List.pairwise_append]
      refine ⟨hI, by simp, fun p hp q hq m m' hm hm' => ?_⟩
      simp only [List.mem_singleton] at hq
      subst hq
      have h1 := slotAt_lt (hN.slot p hp).1 hm
      have := e4 _ hm'
      simp only [List.length_append, List.length_cons, List.length_nil] at this
      omega
    · simp; omega
    · intro l hl hlb
      rw [List.getElem?_append_left (by simp; omega), List.getElem?_set_ne (fun h => hlb h.symm), List.getElem?_set_ne (by omega)]
    · rw [List.getElem?_append_left (by simpa using hbl)]; simp [hbl]
    · rw [E23, u23_l0]
      have q1 : (ps.length + 1) * 48 ≤ 70368744177664 := by omega
      have q2 : ps.length + 1 ≤ 70368744177664 := by omega
      rw [cellsN_snoc]
      subst hps
      generalize cellsN ps = Z at *
      simp at hf
      rcases hc with rfl | ⟨rfl, _⟩ | ⟨m, rfl, _⟩ <;> simp [f23_b0, ↓K_seq, ↓K_cond, ↓K_block, ↓K_region, ↓K_skip, ↓K_exit, ↓K_ret, ↓K_wrap, ↓KA_nil, ↓KA_none, ↓KA_some, beq_int, bne_int, dec_eqN, dec_ltN, dec_leN, stepOp, St.rd, St.raw, St.set, St.took, get_cons, V.down, C.down, Env.keep, binV, unV, arith, isShift, strs, intOf, optInt, wrapEnd, keptAt, andK, endOf, frzV, frz1, frzC, frzCs, frz1s, resOf, resOne, resAll, V.closed, V.closed1, C.closed, B.closed, Ob.closed, V.cells, partsIn, rep, chunk, datas, C.data, rowsOf, getCells, put_nil, put_zero, put_succ, mayWrite, C.plain, eqV_bool, eqV_agg, eqV_pnn, eqV_pnp, eqV_ppn, eqV_mnn, eqV_mmn, eqV_snn, eqV_sen, eqV_san, eqV_sdn, rs_len, rs_getE, rs_app, rs_take, rs_drop, rs_all, rs_each, row_len, str_eq, vagg, row_Int, row_Bool, row_Str, k_Int, k_Bool, k_Str, snoc_Int, snoc_Bool, snoc_Str, row_Type, k_Type, snoc_Type, eta_Type, sames_Type, row_Field, k_Field, snoc_Field, eta_Field, sames_Field, row_Instr, k_Instr, snoc_Instr, eta_Instr, sames_Instr, row_Catch, k_Catch, snoc_Catch, eta_Catch, sames_Catch, row_Method, k_Method, snoc_Method, row_Class, k_Class, snoc_Class, row_Program, k_Program, snoc_Program, row_Slot, k_Slot, snoc_Slot, eta_Slot, sames_Slot, row_State, k_State, snoc_State, row_Val, k_Val, snoc_Val, eta_Val, sames_Val, row_Obj, k_Obj, snoc_Obj, row_Input, k_Input, snoc_Input, row_Frame, k_Frame, snoc_Frame, row_Run, k_Run, snoc_Run, row_Way, k_Way, snoc_Way, eta_Way, sames_Way, row_Task, k_Task, snoc_Task, eta_Task, sames_Task, E23, hi, hjl, hw, hws, htm, hwj, hn0, hn0', hf, elems, bx, hbs, hbg, hbg2, h0g, h0, hb, hMg, hMs, hZl, hZd, hZt, q1, q2, cells3]

def raw (h : List GObj) (s i : Nat) : GObj := (h[(i + s) % h.length]?).getD default

theorem loop23 {a : GInput} {s b N : Nat} {more : Bool} {c0 : C} (hs : s < a.heap.length) (hn : a.heap.length < 1000000) (hsl : ∀ o ∈ a.heap, o.slots.length < 1000000) (hbN : b < N) (hb0 : b ≠ 0) : ∀ (n i : Nat) (x : B) (σ0 : List Ob) (ps : List (GObj × C)), i + n = a.heap.length →
    OutAt σ0 (.c (.b x)) ps → Fresh N (.c (.b x)) ps → Inc ps → N ≤ σ0.length → σ0[0]? = some (inCells a) → σ0[b]? = some (.cells [c0, .b x]) → ps.map (·.1) = (List.range i).map (raw a.heap s) →
    ∃ x' σ' ps', OutAt σ' (.c (.b x')) ps' ∧ Fresh N (.c (.b x')) ps' ∧ Inc ps' ∧ N ≤ σ'.length ∧ (∀ l, l < N → l ≠ b → σ'[l]? = σ0[l]?) ∧ σ'[b]? = some (.cells [c0, .b x']) ∧ ps'.map (·.1) = (List.range a.heap.length).map (raw a.heap s) ∧
      ∀ k : AExit → St → Option (V × List Ob), K fns ⟨0, 0⟩ f23_l0 ⟨E23 s more a.heap.length b i, σ0⟩ k = k (.exit 0) ⟨[(1, vint s), (2, vbool more), (6, .c (.b (.ptr 1 0))), (7, vint a.heap.length), (8, .c (.b (.ptr b 0)))], σ'⟩
  | 0, i, x, σ0, ps, hi, hO, hF, hI, hN, h0, hb, hps => by
    have hi : i = a.heap.length := by omega
    subst hi
    refine ⟨x, σ0, ps, hO, hF, hI, hN, fun _ _ _ => rfl, hb, hps, fun k => ?_⟩
    rw [E23, u23_l0]
    simp [f23_b0, ↓K_seq, ↓K_cond, ↓K_block, ↓K_region, ↓K_skip, ↓K_exit, ↓K_ret, ↓K_wrap, ↓KA_nil, ↓KA_none, ↓KA_some, beq_int, bne_int, dec_eqN, dec_ltN, dec_leN, stepOp, St.rd, St.raw, St.set, St.took, get_cons, V.down, C.down, Env.keep, binV, unV, arith, isShift, strs, intOf, optInt, wrapEnd, keptAt, andK, endOf, frzV, frz1, frzC, frzCs, frz1s, resOf, resOne, resAll, V.closed, V.closed1, C.closed, B.closed, Ob.closed, V.cells, partsIn, rep, chunk, datas, C.data, rowsOf, getCells, put_nil, put_zero, put_succ, mayWrite, C.plain, eqV_bool, eqV_agg, eqV_pnn, eqV_pnp, eqV_ppn, eqV_mnn, eqV_mmn, eqV_snn, eqV_sen, eqV_san, eqV_sdn, rs_len, rs_getE, rs_app, rs_take, rs_drop, rs_all, rs_each, row_len, str_eq, vagg, row_Int, row_Bool, row_Str, k_Int, k_Bool, k_Str, snoc_Int, snoc_Bool, snoc_Str, row_Type, k_Type, snoc_Type, eta_Type, sames_Type, row_Field, k_Field, snoc_Field, eta_Field, sames_Field, row_Instr, k_Instr, snoc_Instr, eta_Instr, sames_Instr, row_Catch, k_Catch, snoc_Catch, eta_Catch, sames_Catch, row_Method, k_Method, snoc_Method, row_Class, k_Class, snoc_Class, row_Program, k_Program, snoc_Program, row_Slot, k_Slot, snoc_Slot, eta_Slot, sames_Slot, row_State, k_State, snoc_State, row_Val, k_Val, snoc_Val, eta_Val, sames_Val, row_Obj, k_Obj, snoc_Obj, row_Input, k_Input, snoc_Input, row_Frame, k_Frame, snoc_Frame, row_Run, k_Run, snoc_Run, row_Way, k_Way, snoc_Way, eta_Way, sames_Way, row_Task, k_Task, snoc_Task, eta_Task, sames_Task]
  | n + 1, i, x, σ0, ps, hi', hO, hF, hI, hN, h0, hb, hps => by
    have hi : i < a.heap.length := by omega
    have hpl : ps.length = i := by simpa using congrArg List.length hps
    have hjl : (i + s) % a.heap.length < a.heap.length := Nat.mod_lt _ (by omega)
    obtain ⟨x1, σ1, c, g1, g2, g3, g4, g5, g6, g7⟩ := step23 (more := more) hi hs rfl hn hsl hO hpl hF hI hbN hN h0 hb
    obtain ⟨x', σ', ps', k1, k2, k3, k4, k5, k6, k7, k8⟩ := loop23 (more := more) hs hn hsl hbN hb0 n (i + 1) x1 σ1 _ (by omega) g1 g2 g3 g4 ((g5 0 (by omega) (fun h => hb0 h.symm)).trans h0) g6 (by
      rw [List.map_append, hps, List.range_succ, List.map_append]
      simp [raw, hjl])
    exact ⟨x', σ', ps', k1, k2, k3, k4, fun l hl hlb => (k5 l hl hlb).trans (g5 l hl hlb), k6, k7, fun k => (g7 k).trans (k8 k)⟩

/-- The heap whose first slots are turned. -/
structure Half (σ : List Ob) (M n s i : Nat) (ps : List (GObj × C)) : Prop where
  here : σ[M]? = some (.cells (cellsN ps))
  slot : ∀ (k : Nat) (hk : k < ps.length), SlotAt σ 2 ps[k].2 (if k < i then ps[k].1.slots.map (tv n s) else ps[k].1.slots)

def E23b (s : Nat) (more : Bool) (n b i : Nat) : Env := [(1, vint s), (2, vbool more), (6, .c (.b (.ptr 1 0))), (7, vint n), (8, .c (.b (.ptr b 0))), (11, vint i)]

theorem round23 {σ : List Ob} {M N n s b i : Nat} {more : Bool} {c0 : C} {ps : List (GObj × C)} (hs : s < n) (hn : n < 1000000) (hpl : ps.length = n) (hsl : ∀ p ∈ ps, p.1.slots.length < 1000000) (hin : ∀ p ∈ ps, ∀ v ∈ p.1.slots, v.isRef = true → -1 ≤ v.n ∧ v.n < n)
    (hI : Inc ps) (hF : Fresh N (.c (.b (.arr 3 M 0 ps.length))) ps) (hM : ∀ p ∈ ps, pointsTo p.2 ≠ some M) (hi : i < n) (H : Half σ M n s i ps) (hb : σ[b]? = some (.cells [c0, .b (.arr 3 M 0 ps.length)])) (hbN : b < N) :
    ∃ σ', Half σ' M n s (i + 1) ps ∧ (∀ l, l < N → σ'[l]? = σ[l]?) ∧ σ'.length = σ.length ∧ ∀ k : AExit → St → Option (V × List Ob), K fns ⟨0, 0⟩ f23_l1 ⟨E23b s more n b i, σ⟩ k = K fns ⟨0, 0⟩ f23_l1 ⟨E23b s more n b (i + 1), σ'⟩ k := by
  have hil : i < ps.length := by omega
  have hw := wrap_succ (i := i) (by omega)
  have hZl := cellsN_len ps
  have hle : i * 3 + 3 ≤ ps.length * 3 := by omega
  have g2 := cellsN_get hil (j := 2) (by omega)
  simp only [cells3, List.getElem?_cons_succ, List.getElem?_cons_zero] at g2
  have hh := H.here
  have hmem := List.getElem_mem hil
  have hsi := H.slot i hil
  rw [if_neg (Nat.lt_irrefl i)] at hsi
  rcases hF.2.2 _ hmem with hc | ⟨m, hm⟩
  · have hnil : ps[i].1.slots = [] := by
      rw [hc] at hsi
      rcases hsi with h | ⟨_, h⟩ | ⟨m, h, _⟩
      · cases h
      · exact h
      · cases h
    refine ⟨σ, ⟨H.here, fun k hk => ?_⟩, fun _ _ => rfl, rfl, fun k => ?_⟩
    · have := H.slot k hk
      by_cases hki : k = i
      · subst hki
        rw [if_pos (by omega), hnil]
        rw [if_neg (by omega), hnil] at this
        exact this
      · by_cases hlt : k < i
        · rw [if_pos (by omega)]; rw [if_pos hlt] at this; exact this
        · rw [if_neg (by omega)]; rw [if_neg hlt] at this; exact this
    · rw [hc] at g2
      have hf := fn34n (n := n) (s := s) σ
      rw [E23b, u23_l1]
      simp [f23_b1, ↓K_seq, ↓K_cond, ↓K_block, ↓K_region, ↓K_skip, ↓K_exit, ↓K_ret, ↓K_wrap, ↓KA_nil, ↓KA_none, ↓KA_some, beq_int, bne_int, dec_eqN, dec_ltN, dec_leN, stepOp, St.rd, St.raw, St.set, St.took, get_cons, V.down, C.down, Env.keep, binV, unV, arith, isShift, strs, intOf, optInt, wrapEnd, keptAt, andK, endOf, frzV, frz1, frzC, frzCs, frz1s, resOf, resOne, resAll, V.closed, V.closed1, C.closed, B.closed, Ob.closed, V.cells, partsIn, rep, chunk, datas, C.data, rowsOf, getCells, put_nil, put_zero, put_succ, mayWrite, C.plain, eqV_bool, eqV_agg, eqV_pnn, eqV_pnp, eqV_ppn, eqV_mnn, eqV_mmn, eqV_snn, eqV_sen, eqV_san, eqV_sdn, rs_len, rs_getE, rs_app, rs_take, rs_drop, rs_all, rs_each, row_len, str_eq, vagg, row_Int, row_Bool, row_Str, k_Int, k_Bool, k_Str, snoc_Int, snoc_Bool, snoc_Str, row_Type, k_Type, snoc_Type, eta_Type, sames_Type, row_Field, k_Field, snoc_Field, eta_Field, sames_Field, row_Instr, k_Instr, snoc_Instr, eta_Instr, sames_Instr, row_Catch, k_Catch, snoc_Catch, eta_Catch, sames_Catch, row_Method, k_Method, snoc_Method, row_Class, k_Class, snoc_Class, row_Program, k_Program, snoc_Program, row_Slot, k_Slot, snoc_Slot, eta_Slot, sames_Slot, row_State, k_State, snoc_State, row_Val, k_Val, snoc_Val, eta_Val, sames_Val, row_Obj, k_Obj, snoc_Obj, row_Input, k_Input, snoc_Input, row_Frame, k_Frame, snoc_Frame, row_Run, k_Run, snoc_Run, row_Way, k_Way, snoc_Way, eta_Way, sames_Way, row_Task, k_Task, snoc_Task, eta_Task, sames_Task, E23b, hi, hil, hpl, hw, hb, hh, hZl, hle, g2, hf]
  · have harr : ps[i].2 = .b (.arr 2 m 0 ps[i].1.slots.length) ∧ σ[m]? = some (.cells (cellsOf ps[i].1.slots)) := by
      rcases hsi with h | ⟨h, _⟩ | ⟨m', h, h'⟩
      · rw [h] at hm; cases hm
      · rw [h] at hm; cases hm
      · rw [h] at hm
        simp only [pointsTo, Option.some.injEq] at hm
        subst hm
        exact ⟨h, h'⟩
    obtain ⟨ha1, ha2⟩ := harr
    have hmN : N ≤ m := hF.2.1 _ hmem m hm
    have hmM : m ≠ M := fun e => hM _ hmem (by rw [hm, e])
    have hml : m < σ.length := (List.getElem?_eq_some_iff.mp ha2).1
    refine ⟨σ.set m (.cells (cellsOf (ps[i].1.slots.map (tv n s)))), ⟨by rw [List.getElem?_set_ne hmM]; exact H.here, fun k hk => ?_⟩, fun l hl => by rw [List.getElem?_set_ne (by omega)], by simp, fun k => ?_⟩
    · by_cases hki : k = i
      · subst hki
        rw [if_pos (by omega)]
        refine .inr (.inr ⟨m, by rw [ha1]; simp, by simp [hml]⟩)
      · have h1 := H.slot k hk
        have hne : ∀ m', pointsTo ps[k].2 = some m' → m ≠ m' := by
          intro m' hm' e
          rcases Nat.lt_or_gt_of_ne hki with hlt | hgt
          · have := List.pairwise_iff_getElem.mp hI k i hk hil hlt m' m hm' hm
            omega
          · have := List.pairwise_iff_getElem.mp hI i k hil hk hgt m m' hm hm'
            omega
        have h2 : SlotAt (σ.set m (.cells (cellsOf (ps[i].1.slots.map (tv n s))))) 2 ps[k].2 (if k < i then ps[k].1.slots.map (tv n s) else ps[k].1.slots) := h1.frame fun m' hm' => List.getElem?_set_ne (hne m' hm')
        by_cases hlt : k < i
        · rw [if_pos (by omega)]; rw [if_pos hlt] at h2; exact h2
        · rw [if_neg (by omega)]; rw [if_neg hlt] at h2; exact h2
    · rw [ha1] at g2
      have hf := fn34w ha2 hs hn (by have := hsl _ hmem; omega) (hin _ hmem)
      rw [E23b, u23_l1]
      simp [f23_b1, ↓K_seq, ↓K_cond, ↓K_block, ↓K_region, ↓K_skip, ↓K_exit, ↓K_ret, ↓K_wrap, ↓KA_nil, ↓KA_none, ↓KA_some, beq_int, bne_int, dec_eqN, dec_ltN, dec_leN, stepOp, St.rd, St.raw, St.set, St.took, get_cons, V.down, C.down, Env.keep, binV, unV, arith, isShift, strs, intOf, optInt, wrapEnd, keptAt, andK, endOf, frzV, frz1, frzC, frzCs, frz1s, resOf, resOne, resAll, V.closed, V.closed1, C.closed, B.closed, Ob.closed, V.cells, partsIn, rep, chunk, datas, C.data, rowsOf, getCells, put_nil, put_zero, put_succ, mayWrite, C.plain, eqV_bool, eqV_agg, eqV_pnn, eqV_pnp, eqV_ppn, eqV_mnn, eqV_mmn, eqV_snn, eqV_sen, eqV_san, eqV_sdn, rs_len, rs_getE, rs_app, rs_take, rs_drop, rs_all, rs_each, row_len, str_eq, vagg, row_Int, row_Bool, row_Str, k_Int, k_Bool, k_Str, snoc_Int, snoc_Bool, snoc_Str, row_Type, k_Type, snoc_Type, eta_Type, sames_Type, row_Field, k_Field, snoc_Field, eta_Field, sames_Field, row_Instr, k_Instr, snoc_Instr, eta_Instr, sames_Instr, row_Catch, k_Catch, snoc_Catch, eta_Catch, sames_Catch, row_Method, k_Method, snoc_Method, row_Class, k_Class, snoc_Class, row_Program, k_Program, snoc_Program, row_Slot, k_Slot, snoc_Slot, eta_Slot, sames_Slot, row_State, k_State, snoc_State, row_Val, k_Val, snoc_Val, eta_Val, sames_Val, row_Obj, k_Obj, snoc_Obj, row_Input, k_Input, snoc_Input, row_Frame, k_Frame, snoc_Frame, row_Run, k_Run, snoc_Run, row_Way, k_Way, snoc_Way, eta_Way, sames_Way, row_Task, k_Task, snoc_Task, eta_Task, sames_Task, E23b, hi, hil, hpl, hw, hb, hh, hZl, hle, g2, hf]
end Go.Proofs.Ytjkhkblabhaimaa.Am
