/- Turn, run: whole. -/
import Derived.Test.YtjkhkblabhaimaaIsoO
namespace Go.Proofs.Ytjkhkblabhaimaa.Am
set_option linter.unusedSimpArgs false
set_option linter.unusedVariables false
open Go

theorem loop23b {M N n s b : Nat} {more : Bool} {c0 : C} {ps : List (GObj × C)} (hs : s < n) (hn : n < 1000000) (hpl : ps.length = n) (hsl : ∀ p ∈ ps, p.1.slots.length < 1000000) (hin : ∀ p ∈ ps, ∀ v ∈ p.1.slots, v.isRef = true → -1 ≤ v.n ∧ v.n < n)
    (hI : Inc ps) (hF : Fresh N (.c (.b (.arr 3 M 0 ps.length))) ps) (hM : ∀ p ∈ ps, pointsTo p.2 ≠ some M) (hbN : b < N) : ∀ (j i : Nat) (σ : List Ob), i + j = n → Half σ M n s i ps → σ[b]? = some (.cells [c0, .b (.arr 3 M 0 ps.length)]) →
    ∃ σ', Half σ' M n s n ps ∧ (∀ l, l < N → σ'[l]? = σ[l]?) ∧ ∀ k : AExit → St → Option (V × List Ob), K fns ⟨0, 0⟩ f23_l1 ⟨E23b s more n b i, σ⟩ k = k (.exit 2) ⟨[(2, vbool more), (6, .c (.b (.ptr 1 0))), (8, .c (.b (.ptr b 0)))], σ'⟩
  | 0, i, σ, hi, H, hb => by
    have hi : i = n := by omega
    subst hi
    refine ⟨σ, H, fun _ _ => rfl, fun k => ?_⟩
    rw [E23b, u23_l1]
    simp [f23_b1, ↓K_seq, ↓K_cond, ↓K_block, ↓K_region, ↓K_skip, ↓K_exit, ↓K_ret, ↓K_wrap, ↓KA_nil, ↓KA_none, ↓KA_some, beq_int, bne_int, dec_eqN, dec_ltN, dec_leN, stepOp, St.rd, St.raw, St.set, St.took, get_cons, V.down, C.down, Env.keep, binV, unV, arith, isShift, strs, intOf, optInt, wrapEnd, keptAt, andK, endOf, frzV, frz1, frzC, frzCs, frz1s, resOf, resOne, resAll, V.closed, V.closed1, C.closed, B.closed, Ob.closed, V.cells, partsIn, rep, chunk, datas, C.data, rowsOf, getCells, put_nil, put_zero, put_succ, mayWrite, C.plain, eqV_bool, eqV_agg, eqV_pnn, eqV_pnp, eqV_ppn, eqV_mnn, eqV_mmn, eqV_snn, eqV_sen, eqV_san, eqV_sdn, rs_len, rs_getE, rs_app, rs_take, rs_drop, rs_all, rs_each, row_len, str_eq, vagg, row_Int, row_Bool, row_Str, k_Int, k_Bool, k_Str, snoc_Int, snoc_Bool, snoc_Str, row_Type, k_Type, snoc_Type, eta_Type, sames_Type, row_Field, k_Field, snoc_Field, eta_Field, sames_Field, row_Instr, k_Instr, snoc_Instr, eta_Instr, sames_Instr, row_Catch, k_Catch, snoc_Catch, eta_Catch, sames_Catch, row_Method, k_Method, snoc_Method, row_Class, k_Class, snoc_Class, row_Program, k_Program, snoc_Program, row_Slot, k_Slot, snoc_Slot, eta_Slot, sames_Slot, row_State, k_State, snoc_State, row_Val, k_Val, snoc_Val, eta_Val, sames_Val, row_Obj, k_Obj, snoc_Obj, row_Input, k_Input, snoc_Input, row_Frame, k_Frame, snoc_Frame, row_Run, k_Run, snoc_Run, row_Way, k_Way, snoc_Way, eta_Way, sames_Way, row_Task, k_Task, snoc_Task, eta_Task, sames_Task]
  | j + 1, i, σ, hi, H, hb => by
    obtain ⟨σ1, h1, h2, h3, h4⟩ := round23 (more := more) hs hn hpl hsl hin hI hF hM (by omega) H hb hbN
    obtain ⟨σ', k1, k2, k3⟩ := loop23b (more := more) hs hn hpl hsl hin hI hF hM hbN j (i + 1) σ1 (by omega) h1 ((h2 b hbN).trans hb)
    exact ⟨σ', k1, fun l hl => (k2 l hl).trans (h2 l hl), fun k => (h4 k).trans (k3 k)⟩

def turnP (n s : Nat) (p : GObj × C) : GObj × C := (⟨p.1.type_, p.1.slots.map (tv n s)⟩, p.2)

theorem cellsN_turn (n s : Nat) (ps : List (GObj × C)) : cellsN (ps.map (turnP n s)) = cellsN ps := by
  simp only [cellsN, List.flatMap_map]
  rfl

theorem half_nest {σ : List Ob} {M n s : Nat} {ps : List (GObj × C)} (H : Half σ M n s n ps) (hpl : ps.length = n) (hM : ∀ p ∈ ps, pointsTo p.2 ≠ some M) : Nest σ M (ps.map (turnP n s)) := by
  refine ⟨fun q hq => ?_, by rw [cellsN_turn]; exact H.here⟩
  obtain ⟨p, hp, rfl⟩ := List.mem_map.mp hq
  obtain ⟨k, hk, rfl⟩ := List.mem_iff_getElem.mp hp
  have := H.slot k hk
  rw [if_pos (by omega)] at this
  exact ⟨this, hM ps[k] hp⟩

theorem turned_rows {h : List GObj} {s : Nat} {ps : List (GObj × C)} (hps : ps.map (·.1) = (List.range h.length).map (raw h s)) : (ps.map (turnP h.length s)).map (·.1) = turnH h s := by
  have e : (ps.map (turnP h.length s)).map (·.1) = (ps.map (·.1)).map fun o => (⟨o.type_, o.slots.map (tv h.length s)⟩ : GObj) := by
    simp only [List.map_map]; rfl
  rw [e, hps, List.map_map]
  rfl

theorem byMod (x : Int) {n : Nat} (h0 : 0 < n) (hn : n < 1000000) : IntKind.u64.wrap (n : Int) = n ∧ ∃ s : Nat, s < n ∧ IntKind.i64.wrap ((IntKind.u64.wrap x).tmod n) = s := by
  have h1 : 0 ≤ IntKind.u64.wrap x := by simp [IntKind.wrap, IntKind.signed, IntKind.bits]; omega
  have h2 : (IntKind.u64.wrap x).tmod n = (IntKind.u64.wrap x) % n := Int.tmod_eq_emod_of_nonneg h1
  have h3 : 0 ≤ (IntKind.u64.wrap x) % (n : Int) := Int.emod_nonneg _ (by omega)
  have h4 : (IntKind.u64.wrap x) % (n : Int) < n := Int.emod_lt_of_pos _ (by omega)
  refine ⟨by simp [IntKind.wrap, IntKind.signed, IntKind.bits]; omega, ((IntKind.u64.wrap x) % (n : Int)).toNat, by omega, ?_⟩
  rw [h2, wrap_nat (by omega) (by omega)]
  omega
end Go.Proofs.Ytjkhkblabhaimaa.Am
