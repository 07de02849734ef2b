/- The law HierMore. -/
import Derived.Test.YthahhonmkhafkaaGreatDoorHierV
import Derived.Test.YthahhonmkhafkaaGreatDoorHierS
namespace Go.Proofs.YthahhonmkhafkaaGreatDoor.Am
set_option linter.unusedSimpArgs false
set_option linter.unusedVariables false
set_option linter.unusedSectionVars false
open Go
attribute [local simp ↓] K_seq K_cond K_block K_region K_skip K_exit K_ret K_wrap KA_nil KA_none KA_some str_eq
attribute [local simp] beq_int bne_int dec_eqN dec_ltN dec_leN stepOp St.rd St.raw St.set St.took get_cons V.down C.down Env.keep binV unV arith isShift strs intOf optInt wrapEnd keptAt andK endOf frzV frz1 frzC frzCs frz1s resOf resOne resAll V.closed V.closed1 C.closed B.closed Ob.closed V.cells partsIn rep chunk datas C.data rowsOf getCells put_nil put_zero put_succ mayWrite C.plain eqV_bool eqV_agg eqV_pnn eqV_pnp eqV_ppn eqV_mnn eqV_mmn eqV_snn eqV_sen eqV_san eqV_sdn rs_len rs_getE rs_app rs_take rs_drop rs_all rs_each row_len str_nilP str_nilE str_nilB vagg row_Int row_Bool row_Str k_Int k_Bool k_Str snoc_Int snoc_Bool snoc_Str row_Type k_Type snoc_Type eta_Type sames_Type row_Field k_Field snoc_Field eta_Field sames_Field row_Instr k_Instr snoc_Instr eta_Instr sames_Instr row_Catch k_Catch snoc_Catch eta_Catch sames_Catch row_Method k_Method snoc_Method row_Class k_Class snoc_Class row_Program k_Program snoc_Program row_Slot k_Slot snoc_Slot eta_Slot sames_Slot row_State k_State snoc_State row_Val k_Val snoc_Val eta_Val sames_Val row_Obj k_Obj snoc_Obj row_Input k_Input snoc_Input row_Frame k_Frame snoc_Frame row_Run k_Run snoc_Run row_Way k_Way snoc_Way eta_Way sames_Way row_Task k_Task snoc_Task eta_Task sames_Task
--let TP delverkeep.TwinProgram
--let HM delverlaw04.HierMore

theorem fn_twinProgram1 (p : GProgram) (h : OkP p) (σ : List Ob) (lo tr : Nat) : Fn fns 4113 [vProgram p] σ lo tr = some (.agg [.osl 6 (rows p.classes)], σ) := by
  refine fn_gen (f := 4096 + 17) t17v1 rfl (σ1 := []) rfl rfl ?_ σ lo tr
  have d := h.len
  have L : ∀ (k : AExit → St → Option (V × List Ob)), K fns ⟨0,0⟩ f17v1_l0 ⟨[(1, vptr 0), (2, vptr 1), (3, vptr 2), (4, vint 0)], [cP p, .cells [.osl 6 []], .cells [.osl 6 []]]⟩ k = k (.exit 0) ⟨[(2, vptr 1), (3, vptr 2)], [cP p, .cells [.osl 6 []], .cells [.osl 6 (rows p.classes)]]⟩ := fun k => by
    have := scan_map (l := p.classes) (f := fun o => o) (X := fun i x => K fns ⟨0,0⟩ f17v1_l0 ⟨[(1, vptr 0), (2, vptr 1), (3, vptr 2), (4, vint i)], [cP p, .cells [.osl 6 []], .cells [.osl 6 (rows x)]]⟩ k) (e := fun x => k (.exit 0) ⟨[(2, vptr 1), (3, vptr 2)], [cP p, .cells [.osl 6 []], .cells [.osl 6 (rows x)]]⟩)
      (fun i x hi hc => by
        have hw := wrap_succ (i := i) (by omega)
        have hf := fn_twinClass (p.classes[i]) (h.cs _ (List.getElem_mem hi))
        have hcl : x.length = i := by rw [hc]; simp; omega
        have q1 : x.length + 1 ≤ 70368744177664 := by omega
        have q2 : (x.length + 1) * 112 ≤ 70368744177664 := by omega
        show K fns _ f17v1_l0 _ k = _
        rw [u17v1_l0]
        simp [f17v1_b0, hi, hw, q1, q2, hf])
      (fun x hc => by
        show K fns _ f17v1_l0 _ k = _
        rw [u17v1_l0]
        simp [f17v1_b0])
    simpa [rs_nil] using this
  simp [KF, params, f17v1, L]

set_option maxRecDepth 100000 in
set_option maxHeartbeats 8000000 in
theorem fn_more (p : GProgram) (a b : Int) (σ : List Ob) (lo tr : Nat) : Fn fns 5 [vProgram p, vint a, vint b] σ lo tr = some (vbool true, σ) := by
  refine fn_gen t5 rfl (σ1 := []) rfl rfl ?_ σ lo tr
  cases hv : heavy p
  case true => simp [KF, params, f5, fn_heavy, hv]
  have hp := okP hv
  have hh := fn_hier p hp
  by_cases hE : hierE p = 0
  case neg => simp [KF, params, f5, fn_heavy, hv, hh, hE]
  have hP : hierP p = 0 := by rw [hier_eq hp]; exact hE
  rw [hE] at hh
  by_cases hlen : p.classes.length < 10
  case neg =>
    have hlen' : (10 : Int) ≤ p.classes.length := by omega
    simp [KF, params, f5, fn_heavy, hv, hh, hlen']
  have hlen' : ¬ (10 : Int) ≤ p.classes.length := by omega
  have hat := fn_at p.classes sNew (by omega)
  by_cases hz0 : atI p.classes sNew < 0
  case neg =>
    have hz1 : 0 ≤ atI p.classes sNew := by omega
    simp [KF, params, f5, fn_heavy, hv, hh, hlen', hat, hz1]
  have hz1 : ¬ 0 ≤ atI p.classes sNew := by omega
  have hz : sNew ∉ namesOf (allL p) := by
    rcases at_names p.classes sNew with ⟨_, h2⟩ | ⟨h1, _⟩
    · intro hx
      simp only [namesOf, allL, List.map_append, List.mem_append] at hx
      rcases hx with hx | hx
      · exact absurd hx (by decide)
      · exact h2 hx
    · exact absurd hz0 h1
  have tw := fn_twinProgram1 p hp
  have hq := add_ok hp hlen
  have hqP := add_hier hp hP hlen hz
  have hn := fn_names p hp
  have hL := all_len hp
  have hnl : (namesL p).length = (allL p).length := by simp [namesL]
  have h0 : 0 < (namesL p).length := by rw [hnl]; simp [allL, baseL]
  have hin : ∀ i (h : i < (namesL p).length), (namesL p)[i] ∈ namesOf (allL p) := fun i h => List.getElem_mem h
  obtain ⟨w1, kx, kx1, kx2⟩ := pick_ix a h0 (by omega)
  obtain ⟨_, ky, ky1, ky2⟩ := pick_ix b h0 (by omega)
  have hx := hin kx kx1
  have hy := hin ky ky1
  have hne : ¬ ((namesL p).length : Int) = 0 := by omega
  have hne' : ¬ (namesL p).length = 0 := by omega
  have hne2 : ¬ namesL p = [] := fun h => by rw [h] at h0; simp at h0
  have hu := fn_under p hp
  have hua := fn_under (addP p) hq
  have hca := fn_check (addP p) hq
  rw [hqP] at hca
  have e1 := under_add hp hP hlen hz hx (namesL p)[ky]
  have e2 := under_new hp hP hlen hz hx
  have e3 := not_under_new hp hP hlen hz hx
  have e4 := want_add hp hP hlen hz hx
  have hk := fn_kinds p hp (namesL p)[kx]
  have hka := fn_kinds (addP p) hq (namesL p)[kx]
  rw [kinds_want hp hP] at hk
  rw [kinds_want hq hqP] at hka
  have hwl := want_len hp (namesL p)[kx]
  have hst := fun l : List ByteArray => fun h : l.length ≤ 1000000 => fn_strings l l h
  have hrow : rows p.classes ++ [[D.str ⟨#[90, 122, 95, 110, 101, 119]⟩, D.bool false, D.str ⟨#[]⟩, D.sl [], D.sl [], D.sl []]] = rows (p.classes ++ [newC]) := by simp [rows]
  have hadd : vProgram (addP p) = .agg [.b (.d (.sl (rows (p.classes ++ [newC]))))] := rfl
  generalize namesL p = nl at *
  obtain ⟨x, gx⟩ : ∃ x, nl[kx] = x := ⟨_, rfl⟩
  obtain ⟨y, gy⟩ : ∃ y, nl[ky] = y := ⟨_, rfl⟩
  rw [gx] at hx e1 e2 e3 e4 hk hka hwl
  rw [gy] at e1
  generalize wantL p x = wl at *
  have hua1 := fun σ lo tr => hua x y σ lo tr
  have hua2 := fun σ lo tr => hua sNew x σ lo tr
  have hua3 := fun σ lo tr => hua x sNew σ lo tr
  rw [e1] at hua1
  rw [e2] at hua2
  rw [e3] at hua3
  have q1 : p.classes.length + 1 ≤ 70368744177664 := by omega
  have q2 : (p.classes.length + 1) * 112 ≤ 70368744177664 := by omega
  have q3 : wl.length + 1 ≤ 70368744177664 := by omega
  have q4 : (wl.length + 1) * 16 ≤ 70368744177664 := by omega
  by_cases hxo : x = sObject
  · subst hxo
    rw [e4, if_pos rfl] at hka
    have hs := hst (wl ++ [sNew]) (by simp; omega)
    simp only [hadd] at hua1 hua2 hua3 hca hka
    simp (maxSteps := 2000000) [KF, params, f5, fn_heavy, hv, hh, hlen', hat, hz1, tw, q1, q2, q3, q4, hn, hne, hne', hne2, w1, kx1, ky1, kx2, ky2, gx, gy, hrow, hk, hca, hu, hua1, hua2, hua3, hka, hs, fn_wakes]
  · rw [e4, if_neg hxo, List.append_nil] at hka
    have hs := hst wl (by omega)
    simp only [hadd] at hua1 hua2 hua3 hca hka
    simp (maxSteps := 2000000) [KF, params, f5, fn_heavy, hv, hh, hlen', hat, hz1, tw, q1, q2, q3, q4, hn, hne, hne', hne2, w1, kx1, ky1, kx2, ky2, gx, gy, hrow, hk, hxo, hca, hu, hua1, hua2, hua3, hka, hs, fn_wakes]
end Go.Proofs.YthahhonmkhafkaaGreatDoor.Am
