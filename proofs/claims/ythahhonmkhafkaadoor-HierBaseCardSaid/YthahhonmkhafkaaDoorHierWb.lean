/- The law HierBase, run. -/
import Derived.Test.YthahhonmkhafkaaDoorHierW
import Derived.Test.YthahhonmkhafkaaDoorHierT
namespace Go.Proofs.YthahhonmkhafkaaDoor.Am
set_option linter.unusedSimpArgs false
set_option linter.unusedVariables false
set_option linter.unusedSectionVars false
open Go
attribute [local simp ↓] K_seq K_cond K_block K_region K_skip K_exit K_ret K_wrap KA_nil KA_none KA_some str_eq
attribute [local simp] beq_int bne_int dec_eqN dec_ltN dec_leN stepOp St.rd St.raw St.set St.took get_cons V.down C.down Env.keep binV unV arith isShift strs intOf optInt wrapEnd keptAt andK endOf frzV frz1 frzC frzCs frz1s resOf resOne resAll V.closed V.closed1 C.closed B.closed Ob.closed V.cells partsIn rep chunk datas C.data rowsOf getCells put_nil put_zero put_succ mayWrite C.plain eqV_bool eqV_agg eqV_pnn eqV_pnp eqV_ppn eqV_mnn eqV_mmn eqV_snn eqV_sen eqV_san eqV_sdn rs_len rs_getE rs_app rs_take rs_drop rs_all rs_each row_len str_nilP str_nilE str_nilB vagg row_Int row_Bool row_Str k_Int k_Bool k_Str snoc_Int snoc_Bool snoc_Str row_Type k_Type snoc_Type eta_Type sames_Type row_Field k_Field snoc_Field eta_Field sames_Field row_Instr k_Instr snoc_Instr eta_Instr sames_Instr row_Catch k_Catch snoc_Catch eta_Catch sames_Catch row_Method k_Method snoc_Method row_Class k_Class snoc_Class row_Program k_Program snoc_Program row_Slot k_Slot snoc_Slot eta_Slot sames_Slot row_State k_State snoc_State row_Val k_Val snoc_Val eta_Val sames_Val row_Obj k_Obj snoc_Obj row_Input k_Input snoc_Input row_Frame k_Frame snoc_Frame row_Run k_Run snoc_Run row_Way k_Way snoc_Way eta_Way sames_Way row_Task k_Task snoc_Task eta_Task sames_Task
--let LB delverlaw04.HierBase

theorem base_is : ∀ j : Fin 8, baseL[j] = cls baseN[j] baseL[j].super := by decide
theorem all_base {p : GProgram} {i : Nat} (hi : i < 8) (h : i < (allL p).length) (h' : i < baseN.length) : ∃ s, (allL p)[i] = cls baseN[i] s := by
  have hb : i < baseL.length := hi
  have e : (allL p)[i]? = baseL[i]? := by
    show (baseL ++ p.classes)[i]? = _
    rw [List.getElem?_append_left hb]
  rw [List.getElem?_eq_getElem h, List.getElem?_eq_getElem hb, Option.some.injEq] at e
  exact ⟨_, e.trans (base_is ⟨i, hi⟩)⟩
theorem base_zero : ∀ j : Fin 8, decide (baseN[j] = sObject) = decide (j.1 = 0) := by decide

set_option maxRecDepth 100000 in
set_option maxHeartbeats 4000000 in
theorem h3_0 (k : AExit → St → Option (V × List Ob)) (p : GProgram) (hp : OkP p) : K fns ⟨0,0⟩ f3_l0 ⟨[(1, vptr 0), (3, vsl baseN), (4, vsl (allL p)), (5, vbool (decide (hierP p = 0))), (6, vint 0)], [cP p]⟩ k = k (.exit 0) ⟨[(1, vptr 0), (5, vbool (decide (hierP p = 0)))], [cP p]⟩ := by
  have hl8 : 8 ≤ (allL p).length := by simp [allL, baseL]
  have hbn : baseN.length = 8 := rfl
  refine (scan_on (n := 8) (X := fun i => K fns ⟨0,0⟩ f3_l0 ⟨[(1, vptr 0), (3, vsl baseN), (4, vsl (allL p)), (5, vbool (decide (hierP p = 0))), (6, vint i)], [cP p]⟩ k) (fun i hi => ?_)).trans ?_
  · show K fns _ f3_l0 _ k = K fns _ f3_l0 _ k
    rw [u3_l0]
    have hw := wrap_succ (i := i) (by omega)
    have h1 : i < (allL p).length := by omega
    have h2 : i < baseN.length := by omega
    obtain ⟨s, hs⟩ := all_base hi h1 h2
    have hu := fn_under p hp
    have hi' : (i : Int) < 8 := by omega
    have w0 : IntKind.i64.wrap 0 = 0 := by decide
    have hmem : baseN[i] ∈ baseN := List.getElem_mem h2
    have hz : decide (baseN[i] = sObject) = decide (i = 0) := base_zero ⟨i, hi⟩
    by_cases hP : hierP p = 0
    · have e1 := base_error hp hP _ hmem
      have e2 := base_object hp hP _ hmem
      rw [hz] at e1
      have u1 := fun σ lo tr => hu baseN[i] sError σ lo tr
      have u2 := fun σ lo tr => hu baseN[i] sObject σ lo tr
      rw [e1] at u1
      rw [e2] at u2
      generalize baseN = bn at *
      rcases Nat.eq_zero_or_pos i with rfl | hpos
      · have hw : IntKind.i64.wrap 1 = 1 := by decide
        simp (maxSteps := 2000000) [f3_b0, w0, h1, h2, hs, hP, u1, u2, hw]
      · have n0 : ¬ i = 0 := by omega
        have n1 : (0 : Int) < i := by omega
        have n2 : 0 < i := hpos
        simp (maxSteps := 2000000) [f3_b0, w0, h1, h2, hi', hs, hP, u1, u2, n0, n1, n2, hw]
    · have e : ∀ x y, underP p x y = false := fun x y => by simp [underP, hP]
      simp only [e] at hu
      generalize baseN = bn at *
      simp (maxSteps := 2000000) [f3_b0, w0, h1, h2, hi', hs, hP, hu, hw]
  · show K fns _ f3_l0 _ k = _
    rw [u3_l0]
    simp (maxSteps := 2000000) [f3_b0]

set_option maxRecDepth 100000 in
set_option maxHeartbeats 4000000 in
theorem fn_baseLaw (p : GProgram) (σ : List Ob) (lo tr : Nat) : Fn fns 3 [vProgram p] σ lo tr = some (vbool true, σ) := by
  refine fn_gen t3 rfl (σ1 := []) rfl rfl ?_ σ lo tr
  cases hv : heavy p
  case true => simp [KF, params, f3, fn_heavy, hv]
  have hp := okP hv
  have hall := fn_all p hp
  have hcl := fn_classesR p.classes (by have := hp.len; omega) hp.cs
  have hch := fn_check p hp
  have hs := fn_super_ p hp
  have h1 := fun σ lo tr => hs sError σ lo tr
  have h2 := fun σ lo tr => hs sObject σ lo tr
  obtain ⟨b1, b2⟩ := base_sups (p := p)
  rw [b1] at h1
  rw [b2] at h2
  have hdrop : (allL p).drop 8 = p.classes := by simp [allL, baseL]
  have hlen : (allL p).length = 8 + p.classes.length := by simp [allL, baseL]; omega
  have hb : rows baseN = [[.str ⟨#[79, 98, 106, 101, 99, 116]⟩], [.str ⟨#[69, 114, 114, 111, 114]⟩], [.str ⟨#[78, 117, 108, 108, 69, 114, 114, 111, 114]⟩], [.str ⟨#[82, 97, 110, 103, 101, 69, 114, 114, 111, 114]⟩], [.str ⟨#[67, 97, 115, 116, 69, 114, 114, 111, 114]⟩], [.str ⟨#[78, 117, 109, 69, 114, 114, 111, 114]⟩], [.str ⟨#[83, 105, 122, 101, 69, 114, 114, 111, 114]⟩], [.str ⟨#[68, 101, 112, 116, 104, 69, 114, 114, 111, 114]⟩]] := rfl
  have L := fun k => h3_0 k p hp
  have hw : IntKind.i64.wrap (8 + (p.classes.length : Int)) = 8 + (p.classes.length : Int) := by
    have := hp.len
    rw [show (8 + (p.classes.length : Int)) = ((8 + p.classes.length : Nat) : Int) by omega]
    exact wrap_nat (by omega) (by omega)
  have hdt : List.drop 8 (List.take (8 + (p.classes.length : Int)).toNat (allL p)) = p.classes := by
    rw [List.take_of_length_le (by omega), hdrop]
  generalize allL p = al at *
  have h8 : (8 : Int) ≤ 8 + (p.classes.length : Int) := by omega
  by_cases hP : hierP p = 0
  · simp only [hP, decide_true, if_true] at L h1
    simp (maxSteps := 2000000) [KF, params, f3, fn_heavy, hv, hall, hlen, hdrop, hdt, hw, h8, hcl, hch, hP, ← hb, L, h1, h2, fn_wakes]
  · simp only [hP, decide_false, if_false] at L h1
    simp (maxSteps := 2000000) [KF, params, f3, fn_heavy, hv, hall, hlen, hdrop, hdt, hw, h8, hcl, hch, hP, ← hb, L, h1, h2, fn_wakes]
end Go.Proofs.YthahhonmkhafkaaDoor.Am
