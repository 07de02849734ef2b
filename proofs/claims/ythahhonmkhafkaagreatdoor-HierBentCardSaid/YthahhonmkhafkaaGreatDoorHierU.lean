/- The law HierExact. Written by wip/tools/hu.py. -/
import Derived.Test.YthahhonmkhafkaaGreatDoorHierT
namespace Go.Proofs.YthahhonmkhafkaaGreatDoor.Am
set_option linter.unusedSimpArgs false
set_option linter.unusedVariables false
set_option linter.unusedSectionVars false
open Go
attribute [local simp ↓] K_seq K_cond K_block K_region K_skip K_exit K_ret K_wrap KA_nil KA_none KA_some str_eq
attribute [local simp] beq_int bne_int dec_eqN dec_ltN dec_leN stepOp St.rd St.raw St.set St.took get_cons V.down C.down Env.keep binV unV arith isShift strs intOf optInt wrapEnd keptAt andK endOf frzV frz1 frzC frzCs frz1s resOf resOne resAll V.closed V.closed1 C.closed B.closed Ob.closed V.cells partsIn rep chunk datas C.data rowsOf getCells put_nil put_zero put_succ mayWrite C.plain eqV_bool eqV_agg eqV_pnn eqV_pnp eqV_ppn eqV_mnn eqV_mmn eqV_snn eqV_sen eqV_san eqV_sdn rs_len rs_getE rs_app rs_take rs_drop rs_all rs_each row_len str_nilP str_nilE str_nilB vagg row_Int row_Bool row_Str k_Int k_Bool k_Str snoc_Int snoc_Bool snoc_Str row_Type k_Type snoc_Type eta_Type sames_Type row_Field k_Field snoc_Field eta_Field sames_Field row_Instr k_Instr snoc_Instr eta_Instr sames_Instr row_Catch k_Catch snoc_Catch eta_Catch sames_Catch row_Method k_Method snoc_Method row_Class k_Class snoc_Class row_Program k_Program snoc_Program row_Slot k_Slot snoc_Slot eta_Slot sames_Slot row_State k_State snoc_State row_Val k_Val snoc_Val eta_Val sames_Val row_Obj k_Obj snoc_Obj row_Input k_Input snoc_Input row_Frame k_Frame snoc_Frame row_Run k_Run snoc_Run row_Way k_Way snoc_Way eta_Way sames_Way row_Task k_Task snoc_Task eta_Task sames_Task
--let RU delverref04.Under
--let HV delverlaw02.Heavy
--let HI delverref04.Hier
--let LE delverlaw04.HierExact
--let KC delverkeep.Class
--let HF hier.Find
--let HK hier.Kinds
--let HS hier.Super
--let HU hier.Under
--let HC hier.Check

theorem noC_ok : OkC noC := okC (by decide)
set_option maxRecDepth 100000 in
set_option maxHeartbeats 16000000 in
theorem fn_exact (p : GProgram) (a b : ByteArray) (σ : List Ob) (lo tr : Nat) : Fn fns 6 [vProgram p, vstr a, vstr b] σ lo tr = some (vbool true, σ) := by
  refine fn_gen t6 rfl (σ1 := []) rfl rfl ?_ σ lo tr
  cases hv : heavy p
  case true => simp [KF, params, f6, fn_heavy, hv]
  by_cases ha : 60 < a.size
  · have ha1 : (60 : Int) < a.size := by omega
    simp [KF, params, f6, fn_heavy, hv, ha1]
  have ha1 : ¬ (60 : Int) < a.size := by omega
  by_cases hb : 60 < b.size
  · have hb1 : (60 : Int) < b.size := by omega
    simp [KF, params, f6, fn_heavy, hv, ha1, hb1]
  have hb1 : ¬ (60 : Int) < b.size := by omega
  have hp := okP hv
  have tw := fn_twinProgram p hp
  have hh := fn_hier p hp
  have hcheck := fn_check p hp
  have hEq := hier_eq hp
  have hall := fn_all p hp
  have hrall := fn_refAll p hp
  have hL := all_len hp
  have hok := allL_ok hp
  have hclasses := fn_classesR (allL p) (by omega) hok
  have hprog := fn_programR p hp
  have hat := fn_at (allL p) a (by omega)
  have hfind := fn_find p hp a
  have hsup := fn_super_ p hp a
  have hund := fn_under p hp a b
  have hkin := fn_kinds p hp a
  have hcn : ∀ σ lo tr, Fn fns 25 [z6v, z6v] σ lo tr = some (vbool true, σ) := fun σ lo tr => fn_classR noC noC_ok σ lo tr
  by_cases hE : hierE p = 0
  case neg =>
    have hP : ¬ hierP p = 0 := by rw [hEq]; exact hE
    have e1 : foundP p a = none := by simp [foundP, hP]
    have e2 : supP p a = ⟨#[]⟩ := by simp [supP, hP]
    have e3 : underP p a b = false := by simp [underP, hP]
    have e4 : kindsP p a = [] := by simp [kindsP, hP]
    have hfind : ∀ σ lo tr, Fn fns 19 [vProgram p, vstr a] σ lo tr = some (.tup [z6v, vbool false], σ) := fun σ lo tr => by
      have := hfind σ lo tr; rw [e1] at this; exact this
    have hkin : ∀ σ lo tr, Fn fns 15 [vProgram p, vstr a] σ lo tr = some (.c (.osl 1 []), σ) := fun σ lo tr => by
      have := hkin σ lo tr; rw [e4] at this; exact this
    rw [e2] at hsup
    rw [e3] at hund
    rw [hEq] at hcheck
    simp only [decide_true, Bool.not_true] at hsup
    generalize allL p = l at *
    generalize atI l a = q at *
    generalize hierE p = E at *
    simp (maxSteps := 4000000) [KF, params, f6, fn_heavy, hv, ha1, hb1, tw, hh, hcheck, hall, hrall, hclasses, hprog, hat, hfind, hsup, hund, hkin, fn_wakes, hE, hcn]
  have hP : hierP p = 0 := by rw [hEq]; exact hE
  have sane := sane_of hp hP
  have hrk := fn_refKinds p hp hP a
  have hst := fn_strings (kindsP p a) (kindsP p a) (by rw [kinds_want hp hP]; have := want_len hp a; omega)
  have hru : ∀ σ lo tr, Fn fns 28 [vProgram p, vstr a, vstr b] σ lo tr = some (vbool (underP p a b), σ) := fun σ lo tr => by rw [fn_refUnder p hp, refU_eq hp hP]
  simp only [decide_true] at hst
  rw [hE] at hh
  rw [hP] at hcheck
  rcases at_find (l := allL p) (s := a) with ⟨h1, h2⟩ | ⟨i, hi, h1, h2, h3, _⟩
  · have e0 : findC (allL p) a = none := h1
    have e1 : foundP p a = none := by simp [foundP, e0]
    have e2 : supP p a = ⟨#[]⟩ := by simp [supP, e0]
    have hna : a ∉ namesOf (allL p) := by
      rcases at_names (allL p) a with ⟨_, m⟩ | ⟨m, _⟩
      · exact m
      · omega
    have e3 : underP p a b = false := by simp [underP, hna]
    have hfind : ∀ σ lo tr, Fn fns 19 [vProgram p, vstr a] σ lo tr = some (.tup [z6v, vbool false], σ) := fun σ lo tr => by
      have := hfind σ lo tr; rw [e1] at this; exact this
    rw [e2] at hsup
    rw [e3] at hund
    rw [h2] at hat
    simp only [decide_true, Bool.not_true] at hsup
    generalize allL p = l at *
    generalize kindsP p a = kk at *
    simp (maxSteps := 4000000) [KF, params, f6, fn_heavy, hv, ha1, hb1, tw, hh, hcheck, hall, hrall, hclasses, hprog, hat, hfind, hsup, hund, hkin, fn_wakes, hcn, hrk, hst]
  · have e0 : findC (allL p) a = some (allL p)[i] := h2
    have e1 : foundP p a = some (allL p)[i] := by simp [foundP, e0, hP]
    have e2 : supP p a = superL (allL p)[i] := by simp [supP, e0, hP]
    have hfind : ∀ σ lo tr, Fn fns 19 [vProgram p, vstr a] σ lo tr = some (.tup [vClass (allL p)[i], vbool true], σ) := fun σ lo tr => by
      have := hfind σ lo tr; rw [e1] at this; exact this
    have hso := fn_superOf (allL p)[i]
    have hcr := fn_classR (allL p)[i] (hok _ (List.getElem_mem hi))
    rw [e2] at hsup
    rw [h1] at hat
    have hi' : ¬ ((i : Int) < 0) := by omega
    clear e0 e1 e2 h1 h2 h3 sane hok hEq
    generalize allL p = l at *
    generalize kindsP p a = kk at *
    generalize underP p a b = u at *
    generalize superL l[i] = su at *
    simp (maxSteps := 4000000) [KF, params, f6, fn_heavy, hv, ha1, hb1, tw, hh, hcheck, hall, hrall, hclasses, hprog, hat, hfind, hsup, hund, hkin, fn_wakes, hi, hi', hso, hcr, hrk, hst, hru]
end Go.Proofs.YthahhonmkhafkaaGreatDoor.Am
