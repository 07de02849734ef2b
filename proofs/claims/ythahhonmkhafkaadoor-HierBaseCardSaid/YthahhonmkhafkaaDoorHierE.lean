/- Words, types, instructions. Written by wip/tools/he.py. -/
import Derived.Test.YthahhonmkhafkaaDoorHierD
namespace Go.Proofs.YthahhonmkhafkaaDoor.Am
set_option linter.unusedSimpArgs false
set_option linter.unusedVariables false
set_option linter.unusedSectionVars false
open Go
attribute [local simp ↓] K_seq K_cond K_block K_region K_skip K_exit K_ret K_wrap KA_nil KA_none KA_some str_eq
attribute [local simp] beq_int bne_int dec_eqN dec_ltN dec_leN stepOp St.rd St.raw St.set St.took get_cons V.down C.down Env.keep binV unV arith isShift strs intOf optInt wrapEnd keptAt andK endOf frzV frz1 frzC frzCs frz1s resOf resOne resAll V.closed V.closed1 C.closed B.closed Ob.closed V.cells partsIn rep chunk datas C.data rowsOf getCells put_nil put_zero put_succ mayWrite C.plain eqV_bool eqV_agg eqV_pnn eqV_pnp eqV_ppn eqV_mnn eqV_mmn eqV_snn eqV_sen eqV_san eqV_sdn rs_len rs_getE rs_app rs_take rs_drop rs_all rs_each row_len str_nilP str_nilE str_nilB vagg row_Int row_Bool row_Str k_Int k_Bool k_Str snoc_Int snoc_Bool snoc_Str row_Type k_Type snoc_Type eta_Type sames_Type row_Field k_Field snoc_Field eta_Field sames_Field row_Instr k_Instr snoc_Instr eta_Instr sames_Instr row_Catch k_Catch snoc_Catch eta_Catch sames_Catch row_Method k_Method snoc_Method row_Class k_Class snoc_Class row_Program k_Program snoc_Program row_Slot k_Slot snoc_Slot eta_Slot sames_Slot row_State k_State snoc_State row_Val k_Val snoc_Val eta_Val sames_Val row_Obj k_Obj snoc_Obj row_Input k_Input snoc_Input row_Frame k_Frame snoc_Frame row_Run k_Run snoc_Run row_Way k_Way snoc_Way eta_Way sames_Way row_Task k_Task snoc_Task eta_Task sames_Task
--let RK delverref01.Kept
--let RF delverref01.freshName
--let RI delverref01.in
--let RS delverref01.Shape
--let RT delverref01.TypeText
--let RX delverref01.showInstr
--let IX slices.Index[[]string,string]
--let CN slices.Contains[[]string,string]
--let PK parse.Kept
--let PF parse.Fresh
--let FI strings.Fields
--let SI show.in
--let PJ parse.Jump
--let PU parse.Num
--let PA parse.Names
--let SN show.named
--let ST show.typed
--let SX show.instr

abbrev keptL : List ByteArray := [⟨#[99, 108, 97, 115, 115]⟩, ⟨#[105, 110, 116, 101, 114, 102, 97, 99, 101]⟩, ⟨#[101, 120, 116, 101, 110, 100, 115]⟩, ⟨#[105, 109, 112, 108, 101, 109, 101, 110, 116, 115]⟩, ⟨#[102, 105, 101, 108, 100]⟩, ⟨#[115, 116, 97, 116, 105, 99]⟩, ⟨#[109, 101, 116, 104, 111, 100]⟩, ⟨#[102, 117, 110, 99, 116, 105, 111, 110]⟩, ⟨#[108, 111, 99, 97, 108, 115]⟩, ⟨#[99, 97, 116, 99, 104]⟩, ⟨#[105, 110, 116]⟩, ⟨#[118, 111, 105, 100]⟩]
def keptB (s : ByteArray) : Bool := keptL.any fun x => decide (x = s)
def freshB (s : ByteArray) : Bool := nameB s && !keptB s

theorem fields_run : evf fns 300 19 [vstr ⟨#[99, 108, 97, 115, 115, 32, 105, 110, 116, 101, 114, 102, 97, 99, 101, 32, 101, 120, 116, 101, 110, 100, 115, 32, 105, 109, 112, 108, 101, 109, 101, 110, 116, 115, 32, 102, 105, 101, 108, 100, 32, 115, 116, 97, 116, 105, 99, 32, 109, 101, 116, 104, 111, 100, 32, 102, 117, 110, 99, 116, 105, 111, 110, 32, 108, 111, 99, 97, 108, 115, 32, 99, 97, 116, 99, 104, 32, 105, 110, 116, 32, 118, 111, 105, 100]⟩] [] 0 0 = some (vsl keptL, []) := by kernel_rfl
theorem fn_fields (σ : List Ob) (lo tr : Nat) : Fn fns 19 [vstr ⟨#[99, 108, 97, 115, 115, 32, 105, 110, 116, 101, 114, 102, 97, 99, 101, 32, 101, 120, 116, 101, 110, 100, 115, 32, 105, 109, 112, 108, 101, 109, 101, 110, 116, 115, 32, 102, 105, 101, 108, 100, 32, 115, 116, 97, 116, 105, 99, 32, 109, 101, 116, 104, 111, 100, 32, 102, 117, 110, 99, 116, 105, 111, 110, 32, 108, 111, 99, 97, 108, 115, 32, 99, 97, 116, 99, 104, 32, 105, 110, 116, 32, 118, 111, 105, 100]⟩] σ lo tr = some (vsl keptL, σ) := fn_run t19 rfl rfl fields_run σ lo tr

theorem fn_index (l : List ByteArray) (s : ByteArray) (hs : l.length ≤ 1000000) (σ : List Ob) (lo tr : Nat) : Fn fns 83 [vsl l, vstr s] σ lo tr = some (vint (idxI (fun x => decide (s = x)) l), σ) := by
  refine fn_gen t83 rfl (σ1 := []) rfl rfl ?_ σ lo tr
  have L : ∀ k : AExit → St → Option (V × List Ob), K fns ⟨0,0⟩ f83_l0 ⟨[(0, vsl l), (1, vstr s), (7, vint l.length), (8, vint 0)], []⟩ k = match l.findIdx? (fun x => decide (s = x)) with | some i => k .ret ⟨[(4, vint i)], []⟩ | none => k (.exit 0) ⟨[], []⟩ := fun k =>
    scan_find (l := l) (p := fun x => decide (s = x)) (X := fun i => K fns ⟨0,0⟩ f83_l0 ⟨[(0, vsl l), (1, vstr s), (7, vint l.length), (8, vint i)], []⟩ k)
      (r := fun i => k .ret ⟨[(4, vint i)], []⟩)
      (fun i hi => by
        have hw := wrap_succ (i := i) (by omega)
        show K fns _ f83_l0 _ k = _
        rw [u83_l0]
        by_cases hc : s = l[i] <;> simp [f83_b0, hi, hc, hw])
      (by show K fns _ f83_l0 _ k = _; rw [u83_l0]; simp [f83_b0])
  unfold idxI
  cases hf : l.findIdx? (fun x => decide (s = x)) <;> simp [KF, params, f83, L, hf]

theorem fn_contains (l : List ByteArray) (s : ByteArray) (hs : l.length ≤ 1000000) (σ : List Ob) (lo tr : Nat) : Fn fns 71 [vsl l, vstr s] σ lo tr = some (vbool (l.any fun x => decide (s = x)), σ) := by
  refine fn_gen t71 rfl (σ1 := []) rfl rfl ?_ σ lo tr
  rw [← idxI_ge]
  simp [KF, params, f71, fn_index l s hs]

theorem fn_kept (s : ByteArray) (σ : List Ob) (lo tr : Nat) : Fn fns 56 [vstr s] σ lo tr = some (vbool (keptB s), σ) := by
  refine fn_gen t56 rfl (σ1 := []) rfl rfl ?_ σ lo tr
  have h1 := fn_contains keptL s (by simp)
  have h2 : keptB s = keptL.any fun x => decide (s = x) := by
    unfold keptB
    congr 1; funext x
    exact decide_eq_decide.mpr eq_comm
  rw [h2]
  have h3 := fn_fields
  generalize keptL = l at h1 h3
  simp only [KF, params, f56]
  simp [h3, h1]

theorem fn_fresh (s : ByteArray) (σ : List Ob) (lo tr : Nat) : Fn fns 47 [vstr s] σ lo tr = some (vbool (freshB s), σ) := by
  refine fn_gen t47 rfl (σ1 := []) rfl rfl ?_ σ lo tr
  unfold freshB
  cases h : nameB s <;> simp [KF, params, f47, fn_name, fn_kept, h]

def inB (n lo hi : Int) : Bool := decide (lo ≤ n) && decide (n ≤ hi)
theorem fn_in (n a b : Int) (σ : List Ob) (lo tr : Nat) : Fn fns 64 [vint n, vint a, vint b] σ lo tr = some (vbool (inB n a b), σ) := by
  refine fn_gen t64 rfl (σ1 := []) rfl rfl ?_ σ lo tr
  unfold inB
  by_cases h : a ≤ n <;> simp [KF, params, f64, h]

/-- May it stand in a text? -/
def typedB (t : GType) : Bool := if t.kind = 1 ∨ t.kind = 2 ∨ t.kind = 4 then decide (t.name = ⟨#[]⟩) else if t.kind = 3 ∨ t.kind = 5 then freshB t.name else false
theorem fn_typed (t : GType) (σ : List Ob) (lo tr : Nat) : Fn fns 60 [vType t] σ lo tr = some (vbool (typedB t), σ) := by
  refine fn_gen t60 rfl (σ1 := []) rfl rfl ?_ σ lo tr
  unfold typedB
  by_cases h1 : t.kind = 1
  · simp [KF, params, f60, h1]
  by_cases h2 : t.kind = 2
  · simp [KF, params, f60, h1, h2]
  by_cases h4 : t.kind = 4
  · simp [KF, params, f60, h1, h2, h4]
  by_cases h3 : t.kind = 3
  · simp [KF, params, f60, h1, h2, h4, h3, fn_fresh]
  by_cases h5 : t.kind = 5
  · simp [KF, params, f60, h1, h2, h4, h3, h5, fn_fresh]
  simp [KF, params, f60, h1, h2, h4, h3, h5]

theorem name_size {s : ByteArray} (h : nameB s = true) : s.size ≤ 20 := by
  unfold nameB at h
  rw [← by_len]
  cases hb : byL s with
  | nil => simp
  | cons b t => rw [hb] at h; simp at h; simp; omega
theorem fresh_size {s : ByteArray} (h : freshB s = true) : s.size ≤ 20 := by
  unfold freshB at h
  simp at h
  exact name_size h.1
theorem fresh_ne {s : ByteArray} (h : freshB s = true) : s ≠ ⟨#[]⟩ := by
  rintro rfl
  revert h; decide
/-- The text of a type; none. -/
def typeText (t : GType) : ByteArray := if t.kind = 1 ∧ t.name = ⟨#[]⟩ then ⟨#[118, 111, 105, 100]⟩ else if t.kind = 2 ∧ t.name = ⟨#[]⟩ then ⟨#[105, 110, 116]⟩ else if t.kind = 4 ∧ t.name = ⟨#[]⟩ then ⟨#[105, 110, 116, 91, 93]⟩ else if t.kind = 3 ∧ freshB t.name = true then t.name else if t.kind = 5 ∧ freshB t.name = true then t.name ++ ⟨#[91, 93]⟩ else ⟨#[]⟩
theorem typeText_nil (t : GType) : decide (typeText t = ⟨#[]⟩) = !typedB t := by
  have n1 : ¬ ((⟨#[118, 111, 105, 100]⟩ : ByteArray) = ⟨#[]⟩) := by decide
  have n2 : ¬ ((⟨#[105, 110, 116]⟩ : ByteArray) = ⟨#[]⟩) := by decide
  have n3 : ¬ ((⟨#[105, 110, 116, 91, 93]⟩ : ByteArray) = ⟨#[]⟩) := by decide
  have n4 : ∀ s : ByteArray, ¬ (s ++ ⟨#[91, 93]⟩ = ⟨#[]⟩) := fun s h => by
    have := congrArg ByteArray.size h
    rw [ByteArray.size_append] at this
    have e : (⟨#[91, 93]⟩ : ByteArray).size = 2 := rfl
    have e2 : (⟨#[]⟩ : ByteArray).size = 0 := rfl
    omega
  unfold typeText typedB
  by_cases h1 : t.kind = 1
  · by_cases hn : t.name = ⟨#[]⟩ <;> simp [h1, hn, n1]
  by_cases h2 : t.kind = 2
  · by_cases hn : t.name = ⟨#[]⟩ <;> simp [h2, hn, n2]
  by_cases h4 : t.kind = 4
  · by_cases hn : t.name = ⟨#[]⟩ <;> simp [h4, hn, n3]
  by_cases h3 : t.kind = 3
  · cases hf : freshB t.name
    · simp [h3, hf]
    · simp [h3, hf, fresh_ne hf]
  by_cases h5 : t.kind = 5
  · cases hf : freshB t.name <;> simp [h5, hf, n4]
  simp [h1, h2, h3, h4, h5]
end Go.Proofs.YthahhonmkhafkaaDoor.Am
