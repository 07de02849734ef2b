/- Twins of programs; the classes that always stand. Written by wip/tools/hb.py. -/
import Derived.Test.YthahhonmkhafkaaDoorHierA
namespace Go.Proofs.YthahhonmkhafkaaDoor.Am
set_option linter.unusedSimpArgs false
set_option linter.unusedVariables false
set_option linter.unusedSectionVars false
open Go
attribute [local simp ↓] K_seq K_cond K_block K_region K_skip K_exit K_ret K_wrap KA_nil KA_none KA_some str_eq
attribute [local simp] beq_int bne_int dec_eqN dec_ltN dec_leN stepOp St.rd St.raw St.set St.took get_cons V.down C.down Env.keep binV unV arith isShift strs intOf optInt wrapEnd keptAt andK endOf frzV frz1 frzC frzCs frz1s resOf resOne resAll V.closed V.closed1 C.closed B.closed Ob.closed V.cells partsIn rep chunk datas C.data rowsOf getCells put_nil put_zero put_succ mayWrite C.plain eqV_bool eqV_agg eqV_pnn eqV_pnp eqV_ppn eqV_mnn eqV_mmn eqV_snn eqV_sen eqV_san eqV_sdn rs_len rs_getE rs_app rs_take rs_drop rs_all rs_each row_len str_nilP str_nilE str_nilB vagg row_Int row_Bool row_Str k_Int k_Bool k_Str snoc_Int snoc_Bool snoc_Str row_Type k_Type snoc_Type eta_Type sames_Type row_Field k_Field snoc_Field eta_Field sames_Field row_Instr k_Instr snoc_Instr eta_Instr sames_Instr row_Catch k_Catch snoc_Catch eta_Catch sames_Catch row_Method k_Method snoc_Method row_Class k_Class snoc_Class row_Program k_Program snoc_Program row_Slot k_Slot snoc_Slot eta_Slot sames_Slot row_State k_State snoc_State row_Val k_Val snoc_Val eta_Val sames_Val row_Obj k_Obj snoc_Obj row_Input k_Input snoc_Input row_Frame k_Frame snoc_Frame row_Run k_Run snoc_Run row_Way k_Way snoc_Way eta_Way sames_Way row_Task k_Task snoc_Task eta_Task sames_Task
--let TT delverkeep.TwinTypes
--let TM delverkeep.TwinMethod
--let TC delverkeep.TwinClass
--let TP delverkeep.TwinProgram
--let CS slices.Clone[[]string,string]
--let CF slices.Clone[[]api.Field,api.Field]
--let CT slices.Clone[[]api.Type,api.Type]
--let CI slices.Clone[[]api.Instr,api.Instr]
--let CK slices.Clone[[]api.Catch,api.Catch]
--let HM hier.TwinMethod
--let HT hier.twin
--let HA hier.All
--let AL hier.always
--let BA delverref04.Base
--let RA delverref04.All
--let FI strings.Fields
abbrev sObject : ByteArray := ⟨#[79, 98, 106, 101, 99, 116]⟩
abbrev sError : ByteArray := ⟨#[69, 114, 114, 111, 114]⟩
abbrev sNullError : ByteArray := ⟨#[78, 117, 108, 108, 69, 114, 114, 111, 114]⟩
abbrev sRangeError : ByteArray := ⟨#[82, 97, 110, 103, 101, 69, 114, 114, 111, 114]⟩
abbrev sCastError : ByteArray := ⟨#[67, 97, 115, 116, 69, 114, 114, 111, 114]⟩
abbrev sNumError : ByteArray := ⟨#[78, 117, 109, 69, 114, 114, 111, 114]⟩
abbrev sSizeError : ByteArray := ⟨#[83, 105, 122, 101, 69, 114, 114, 111, 114]⟩
abbrev sDepthError : ByteArray := ⟨#[68, 101, 112, 116, 104, 69, 114, 114, 111, 114]⟩
abbrev cls (n s : ByteArray) : GClass := ⟨n, false, s, [], [], []⟩
def baseL : List GClass := [cls sObject ⟨#[]⟩, cls sError sObject, cls sNullError sError, cls sRangeError sError, cls sCastError sError, cls sNumError sError, cls sSizeError sError, cls sDepthError sError]

theorem always_run : evf fns 200 11 [] [] 0 0 = some (.c (.osl 6 (rows baseL)), []) := by kernel_rfl
theorem fn_always (σ : List Ob) (lo tr : Nat) : Fn fns 11 [] σ lo tr = some (.c (.osl 6 (rows baseL)), σ) := fn_run t11 rfl rfl always_run σ lo tr

theorem fn_cloneS (l : List ByteArray) (hs : l.length ≤ 1000000) (σ : List Ob) (lo tr : Nat) : Fn fns 20 [vsl l] σ lo tr = some (.c (.osl 1 (rows l)), σ) := by
  cases l with
  | nil => exact fn_split t20 rfl rfl (v := .c (.osl 1 [])) (σ1 := []) (σ2 := []) (by simp [KF, params, f20]) (by simp [KF, params, f20, rs_nil]) rfl σ lo tr
  | cons v l =>
    have h5 : l.length + 1 ≤ 70368744177664 := by simp at hs; omega
    have h6 : (l.length + 1) * 16 ≤ 70368744177664 := by simp at hs; omega
    refine fn_gen t20 rfl (σ1 := []) rfl rfl ?_ σ lo tr
    have hr : rows (v :: l) = Rec.row v :: rows l := rfl
    simp [KF, params, f20, hr, h5, h6]

theorem fn_cloneF (l : List GField) (hs : l.length ≤ 1000000) (σ : List Ob) (lo tr : Nat) : Fn fns 21 [vsl l] σ lo tr = some (.c (.osl 4 (rows l)), σ) := by
  cases l with
  | nil => exact fn_split t21 rfl rfl (v := .c (.osl 4 [])) (σ1 := []) (σ2 := []) (by simp [KF, params, f21]) (by simp [KF, params, f21, rs_nil]) rfl σ lo tr
  | cons v l =>
    have h5 : l.length + 1 ≤ 70368744177664 := by simp at hs; omega
    have h6 : (l.length + 1) * 48 ≤ 70368744177664 := by simp at hs; omega
    refine fn_gen t21 rfl (σ1 := []) rfl rfl ?_ σ lo tr
    have hr : rows (v :: l) = Rec.row v :: rows l := rfl
    simp [KF, params, f21, hr, h5, h6]

theorem fn_cloneT (l : List GType) (hs : l.length ≤ 1000000) (σ : List Ob) (lo tr : Nat) : Fn fns 35 [vsl l] σ lo tr = some (.c (.osl 2 (rows l)), σ) := by
  cases l with
  | nil => exact fn_split t35 rfl rfl (v := .c (.osl 2 [])) (σ1 := []) (σ2 := []) (by simp [KF, params, f35]) (by simp [KF, params, f35, rs_nil]) rfl σ lo tr
  | cons v l =>
    have h5 : l.length + 1 ≤ 70368744177664 := by simp at hs; omega
    have h6 : (l.length + 1) * 24 ≤ 70368744177664 := by simp at hs; omega
    refine fn_gen t35 rfl (σ1 := []) rfl rfl ?_ σ lo tr
    have hr : rows (v :: l) = Rec.row v :: rows l := rfl
    simp [KF, params, f35, hr, h5, h6]

theorem fn_cloneI (l : List GInstr) (hs : l.length ≤ 1000000) (σ : List Ob) (lo tr : Nat) : Fn fns 36 [vsl l] σ lo tr = some (.c (.osl 4 (rows l)), σ) := by
  cases l with
  | nil => exact fn_split t36 rfl rfl (v := .c (.osl 4 [])) (σ1 := []) (σ2 := []) (by simp [KF, params, f36]) (by simp [KF, params, f36, rs_nil]) rfl σ lo tr
  | cons v l =>
    have h5 : l.length + 1 ≤ 70368744177664 := by simp at hs; omega
    have h6 : (l.length + 1) * 48 ≤ 70368744177664 := by simp at hs; omega
    refine fn_gen t36 rfl (σ1 := []) rfl rfl ?_ σ lo tr
    have hr : rows (v :: l) = Rec.row v :: rows l := rfl
    simp [KF, params, f36, hr, h5, h6]

theorem fn_cloneK (l : List GCatch) (hs : l.length ≤ 1000000) (σ : List Ob) (lo tr : Nat) : Fn fns 37 [vsl l] σ lo tr = some (.c (.osl 4 (rows l)), σ) := by
  cases l with
  | nil => exact fn_split t37 rfl rfl (v := .c (.osl 4 [])) (σ1 := []) (σ2 := []) (by simp [KF, params, f37]) (by simp [KF, params, f37, rs_nil]) rfl σ lo tr
  | cons v l =>
    have h5 : l.length + 1 ≤ 70368744177664 := by simp at hs; omega
    have h6 : (l.length + 1) * 40 ≤ 70368744177664 := by simp at hs; omega
    refine fn_gen t37 rfl (σ1 := []) rfl rfl ?_ σ lo tr
    have hr : rows (v :: l) = Rec.row v :: rows l := rfl
    simp [KF, params, f37, hr, h5, h6]

theorem fn_hTwinMethod (m : GMethod) (h : OkM m) (σ : List Ob) (lo tr : Nat) : Fn fns 22 [vMethod m] σ lo tr = some (vMethod m, σ) := by
  refine fn_gen t22 rfl (σ1 := []) rfl rfl ?_ σ lo tr
  have h1 := fn_cloneT m.params (by have := h.params; omega)
  have h2 := fn_cloneI m.code (by have := h.code; omega)
  have h3 := fn_cloneK m.catches (by have := h.catches; omega)
  simp [KF, params, f22, h1, h2, h3]

abbrev cQ (x : GClass) : Ob := .cells [.b (.d (.str x.name)), .b (.d (.bool x.iface)), .b (.d (.str x.super)), .osl 1 (rows x.ifaces), .osl 4 (rows x.fields), .b (.d (.sl (rows x.methods)))]
abbrev z6 : Ob := .cells [.b (.d (.str ⟨#[]⟩)), .b (.d (.bool false)), .b (.d (.str ⟨#[]⟩)), .osl 1 [], .osl 4 [], .osl 9 []]
end Go.Proofs.YthahhonmkhafkaaDoor.Am
