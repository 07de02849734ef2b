/- Plain typed data, and how they are written for the machine. The structures are printed by wip/tools/types.py. -/
import Derived.Test.YtjkhkblabhaimaaAmLim
import Derived.Laws.Strings
namespace Go.Proofs.Ytjkhkblabhaimaa.Am
set_option linter.unusedSimpArgs false
set_option linter.unusedVariables false
open Go

class Rec (α : Type) where
  k : Nat
  row : α → List D
  len : ∀ a, (row a).length = k

def rows {α : Type} [Rec α] (l : List α) : List (List D) := l.map Rec.row
instance : Rec Int := ⟨1, fun n => [.int .i64 n], fun _ => rfl⟩
instance : Rec Bool := ⟨1, fun n => [.bool n], fun _ => rfl⟩
instance : Rec ByteArray := ⟨1, fun n => [.str n], fun _ => rfl⟩
theorem row_Int (x : Int) : Rec.row x = [.int .i64 x] := rfl
theorem row_Bool (x : Bool) : Rec.row x = [.bool x] := rfl
theorem row_Str (x : ByteArray) : Rec.row x = [.str x] := rfl
theorem k_Int : Rec.k Int = 1 := rfl
theorem k_Bool : Rec.k Bool = 1 := rfl
theorem k_Str : Rec.k ByteArray = 1 := rfl

theorem snoc_Int (acc : List Int) (n : Int) : rows acc ++ [[.int .i64 n]] = rows (acc ++ [n]) := by simp [rows, row_Int]
theorem snoc_Bool (acc : List Bool) (n : Bool) : rows acc ++ [[.bool n]] = rows (acc ++ [n]) := by simp [rows, row_Bool]
theorem snoc_Str (acc : List ByteArray) (n : ByteArray) : rows acc ++ [[.str n]] = rows (acc ++ [n]) := by simp [rows, row_Str]

abbrev vsl {α : Type} [Rec α] (l : List α) : V := .c (.b (.d (.sl (rows l))))
abbrev vint (n : Int) : V := .c (.b (.d (.int .i64 n)))
abbrev vbool (b : Bool) : V := .c (.b (.d (.bool b)))
abbrev vstr (b : ByteArray) : V := .c (.b (.d (.str b)))
def vagg {α : Type} [Rec α] (x : α) : V := .agg ((Rec.row x).map fun d => .b (.d d))
/-- The cells of a slice in an object. -/
def cellsOf {α : Type} [Rec α] (l : List α) : List C := (rows l).flatten.map fun d => .b (.d d)

section
variable {α : Type} [Rec α]
theorem rs_len (l : List α) : (rows l).length = l.length := by simp [rows]
theorem rs_nil : rows ([] : List α) = [] := rfl
theorem rs_cons (x : α) (l : List α) : rows (x :: l) = Rec.row x :: rows l := rfl
theorem rs_app (a b : List α) : rows a ++ rows b = rows (a ++ b) := by simp [rows]
theorem rs_get? (l : List α) (i : Nat) : (rows l)[i]? = (l[i]?).map Rec.row := by simp [rows]
theorem rs_get {l : List α} {i : Nat} (h : i < l.length) : (rows l)[i]? = some (Rec.row l[i]) := by simp [rows, h]
theorem rs_getE {l : List α} {i : Nat} (h : i < (rows l).length) : (rows l)[i] = Rec.row (l[i]'(by rw [rs_len] at h; exact h)) := by simp [rows]
theorem rs_take (l : List α) (n : Nat) : (rows l).take n = rows (l.take n) := by simp [rows, List.map_take]
theorem rs_drop (l : List α) (n : Nat) : (rows l).drop n = rows (l.drop n) := by simp [rows, List.map_drop]
theorem rs_all {n : Nat} (h : Rec.k α = n) (l : List α) : (rows l).all (fun r => r.length == n) = true := by
  subst h; simp [rows, Rec.len]
theorem rs_each {n : Nat} (h : Rec.k α = n) (l : List α) : (∀ x, x ∈ rows l → x.length = n) = True := by
  subst h
  refine eq_true fun x hx => ?_
  obtain ⟨a, _, rfl⟩ := List.mem_map.mp hx
  exact Rec.len a
theorem row_len {n : Nat} (h : Rec.k α = n) (a : α) : (Rec.row a).length = n := by rw [Rec.len, h]
end

-- strings
theorem str_eq (a b : ByteArray) : (a.toList == b.toList) = decide (a = b) := by
  by_cases h : a = b
  · subst h; simp
  · have : a.toList ≠ b.toList := by
      intro h'
      apply h
      rw [ByteArray.toList_eq, ByteArray.toList_eq] at h'
      cases a; cases b; simp_all [Array.toList_inj]
    simp [h, this]
theorem beq_dec {α : Type} [DecidableEq α] (a b : α) : (a == b) = decide (a = b) := by
  by_cases h : a = b <;> simp [h]

theorem beq_int (a b : Int) : (a == b) = decide (a = b) := beq_dec a b
theorem bne_int (a b : Int) : (a != b) = !decide (a = b) := by rw [bne, beq_dec]
theorem bne_dec {α : Type} [DecidableEq α] (a b : α) : (a != b) = !decide (a = b) := by
  rw [bne, beq_dec]

theorem dec_eqN (a b : Nat) : decide ((a : Int) = (b : Int)) = decide (a = b) := by by_cases h : a = b <;> simp [h]; omega
theorem dec_ltN (a b : Nat) : decide ((a : Int) < (b : Int)) = decide (a < b) := by by_cases h : a < b <;> simp [h]
theorem dec_leN (a b : Nat) : decide ((a : Int) ≤ (b : Int)) = decide (a ≤ b) := by by_cases h : a ≤ b <;> simp [h]

-- a value put among cells that are written out
theorem put_nil (zs : List C) : putAt zs 0 [] = some zs := by simp [putAt]
theorem put_zero (z c : C) (zs cs : List C) : putAt (z :: zs) 0 (c :: cs) = (putAt zs 0 cs).map (c :: ·) := by
  by_cases h : cs.length ≤ zs.length <;> simp [putAt, h]
theorem put_succ (z c : C) (zs cs : List C) (n : Nat) : putAt (z :: zs) (n + 1) (c :: cs) = (putAt zs n (c :: cs)).map (z :: ·) := by
  have e : n + 1 + (cs.length + 1) = n + (cs.length + 1) + 1 := by omega
  by_cases h : n + (cs.length + 1) ≤ zs.length
  · simp [putAt, h, e]
  · simp [putAt, h, e]

-- '=='
theorem eqV_bool (a b : Bool) (ks : List Nat) : eqV ks 0 (.c (.b (.d (.bool a)))) (.c (.b (.d (.bool b)))) = some (a == b) := rfl
theorem eqV_agg (a b : List C) (ks : List Nat) : eqV ks 2 (.agg a) (.agg b) = sames ks a b := rfl
theorem eqV_pnn (ks : List Nat) : eqV ks 1 (.c (.b .nilp)) (.c (.b .nilp)) = some true := rfl
theorem eqV_pnp (ks : List Nat) (l o : Nat) : eqV ks 1 (.c (.b .nilp)) (.c (.b (.ptr l o))) = some false := rfl
theorem eqV_ppn (ks : List Nat) (l o : Nat) : eqV ks 1 (.c (.b (.ptr l o))) (.c (.b .nilp)) = some false := rfl
theorem eqV_mnn (ks : List Nat) : eqV ks 3 (.c (.b .nilm)) (.c (.b .nilm)) = some true := rfl
theorem eqV_mmn (ks : List Nat) (l : Nat) : eqV ks 3 (.c (.b (.map l))) (.c (.b .nilm)) = some false := rfl
theorem eqV_snn (ks : List Nat) : eqV ks 4 (.c (.b .nils)) (.c (.b .nils)) = some true := rfl
theorem eqV_sen (ks : List Nat) : eqV ks 4 (.c (.b .emp)) (.c (.b .nils)) = some false := rfl
theorem eqV_san (ks : List Nat) (k l o n : Nat) : eqV ks 4 (.c (.b (.arr k l o n))) (.c (.b .nils)) = some false := rfl
theorem eqV_sdn (ks : List Nat) (r : List D) (rs : List (List D)) : eqV ks 4 (.c (.b (.d (.sl (r :: rs))))) (.c (.b .nils)) = some false := rfl
theorem eqV_sl {α : Type} [Rec α] {l : List α} (h : l ≠ []) (ks : List Nat) : eqV ks 4 (vsl l) (.c (.b .nils)) = some false := by
  cases l with
  | nil => exact absurd rfl h
  | cons => rfl

-- the program's types
structure GType where
  kind : Int
  name : ByteArray
  deriving DecidableEq, Inhabited
instance : Rec GType := ⟨2, fun x => [.int .i64 x.kind, .str x.name], fun _ => rfl⟩
abbrev vType (x : GType) : V := .agg [.b (.d (.int .i64 x.kind)), .b (.d (.str x.name))]
theorem row_Type (x : GType) : Rec.row x = [.int .i64 x.kind, .str x.name] := rfl
theorem k_Type : Rec.k GType = 2 := rfl
theorem snoc_Type (acc : List GType) (kind : Int) (name : ByteArray) : rows acc ++ [[.int .i64 kind, .str name]] = rows (acc ++ [(⟨kind, name⟩ : GType)]) := by simp [rows, row_Type]
theorem eta_Type (x : GType) : (⟨x.kind, x.name⟩ : GType) = x := rfl
theorem sames_Type (kind kind' : Int) (name name' : ByteArray) : sames [1, 2] [.b (.d (.int .i64 kind)), .b (.d (.str name))] [.b (.d (.int .i64 kind')), .b (.d (.str name'))] = some (decide ((⟨kind, name⟩ : GType) = (⟨kind', name'⟩ : GType))) := by
  simp [sames, D.same, str_eq, beq_dec, Bool.decide_and, Bool.and_assoc]
structure GField where
  name : ByteArray
  type_ : GType
  static_ : Bool
  deriving DecidableEq, Inhabited
instance : Rec GField := ⟨4, fun x => [.str x.name, .int .i64 x.type_.kind, .str x.type_.name, .bool x.static_], fun _ => rfl⟩
abbrev vField (x : GField) : V := .agg [.b (.d (.str x.name)), .b (.d (.int .i64 x.type_.kind)), .b (.d (.str x.type_.name)), .b (.d (.bool x.static_))]
theorem row_Field (x : GField) : Rec.row x = [.str x.name, .int .i64 x.type_.kind, .str x.type_.name, .bool x.static_] := rfl
theorem k_Field : Rec.k GField = 4 := rfl
theorem snoc_Field (acc : List GField) (name : ByteArray) (type__kind : Int) (type__name : ByteArray) (static_ : Bool) : rows acc ++ [[.str name, .int .i64 type__kind, .str type__name, .bool static_]] = rows (acc ++ [(⟨name, (⟨type__kind, type__name⟩ : GType), static_⟩ : GField)]) := by simp [rows, row_Field]
theorem eta_Field (x : GField) : (⟨x.name, x.type_, x.static_⟩ : GField) = x := rfl
theorem sames_Field (name name' : ByteArray) (type__kind type__kind' : Int) (type__name type__name' : ByteArray) (static_ static_' : Bool) : sames [2, 1, 2, 0] [.b (.d (.str name)), .b (.d (.int .i64 type__kind)), .b (.d (.str type__name)), .b (.d (.bool static_))] [.b (.d (.str name')), .b (.d (.int .i64 type__kind')), .b (.d (.str type__name')), .b (.d (.bool static_'))] = some (decide ((⟨name, (⟨type__kind, type__name⟩ : GType), static_⟩ : GField) = (⟨name', (⟨type__kind', type__name'⟩ : GType), static_'⟩ : GField))) := by
  simp [sames, D.same, str_eq, beq_dec, Bool.decide_and, Bool.and_assoc]
structure GInstr where
  op : Int
  n : Int
  a : ByteArray
  b : ByteArray
  deriving DecidableEq, Inhabited
instance : Rec GInstr := ⟨4, fun x => [.int .i64 x.op, .int .i64 x.n, .str x.a, .str x.b], fun _ => rfl⟩
abbrev vInstr (x : GInstr) : V := .agg [.b (.d (.int .i64 x.op)), .b (.d (.int .i64 x.n)), .b (.d (.str x.a)), .b (.d (.str x.b))]
theorem row_Instr (x : GInstr) : Rec.row x = [.int .i64 x.op, .int .i64 x.n, .str x.a, .str x.b] := rfl
theorem k_Instr : Rec.k GInstr = 4 := rfl
theorem snoc_Instr (acc : List GInstr) (op : Int) (n : Int) (a : ByteArray) (b : ByteArray) : rows acc ++ [[.int .i64 op, .int .i64 n, .str a, .str b]] = rows (acc ++ [(⟨op, n, a, b⟩ : GInstr)]) := by simp [rows, row_Instr]
theorem eta_Instr (x : GInstr) : (⟨x.op, x.n, x.a, x.b⟩ : GInstr) = x := rfl
theorem sames_Instr (op op' : Int) (n n' : Int) (a a' : ByteArray) (b b' : ByteArray) : sames [1, 1, 2, 2] [.b (.d (.int .i64 op)), .b (.d (.int .i64 n)), .b (.d (.str a)), .b (.d (.str b))] [.b (.d (.int .i64 op')), .b (.d (.int .i64 n')), .b (.d (.str a')), .b (.d (.str b'))] = some (decide ((⟨op, n, a, b⟩ : GInstr) = (⟨op', n', a', b'⟩ : GInstr))) := by
  simp [sames, D.same, str_eq, beq_dec, Bool.decide_and, Bool.and_assoc]
structure GCatch where
  name : ByteArray
  from_ : Int
  to : Int
  at_ : Int
  deriving DecidableEq, Inhabited
instance : Rec GCatch := ⟨4, fun x => [.str x.name, .int .i64 x.from_, .int .i64 x.to, .int .i64 x.at_], fun _ => rfl⟩
abbrev vCatch (x : GCatch) : V := .agg [.b (.d (.str x.name)), .b (.d (.int .i64 x.from_)), .b (.d (.int .i64 x.to)), .b (.d (.int .i64 x.at_))]
theorem row_Catch (x : GCatch) : Rec.row x = [.str x.name, .int .i64 x.from_, .int .i64 x.to, .int .i64 x.at_] := rfl
theorem k_Catch : Rec.k GCatch = 4 := rfl
theorem snoc_Catch (acc : List GCatch) (name : ByteArray) (from_ : Int) (to : Int) (at_ : Int) : rows acc ++ [[.str name, .int .i64 from_, .int .i64 to, .int .i64 at_]] = rows (acc ++ [(⟨name, from_, to, at_⟩ : GCatch)]) := by simp [rows, row_Catch]
theorem eta_Catch (x : GCatch) : (⟨x.name, x.from_, x.to, x.at_⟩ : GCatch) = x := rfl
theorem sames_Catch (name name' : ByteArray) (from_ from_' : Int) (to to' : Int) (at_ at_' : Int) : sames [2, 1, 1, 1] [.b (.d (.str name)), .b (.d (.int .i64 from_)), .b (.d (.int .i64 to)), .b (.d (.int .i64 at_))] [.b (.d (.str name')), .b (.d (.int .i64 from_')), .b (.d (.int .i64 to')), .b (.d (.int .i64 at_'))] = some (decide ((⟨name, from_, to, at_⟩ : GCatch) = (⟨name', from_', to', at_'⟩ : GCatch))) := by
  simp [sames, D.same, str_eq, beq_dec, Bool.decide_and, Bool.and_assoc]
structure GMethod where
  name : ByteArray
  static_ : Bool
  abstract_ : Bool
  params : List GType
  ret : GType
  locals : Int
  code : List GInstr
  catches : List GCatch
  deriving DecidableEq, Inhabited
instance : Rec GMethod := ⟨9, fun x => [.str x.name, .bool x.static_, .bool x.abstract_, .sl (rows x.params), .int .i64 x.ret.kind, .str x.ret.name, .int .i64 x.locals, .sl (rows x.code), .sl (rows x.catches)], fun _ => rfl⟩
abbrev vMethod (x : GMethod) : V := .agg [.b (.d (.str x.name)), .b (.d (.bool x.static_)), .b (.d (.bool x.abstract_)), .b (.d (.sl (rows x.params))), .b (.d (.int .i64 x.ret.kind)), .b (.d (.str x.ret.name)), .b (.d (.int .i64 x.locals)), .b (.d (.sl (rows x.code))), .b (.d (.sl (rows x.catches)))]
theorem row_Method (x : GMethod) : Rec.row x = [.str x.name, .bool x.static_, .bool x.abstract_, .sl (rows x.params), .int .i64 x.ret.kind, .str x.ret.name, .int .i64 x.locals, .sl (rows x.code), .sl (rows x.catches)] := rfl
theorem k_Method : Rec.k GMethod = 9 := rfl
theorem snoc_Method (acc : List GMethod) (name : ByteArray) (static_ : Bool) (abstract_ : Bool) (params : List GType) (ret_kind : Int) (ret_name : ByteArray) (locals : Int) (code : List GInstr) (catches : List GCatch) : rows acc ++ [[.str name, .bool static_, .bool abstract_, .sl (rows params), .int .i64 ret_kind, .str ret_name, .int .i64 locals, .sl (rows code), .sl (rows catches)]] = rows (acc ++ [(⟨name, static_, abstract_, params, (⟨ret_kind, ret_name⟩ : GType), locals, code, catches⟩ : GMethod)]) := by simp [rows, row_Method]
structure GClass where
  name : ByteArray
  iface : Bool
  super : ByteArray
  ifaces : List ByteArray
  fields : List GField
  methods : List GMethod
  deriving DecidableEq, Inhabited
instance : Rec GClass := ⟨6, fun x => [.str x.name, .bool x.iface, .str x.super, .sl (rows x.ifaces), .sl (rows x.fields), .sl (rows x.methods)], fun _ => rfl⟩
abbrev vClass (x : GClass) : V := .agg [.b (.d (.str x.name)), .b (.d (.bool x.iface)), .b (.d (.str x.super)), .b (.d (.sl (rows x.ifaces))), .b (.d (.sl (rows x.fields))), .b (.d (.sl (rows x.methods)))]
theorem row_Class (x : GClass) : Rec.row x = [.str x.name, .bool x.iface, .str x.super, .sl (rows x.ifaces), .sl (rows x.fields), .sl (rows x.methods)] := rfl
theorem k_Class : Rec.k GClass = 6 := rfl
theorem snoc_Class (acc : List GClass) (name : ByteArray) (iface : Bool) (super : ByteArray) (ifaces : List ByteArray) (fields : List GField) (methods : List GMethod) : rows acc ++ [[.str name, .bool iface, .str super, .sl (rows ifaces), .sl (rows fields), .sl (rows methods)]] = rows (acc ++ [(⟨name, iface, super, ifaces, fields, methods⟩ : GClass)]) := by simp [rows, row_Class]
structure GProgram where
  classes : List GClass
  deriving DecidableEq, Inhabited
instance : Rec GProgram := ⟨1, fun x => [.sl (rows x.classes)], fun _ => rfl⟩
abbrev vProgram (x : GProgram) : V := .agg [.b (.d (.sl (rows x.classes)))]
theorem row_Program (x : GProgram) : Rec.row x = [.sl (rows x.classes)] := rfl
theorem k_Program : Rec.k GProgram = 1 := rfl
theorem snoc_Program (acc : List GProgram) (classes : List GClass) : rows acc ++ [[.sl (rows classes)]] = rows (acc ++ [(⟨classes⟩ : GProgram)]) := by simp [rows, row_Program]
structure GSlot where
  owner : ByteArray
  name : ByteArray
  type_ : GType
  deriving DecidableEq, Inhabited
instance : Rec GSlot := ⟨4, fun x => [.str x.owner, .str x.name, .int .i64 x.type_.kind, .str x.type_.name], fun _ => rfl⟩
abbrev vSlot (x : GSlot) : V := .agg [.b (.d (.str x.owner)), .b (.d (.str x.name)), .b (.d (.int .i64 x.type_.kind)), .b (.d (.str x.type_.name))]
theorem row_Slot (x : GSlot) : Rec.row x = [.str x.owner, .str x.name, .int .i64 x.type_.kind, .str x.type_.name] := rfl
theorem k_Slot : Rec.k GSlot = 4 := rfl
theorem snoc_Slot (acc : List GSlot) (owner : ByteArray) (name : ByteArray) (type__kind : Int) (type__name : ByteArray) : rows acc ++ [[.str owner, .str name, .int .i64 type__kind, .str type__name]] = rows (acc ++ [(⟨owner, name, (⟨type__kind, type__name⟩ : GType)⟩ : GSlot)]) := by simp [rows, row_Slot]
theorem eta_Slot (x : GSlot) : (⟨x.owner, x.name, x.type_⟩ : GSlot) = x := rfl
theorem sames_Slot (owner owner' : ByteArray) (name name' : ByteArray) (type__kind type__kind' : Int) (type__name type__name' : ByteArray) : sames [2, 2, 1, 2] [.b (.d (.str owner)), .b (.d (.str name)), .b (.d (.int .i64 type__kind)), .b (.d (.str type__name))] [.b (.d (.str owner')), .b (.d (.str name')), .b (.d (.int .i64 type__kind')), .b (.d (.str type__name'))] = some (decide ((⟨owner, name, (⟨type__kind, type__name⟩ : GType)⟩ : GSlot) = (⟨owner', name', (⟨type__kind', type__name'⟩ : GType)⟩ : GSlot))) := by
  simp [sames, D.same, str_eq, beq_dec, Bool.decide_and, Bool.and_assoc]
structure GState where
  seen : Bool
  locals : List GType
  stack : List GType
  deriving DecidableEq, Inhabited
instance : Rec GState := ⟨3, fun x => [.bool x.seen, .sl (rows x.locals), .sl (rows x.stack)], fun _ => rfl⟩
abbrev vState (x : GState) : V := .agg [.b (.d (.bool x.seen)), .b (.d (.sl (rows x.locals))), .b (.d (.sl (rows x.stack)))]
theorem row_State (x : GState) : Rec.row x = [.bool x.seen, .sl (rows x.locals), .sl (rows x.stack)] := rfl
theorem k_State : Rec.k GState = 3 := rfl
theorem snoc_State (acc : List GState) (seen : Bool) (locals : List GType) (stack : List GType) : rows acc ++ [[.bool seen, .sl (rows locals), .sl (rows stack)]] = rows (acc ++ [(⟨seen, locals, stack⟩ : GState)]) := by simp [rows, row_State]
structure GVal where
  isRef : Bool
  n : Int
  deriving DecidableEq, Inhabited
instance : Rec GVal := ⟨2, fun x => [.bool x.isRef, .int .i64 x.n], fun _ => rfl⟩
abbrev vVal (x : GVal) : V := .agg [.b (.d (.bool x.isRef)), .b (.d (.int .i64 x.n))]
theorem row_Val (x : GVal) : Rec.row x = [.bool x.isRef, .int .i64 x.n] := rfl
theorem k_Val : Rec.k GVal = 2 := rfl
theorem snoc_Val (acc : List GVal) (isRef : Bool) (n : Int) : rows acc ++ [[.bool isRef, .int .i64 n]] = rows (acc ++ [(⟨isRef, n⟩ : GVal)]) := by simp [rows, row_Val]
theorem eta_Val (x : GVal) : (⟨x.isRef, x.n⟩ : GVal) = x := rfl
theorem sames_Val (isRef isRef' : Bool) (n n' : Int) : sames [0, 1] [.b (.d (.bool isRef)), .b (.d (.int .i64 n))] [.b (.d (.bool isRef')), .b (.d (.int .i64 n'))] = some (decide ((⟨isRef, n⟩ : GVal) = (⟨isRef', n'⟩ : GVal))) := by
  simp [sames, D.same, str_eq, beq_dec, Bool.decide_and, Bool.and_assoc]
structure GObj where
  type_ : GType
  slots : List GVal
  deriving DecidableEq, Inhabited
instance : Rec GObj := ⟨3, fun x => [.int .i64 x.type_.kind, .str x.type_.name, .sl (rows x.slots)], fun _ => rfl⟩
abbrev vObj (x : GObj) : V := .agg [.b (.d (.int .i64 x.type_.kind)), .b (.d (.str x.type_.name)), .b (.d (.sl (rows x.slots)))]
theorem row_Obj (x : GObj) : Rec.row x = [.int .i64 x.type_.kind, .str x.type_.name, .sl (rows x.slots)] := rfl
theorem k_Obj : Rec.k GObj = 3 := rfl
theorem snoc_Obj (acc : List GObj) (type__kind : Int) (type__name : ByteArray) (slots : List GVal) : rows acc ++ [[.int .i64 type__kind, .str type__name, .sl (rows slots)]] = rows (acc ++ [(⟨(⟨type__kind, type__name⟩ : GType), slots⟩ : GObj)]) := by simp [rows, row_Obj]
structure GInput where
  args : List GVal
  heap : List GObj
  deriving DecidableEq, Inhabited
instance : Rec GInput := ⟨2, fun x => [.sl (rows x.args), .sl (rows x.heap)], fun _ => rfl⟩
abbrev vInput (x : GInput) : V := .agg [.b (.d (.sl (rows x.args))), .b (.d (.sl (rows x.heap)))]
theorem row_Input (x : GInput) : Rec.row x = [.sl (rows x.args), .sl (rows x.heap)] := rfl
theorem k_Input : Rec.k GInput = 2 := rfl
theorem snoc_Input (acc : List GInput) (args : List GVal) (heap : List GObj) : rows acc ++ [[.sl (rows args), .sl (rows heap)]] = rows (acc ++ [(⟨args, heap⟩ : GInput)]) := by simp [rows, row_Input]
structure GFrame where
  class_ : ByteArray
  method : ByteArray
  pc : Int
  locals : List GVal
  stack : List GVal
  deriving DecidableEq, Inhabited
instance : Rec GFrame := ⟨5, fun x => [.str x.class_, .str x.method, .int .i64 x.pc, .sl (rows x.locals), .sl (rows x.stack)], fun _ => rfl⟩
abbrev vFrame (x : GFrame) : V := .agg [.b (.d (.str x.class_)), .b (.d (.str x.method)), .b (.d (.int .i64 x.pc)), .b (.d (.sl (rows x.locals))), .b (.d (.sl (rows x.stack)))]
theorem row_Frame (x : GFrame) : Rec.row x = [.str x.class_, .str x.method, .int .i64 x.pc, .sl (rows x.locals), .sl (rows x.stack)] := rfl
theorem k_Frame : Rec.k GFrame = 5 := rfl
theorem snoc_Frame (acc : List GFrame) (class_ : ByteArray) (method : ByteArray) (pc : Int) (locals : List GVal) (stack : List GVal) : rows acc ++ [[.str class_, .str method, .int .i64 pc, .sl (rows locals), .sl (rows stack)]] = rows (acc ++ [(⟨class_, method, pc, locals, stack⟩ : GFrame)]) := by simp [rows, row_Frame]
structure GRun where
  heap : List GObj
  statics : List GVal
  frames : List GFrame
  how : Int
  value : GVal
  steps : Int
  deriving DecidableEq, Inhabited
instance : Rec GRun := ⟨7, fun x => [.sl (rows x.heap), .sl (rows x.statics), .sl (rows x.frames), .int .i64 x.how, .bool x.value.isRef, .int .i64 x.value.n, .int .i64 x.steps], fun _ => rfl⟩
abbrev vRun (x : GRun) : V := .agg [.b (.d (.sl (rows x.heap))), .b (.d (.sl (rows x.statics))), .b (.d (.sl (rows x.frames))), .b (.d (.int .i64 x.how)), .b (.d (.bool x.value.isRef)), .b (.d (.int .i64 x.value.n)), .b (.d (.int .i64 x.steps))]
theorem row_Run (x : GRun) : Rec.row x = [.sl (rows x.heap), .sl (rows x.statics), .sl (rows x.frames), .int .i64 x.how, .bool x.value.isRef, .int .i64 x.value.n, .int .i64 x.steps] := rfl
theorem k_Run : Rec.k GRun = 7 := rfl
theorem snoc_Run (acc : List GRun) (heap : List GObj) (statics : List GVal) (frames : List GFrame) (how : Int) (value_isRef : Bool) (value_n : Int) (steps : Int) : rows acc ++ [[.sl (rows heap), .sl (rows statics), .sl (rows frames), .int .i64 how, .bool value_isRef, .int .i64 value_n, .int .i64 steps]] = rows (acc ++ [(⟨heap, statics, frames, how, (⟨value_isRef, value_n⟩ : GVal), steps⟩ : GRun)]) := by simp [rows, row_Run]
structure GWay where
  kind : Int
  n : Int
  type_ : GType
  deriving DecidableEq, Inhabited
instance : Rec GWay := ⟨4, fun x => [.int .i64 x.kind, .int .i64 x.n, .int .i64 x.type_.kind, .str x.type_.name], fun _ => rfl⟩
abbrev vWay (x : GWay) : V := .agg [.b (.d (.int .i64 x.kind)), .b (.d (.int .i64 x.n)), .b (.d (.int .i64 x.type_.kind)), .b (.d (.str x.type_.name))]
theorem row_Way (x : GWay) : Rec.row x = [.int .i64 x.kind, .int .i64 x.n, .int .i64 x.type_.kind, .str x.type_.name] := rfl
theorem k_Way : Rec.k GWay = 4 := rfl
theorem snoc_Way (acc : List GWay) (kind : Int) (n : Int) (type__kind : Int) (type__name : ByteArray) : rows acc ++ [[.int .i64 kind, .int .i64 n, .int .i64 type__kind, .str type__name]] = rows (acc ++ [(⟨kind, n, (⟨type__kind, type__name⟩ : GType)⟩ : GWay)]) := by simp [rows, row_Way]
theorem eta_Way (x : GWay) : (⟨x.kind, x.n, x.type_⟩ : GWay) = x := rfl
theorem sames_Way (kind kind' : Int) (n n' : Int) (type__kind type__kind' : Int) (type__name type__name' : ByteArray) : sames [1, 1, 1, 2] [.b (.d (.int .i64 kind)), .b (.d (.int .i64 n)), .b (.d (.int .i64 type__kind)), .b (.d (.str type__name))] [.b (.d (.int .i64 kind')), .b (.d (.int .i64 n')), .b (.d (.int .i64 type__kind')), .b (.d (.str type__name'))] = some (decide ((⟨kind, n, (⟨type__kind, type__name⟩ : GType)⟩ : GWay) = (⟨kind', n', (⟨type__kind', type__name'⟩ : GType)⟩ : GWay))) := by
  simp [sames, D.same, str_eq, beq_dec, Bool.decide_and, Bool.and_assoc]
structure GTask where
  class_ : ByteArray
  method : ByteArray
  look : ByteArray
  objects : Int
  len : Int
  steps : Int
  nodes : Int
  fuel : Int
  deriving DecidableEq, Inhabited
instance : Rec GTask := ⟨8, fun x => [.str x.class_, .str x.method, .str x.look, .int .i64 x.objects, .int .i64 x.len, .int .i64 x.steps, .int .i64 x.nodes, .int .i64 x.fuel], fun _ => rfl⟩
abbrev vTask (x : GTask) : V := .agg [.b (.d (.str x.class_)), .b (.d (.str x.method)), .b (.d (.str x.look)), .b (.d (.int .i64 x.objects)), .b (.d (.int .i64 x.len)), .b (.d (.int .i64 x.steps)), .b (.d (.int .i64 x.nodes)), .b (.d (.int .i64 x.fuel))]
theorem row_Task (x : GTask) : Rec.row x = [.str x.class_, .str x.method, .str x.look, .int .i64 x.objects, .int .i64 x.len, .int .i64 x.steps, .int .i64 x.nodes, .int .i64 x.fuel] := rfl
theorem k_Task : Rec.k GTask = 8 := rfl
theorem snoc_Task (acc : List GTask) (class_ : ByteArray) (method : ByteArray) (look : ByteArray) (objects : Int) (len : Int) (steps : Int) (nodes : Int) (fuel : Int) : rows acc ++ [[.str class_, .str method, .str look, .int .i64 objects, .int .i64 len, .int .i64 steps, .int .i64 nodes, .int .i64 fuel]] = rows (acc ++ [(⟨class_, method, look, objects, len, steps, nodes, fuel⟩ : GTask)]) := by simp [rows, row_Task]
theorem eta_Task (x : GTask) : (⟨x.class_, x.method, x.look, x.objects, x.len, x.steps, x.nodes, x.fuel⟩ : GTask) = x := rfl
theorem sames_Task (class_ class_' : ByteArray) (method method' : ByteArray) (look look' : ByteArray) (objects objects' : Int) (len len' : Int) (steps steps' : Int) (nodes nodes' : Int) (fuel fuel' : Int) : sames [2, 2, 2, 1, 1, 1, 1, 1] [.b (.d (.str class_)), .b (.d (.str method)), .b (.d (.str look)), .b (.d (.int .i64 objects)), .b (.d (.int .i64 len)), .b (.d (.int .i64 steps)), .b (.d (.int .i64 nodes)), .b (.d (.int .i64 fuel))] [.b (.d (.str class_')), .b (.d (.str method')), .b (.d (.str look')), .b (.d (.int .i64 objects')), .b (.d (.int .i64 len')), .b (.d (.int .i64 steps')), .b (.d (.int .i64 nodes')), .b (.d (.int .i64 fuel'))] = some (decide ((⟨class_, method, look, objects, len, steps, nodes, fuel⟩ : GTask) = (⟨class_', method', look', objects', len', steps', nodes', fuel'⟩ : GTask))) := by
  simp [sames, D.same, str_eq, beq_dec, Bool.decide_and, Bool.and_assoc]
end Go.Proofs.Ytjkhkblabhaimaa.Am
