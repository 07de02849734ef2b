/- Names, words, types. Written by wip/tools/hd.py. -/
import Derived.Test.YthahhonmkhafkaaDoorHierC
namespace Go.Proofs.YthahhonmkhafkaaDoor.Am
set_option linter.unusedSimpArgs false
set_option linter.unusedVariables false
set_option linter.unusedSectionVars false
open Go
attribute [local simp ↓] K_seq K_cond K_block K_region K_skip K_exit K_ret K_wrap KA_nil KA_none KA_some str_eq
attribute [local simp] beq_int bne_int dec_eqN dec_ltN dec_leN stepOp St.rd St.raw St.set St.took get_cons V.down C.down Env.keep binV unV arith isShift strs intOf optInt wrapEnd keptAt andK endOf frzV frz1 frzC frzCs frz1s resOf resOne resAll V.closed V.closed1 C.closed B.closed Ob.closed V.cells partsIn rep chunk datas C.data rowsOf getCells put_nil put_zero put_succ mayWrite C.plain eqV_bool eqV_agg eqV_pnn eqV_pnp eqV_ppn eqV_mnn eqV_mmn eqV_snn eqV_sen eqV_san eqV_sdn rs_len rs_getE rs_app rs_take rs_drop rs_all rs_each row_len str_nilP str_nilE str_nilB vagg row_Int row_Bool row_Str k_Int k_Bool k_Str snoc_Int snoc_Bool snoc_Str row_Type k_Type snoc_Type eta_Type sames_Type row_Field k_Field snoc_Field eta_Field sames_Field row_Instr k_Instr snoc_Instr eta_Instr sames_Instr row_Catch k_Catch snoc_Catch eta_Catch sames_Catch row_Method k_Method snoc_Method row_Class k_Class snoc_Class row_Program k_Program snoc_Program row_Slot k_Slot snoc_Slot eta_Slot sames_Slot row_State k_State snoc_State row_Val k_Val snoc_Val eta_Val sames_Val row_Obj k_Obj snoc_Obj row_Input k_Input snoc_Input row_Frame k_Frame snoc_Frame row_Run k_Run snoc_Run row_Way k_Way snoc_Way eta_Way sames_Way row_Task k_Task snoc_Task eta_Task sames_Task
--let RL delverref01.letter
--let RD delverref01.digit
--let RN delverref01.Name
--let RK delverref01.Kept
--let RF delverref01.freshName
--let RI delverref01.in
--let RS delverref01.Shape
--let RT delverref01.TypeText
--let LL lex.letter
--let LD lex.digit
--let LN lex.Name
--let IX slices.Index[[]string,string]
--let CN slices.Contains[[]string,string]
--let PK parse.Kept
--let PF parse.Fresh
--let FI strings.Fields
--let SI show.in
--let PJ parse.Jump
--let PU parse.Num
--let PA parse.Names
--let SN show.named
--let ST show.typed

def isB (b : Bool) : Option (V × List Ob) → Bool
  | some (.c (.b (.d (.bool c))), []) => c == b
  | _ => false
theorem isB_eq {b : Bool} {x : Option (V × List Ob)} (h : isB b x = true) : x = some (vbool b, []) := by
  unfold isB at h
  split at h
  · simp at h; subst h; rfl
  · cases h
def letterN (n : Nat) : Bool := (Nat.ble 97 n && Nat.ble n 122) || (Nat.ble 65 n && Nat.ble n 90) || Nat.beq n 95
def digitN (n : Nat) : Bool := Nat.ble 48 n && Nat.ble n 57
def okN (b : UInt8) : Bool := letterN b.toNat || digitN b.toNat
abbrev vbyte (b : UInt8) : V := .c (.b (.d (.int .u8 b.toNat)))

theorem letter_run : (List.range 256).all (fun n => isB (letterN n) (evf fns 20 69 [.c (.b (.d (.int .u8 n)))] [] 0 0)) = true := by kernel_rfl
theorem fn_letter (b : UInt8) (σ : List Ob) (lo tr : Nat) : Fn fns 69 [.c (.b (.d (.int .u8 b.toNat)))] σ lo tr = some (vbool (letterN b.toNat), σ) :=
  fn_run t69 rfl rfl (isB_eq (List.all_eq_true.mp letter_run b.toNat (List.mem_range.mpr (by have := b.toNat_lt; omega)))) σ lo tr

theorem digit_run : (List.range 256).all (fun n => isB (digitN n) (evf fns 20 70 [.c (.b (.d (.int .u8 n)))] [] 0 0)) = true := by kernel_rfl
theorem fn_digit (b : UInt8) (σ : List Ob) (lo tr : Nat) : Fn fns 70 [.c (.b (.d (.int .u8 b.toNat)))] σ lo tr = some (vbool (digitN b.toNat), σ) :=
  fn_run t70 rfl rfl (isB_eq (List.all_eq_true.mp digit_run b.toNat (List.mem_range.mpr (by have := b.toNat_lt; omega)))) σ lo tr

abbrev byL (s : ByteArray) : List UInt8 := s.data.toList
theorem by_len (s : ByteArray) : (byL s).length = s.size := rfl
theorem by_get {s : ByteArray} {i : Nat} (h : i < s.size) : s[i]? = some ((byL s)[i]'(by rw [by_len]; exact h)) := by
  rw [getElem?_pos s i h]; rfl
theorem by_getE {s : ByteArray} {i : Nat} (h : i < s.size) : s[i] = (byL s)[i]'(by rw [by_len]; exact h) := rfl
theorem by_nil (s : ByteArray) : s = ⟨#[]⟩ ↔ s.size = 0 := by
  constructor
  · rintro rfl; rfl
  · intro h
    cases s with
    | mk d =>
      have : d = #[] := Array.eq_empty_of_size_eq_zero h
      subst this; rfl

/-- Is it a name? -/
def nameB (s : ByteArray) : Bool := match byL s with
  | [] => false
  | b :: t => decide (t.length < 20) && (letterN b.toNat && t.all okN)

theorem scan_find {α β : Type} {l : List α} {p : α → Bool} {X : Nat → β} {r : Nat → β} {e : β} (h : ∀ i (hi : i < l.length), X i = if p l[i] then r i else X (i + 1)) (he : X l.length = e) : X 0 = match l.findIdx? p with | some i => r i | none => e := by
  have key : ∀ n i, i + n = l.length → X i = match (l.drop i).findIdx? p with | some j => r (i + j) | none => e := by
    intro n
    induction n with
    | zero =>
      intro i hi
      have : l.drop i = [] := List.drop_eq_nil_iff.mpr (by omega)
      rw [this]
      have : i = l.length := by omega
      subst this; exact he
    | succ n ih =>
      intro i hi
      have hi' : i < l.length := by omega
      rw [h i hi', List.drop_eq_getElem_cons hi', List.findIdx?_cons]
      cases hp : p l[i]
      · simp only [Bool.false_eq_true, if_false]
        rw [ih (i + 1) (by omega)]
        cases hq : (l.drop (i + 1)).findIdx? p with
        | none => simp
        | some j => simp; congr 1; omega
      · simp
  have := key l.length 0 (by omega)
  simpa using this

def idxI {α : Type} (p : α → Bool) (l : List α) : Int := match l.findIdx? p with
  | some i => (i : Int)
  | none => -1
theorem idxI_ge {α : Type} (p : α → Bool) (l : List α) : decide (0 ≤ idxI p l) = l.any p := by
  unfold idxI
  cases h : l.findIdx? p with
  | none =>
    have : l.any p = false := by
      rw [List.findIdx?_eq_none_iff] at h
      rw [List.any_eq_false]
      intro x hx; simp [h x hx]
    rw [this]; rfl
  | some i =>
    have : l.any p = true := by
      rw [List.findIdx?_eq_some_iff_getElem] at h
      obtain ⟨h1, h2, _⟩ := h
      exact List.any_eq_true.mpr ⟨_, List.getElem_mem h1, h2⟩
    rw [this]; simp

theorem fn_name (s : ByteArray) (σ : List Ob) (lo tr : Nat) : Fn fns 55 [vstr s] σ lo tr = some (vbool (nameB s), σ) := by
  refine fn_gen t55 rfl (σ1 := []) rfl rfl ?_ σ lo tr
  cases hb : byL s with
  | nil =>
    have h0 : s = ⟨#[]⟩ := (by_nil s).mpr (by rw [← by_len, hb]; rfl)
    simp [KF, params, f55, h0, nameB, hb]
  | cons b t =>
    have h0 : s.size = t.length + 1 := by rw [← by_len, hb]; rfl
    have hs : s ≠ ⟨#[]⟩ := fun h => by rw [by_nil] at h; omega
    have gE : ∀ h : 0 < s.size, s[0] = b := fun h => by rw [by_getE h]; simp [hb]
    have g0 : s[0]? = some b := by rw [by_get (by omega)]; simp [hb]
    by_cases c1 : t.length < 20
    · have c1' : ¬ (20 < (t.length : Int) + 1) := by omega
      cases c2 : letterN b.toNat
      · simp [KF, params, f55, h0, hs, nameB, hb, c1, c1', g0, gE, fn_letter, c2]
      · have L : ∀ k : AExit → St → Option (V × List Ob), K fns ⟨0,0⟩ f55_l0 ⟨[(0, vstr s), (18, vint ((t.length : Int) + 1)), (19, vint 0)], []⟩ k = if (b :: t).any (fun b => !okN b) then k .ret ⟨[(2, vbool false)], []⟩ else k (.exit 0) ⟨[], []⟩ := fun k =>
          scan_any (l := b :: t) (p := fun b => !okN b) (X := fun i => K fns ⟨0,0⟩ f55_l0 ⟨[(0, vstr s), (18, vint ((t.length : Int) + 1)), (19, vint i)], []⟩ k)
            (fun i hi => by
              have hw := wrap_succ (i := i) (by simp at hi; omega)
              have gi : s[i]? = some (b :: t)[i] := by rw [by_get (by simp at hi; omega)]; simp [hb]
              have gE : ∀ h : i < s.size, s[i] = (b :: t)[i] := fun h => by rw [by_getE h]; simp [hb]
              have hi' : (i : Int) < (t.length : Int) + 1 := by simp at hi; omega
              generalize (b :: t)[i] = x at gi gE ⊢
              show K fns _ f55_l0 _ k = _
              rw [u55_l0]
              cases d1 : letterN x.toNat <;> cases d2 : digitN x.toNat <;> simp [f55_b0, h0, hi', gi, gE, fn_letter, fn_digit, d1, d2, okN, hw])
            (by
              show K fns _ f55_l0 _ k = _
              rw [u55_l0]
              simp [f55_b0, h0])
        have ha : (b :: t).any (fun b => !okN b) = !t.all okN := by simp [List.all_eq_not_any_not, okN, c2]
        simp only [ha] at L
        cases d3 : t.all okN <;> simp [KF, params, f55, h0, hs, nameB, hb, c1, c1', g0, gE, fn_letter, c2, L, d3]
    · have c1' : 20 < (t.length : Int) + 1 := by omega
      simp [KF, params, f55, h0, hs, nameB, hb, c1, c1']
end Go.Proofs.YthahhonmkhafkaaDoor.Am
