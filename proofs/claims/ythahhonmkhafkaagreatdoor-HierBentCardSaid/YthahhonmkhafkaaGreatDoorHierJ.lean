/- Reach; the page's word on a program's order. Written by wip/tools/hj.py. -/
import Derived.Test.YthahhonmkhafkaaGreatDoorHierI
namespace Go.Proofs.YthahhonmkhafkaaGreatDoor.Am
set_option linter.unusedSimpArgs false
set_option linter.unusedVariables false
set_option linter.unusedSectionVars false
open Go
attribute [local simp ↓] K_seq K_cond K_block K_region K_skip K_exit K_ret K_wrap KA_nil KA_none KA_some str_eq
attribute [local simp] beq_int bne_int dec_eqN dec_ltN dec_leN stepOp St.rd St.raw St.set St.took get_cons V.down C.down Env.keep binV unV arith isShift strs intOf optInt wrapEnd keptAt andK endOf frzV frz1 frzC frzCs frz1s resOf resOne resAll V.closed V.closed1 C.closed B.closed Ob.closed V.cells partsIn rep chunk datas C.data rowsOf getCells put_nil put_zero put_succ mayWrite C.plain eqV_bool eqV_agg eqV_pnn eqV_pnp eqV_ppn eqV_mnn eqV_mmn eqV_snn eqV_sen eqV_san eqV_sdn rs_len rs_getE rs_app rs_take rs_drop rs_all rs_each row_len str_nilP str_nilE str_nilB vagg row_Int row_Bool row_Str k_Int k_Bool k_Str snoc_Int snoc_Bool snoc_Str row_Type k_Type snoc_Type eta_Type sames_Type row_Field k_Field snoc_Field eta_Field sames_Field row_Instr k_Instr snoc_Instr eta_Instr sames_Instr row_Catch k_Catch snoc_Catch eta_Catch sames_Catch row_Method k_Method snoc_Method row_Class k_Class snoc_Class row_Program k_Program snoc_Program row_Slot k_Slot snoc_Slot eta_Slot sames_Slot row_State k_State snoc_State row_Val k_Val snoc_Val eta_Val sames_Val row_Obj k_Obj snoc_Obj row_Input k_Input snoc_Input row_Frame k_Frame snoc_Frame row_Run k_Run snoc_Run row_Way k_Way snoc_Way eta_Way sames_Way row_Task k_Task snoc_Task eta_Task sames_Task
--let AT delverref04.At
--let HS delverref04.has
--let SO delverref04.SuperOf
--let AB delverref04.above
--let RE delverref04.reach
--let HI delverref04.Hier
--let RP delverref01.Shown
--let RA delverref04.All

theorem h32_0 (k : AExit → St → Option (V × List Ob)) (l : List GClass) (out next : List ByteArray) (i : Int) (ho : out.length ≤ 2000) (hn : next.length ≤ 2000) :
    K fns ⟨0,0⟩ f32_l0 ⟨[(0, vsl l), (5, .c (.osl 1 (rows out))), (6, vint i), (8, vsl next), (9, vint 0)], []⟩ k = k (.exit 2) ⟨[(0, vsl l), (5, .c (.osl 1 (rows (addNew out next)))), (6, vint i)], []⟩ :=
  scan_fold (l := next) (f := fun o x => if x ∈ o then o else o ++ [x]) (I := fun j c => c.length ≤ 2000 + j) (X := fun j c => K fns ⟨0,0⟩ f32_l0 ⟨[(0, vsl l), (5, .c (.osl 1 (rows c))), (6, vint i), (8, vsl next), (9, vint j)], []⟩ k)
    (e := fun c => k (.exit 2) ⟨[(0, vsl l), (5, .c (.osl 1 (rows c))), (6, vint i)], []⟩)
    (fun j c hj hI => by
      have hw := wrap_succ (i := j) (by omega)
      have hh := fn_has c next[j] (by omega)
      have q1 : c.length + 1 ≤ 70368744177664 := by omega
      have q2 : (c.length + 1) * 16 ≤ 70368744177664 := by omega
      refine ⟨?_, by by_cases hm : next[j] ∈ c <;> simp [hm] <;> omega⟩
      show K fns _ f32_l0 _ k = _
      rw [u32_l0]
      by_cases hm : next[j] ∈ c <;> simp only [hm, decide_true, decide_false] at hh <;> simp [f32_b0, hj, hw, hh, hm, q1, q2])
    (fun c hI => by show K fns _ f32_l0 _ k = _; rw [u32_l0]; simp [f32_b0])
    (by omega)

theorem next_len {l : List GClass} (hc : ∀ c ∈ l, OkC c) (s : ByteArray) : (nextL l s).length ≤ 11 := by
  unfold nextL
  split
  · rename_i c h
    have := (hc c (find_mem h).1).ifaces
    unfold aboveL
    by_cases hs : superL c = ⟨#[]⟩ <;> simp [hs] <;> omega
  · simp

theorem h32_1 (k : AExit → St → Option (V × List Ob)) (l : List GClass) (s : ByteArray) (hl : l.length ≤ 100) (hc : ∀ c ∈ l, OkC c) : ∀ (n i : Nat) (out : List ByteArray), Bf l s out → i ≤ out.length → 1102 ≤ i + n →
    K fns ⟨0,0⟩ f32_l1 ⟨[(0, vsl l), (5, .c (.osl 1 (rows out))), (6, vint i)], []⟩ k = k (.exit 0) ⟨[(5, .c (.osl 1 (rows (bfs l n i out))))], []⟩ := by
  intro n
  induction n with
  | zero =>
    intro i out hb hi hn
    have := hb.len hl hc
    omega
  | succ n ih =>
    intro i out hb hi hn
    have hlen := hb.len hl hc
    have hw := wrap_succ (i := i) (by omega)
    unfold bfs
    by_cases hlt : i < out.length
    · rw [List.getElem?_eq_getElem hlt]
      dsimp only
      have hb2 := hb.add (t := out[i])
      have hpre : out.length ≤ (addNew out (nextL l out[i])).length := (addNew_pre (next := nextL l out[i]) (out := out)).length_le
      rw [← ih (i + 1) _ hb2 (by omega) (by omega)]
      rw [u32_l1]
      have hat := fn_at l out[i] (by omega)
      rcases at_find (l := l) (s := out[i]) with ⟨h1, h2⟩ | ⟨j, hj, h1, h2, _, _⟩
      · have hz : addNew out (nextL l out[i]) = out := by simp [nextL, h1, addNew]
        rw [h2] at hat
        rw [hz]
        simp [f32_b1, hlt, hat, hw]
      · have ha := fn_above l[j] (hc _ (List.getElem_mem hj))
        have hz : nextL l out[i] = aboveL l[j] := by simp [nextL, h2]
        have hnl := next_len hc out[i]
        rw [hz] at hnl ⊢
        rw [h1] at hat
        have L := fun k => h32_0 k l out (aboveL l[j]) i (by omega) (by omega)
        have hj' : ¬ ((j : Int) < 0) := by omega
        simp [f32_b1, hlt, hat, hw, hj, hj', ha, L]
    · have : out[i]? = none := List.getElem?_eq_none_iff.mpr (by omega)
      rw [this]
      dsimp only
      rw [u32_l1]
      have hlt' : ¬ ((i : Int) < out.length) := by omega
      simp [f32_b1, hlt, hlt']

theorem fn_reach (l : List GClass) (s : ByteArray) (hl : l.length ≤ 100) (hc : ∀ c ∈ l, OkC c) (σ : List Ob) (lo tr : Nat) : Fn fns 32 [vsl l, vstr s] σ lo tr = some (.c (.osl 1 (rows (reachL l s))), σ) := by
  refine fn_gen t32 rfl (σ1 := []) rfl rfl ?_ σ lo tr
  have L := fun k => h32_1 k l s hl hc 3000 0 [s] (bf_one l s) (by simp) (by omega)
  have hr : rows [s] = [[D.str s]] := rfl
  rw [hr] at L
  unfold reachL
  generalize bfs l 3000 0 [s] = r at L
  simp only [Int.natCast_zero] at L
  simp [KF, params, f32, L]
theorem reach_len {l : List GClass} (s : ByteArray) (hl : l.length ≤ 100) (hc : ∀ c ∈ l, OkC c) : (reachL l s).length ≤ 1101 := (bfs_bf 3000 0 [s] (bf_one l s)).len hl hc

/-- A class names what there is not. -/
def lostB (l : List GClass) (c : GClass) : Bool := (!decide (superL c = ⟨#[]⟩) && (match l.find? (fun x : GClass => decide (x.name = superL c)) with | some x => x.iface | none => true)) || c.ifaces.any fun s => match l.find? (fun x : GClass => decide (x.name = s)) with | some x => !x.iface | none => true
/-- A class comes of itself. -/
def ringB (l : List GClass) (c : GClass) : Bool := (aboveL c).any fun s => decide (c.name ∈ reachL l s)
def twiceB (l : List GClass) : Bool := l.zipIdx.any fun x => !decide (atI l x.1.name = (x.2 : Int))
def hierE (p : GProgram) : Int := bif progB p then (bif twiceB (allL p) then 6 else bif (allL p).any (lostB (allL p)) then 5 else bif (allL p).any (ringB (allL p)) then 7 else 0) else 4

theorem h10_0 (k : AExit → St → Option (V × List Ob)) (p : GProgram) (l : List GClass) (hl : l.length ≤ 100) : K fns ⟨0,0⟩ f10_l0 ⟨[(3, vsl l), (4, vint 0)], [cP p]⟩ k =
    if twiceB l then k .ret ⟨[(2, vint 6)], [cP p]⟩ else k (.exit 0) ⟨[(3, vsl l)], [cP p]⟩ := by
  have := scan_any (l := l.zipIdx) (p := fun x => !decide (atI l x.1.name = (x.2 : Int))) (X := fun i => K fns ⟨0,0⟩ f10_l0 ⟨[(3, vsl l), (4, vint i)], [cP p]⟩ k) (r := k .ret ⟨[(2, vint 6)], [cP p]⟩) (e := k (.exit 0) ⟨[(3, vsl l)], [cP p]⟩)
    (fun i hi => by
      have hi' : i < l.length := by simpa using hi
      have hw := wrap_succ (i := i) (by omega)
      have hat := fn_at l l[i].name (by omega)
      have hz : l.zipIdx[i] = (l[i], i) := by simp
      rw [hz]
      show K fns _ f10_l0 _ k = _
      rw [u10_l0]
      by_cases hq : atI l l[i].name = (i : Int)
      · rw [hq] at hat
        simp [f10_b0, hi', hw, hat, hq]
      · simp [f10_b0, hi', hw, hat, hq])
    (by show K fns _ f10_l0 _ k = _; rw [u10_l0]; simp [f10_b0])
  exact this

def noIf (l : List GClass) (s : ByteArray) : Bool := match l.find? (fun x : GClass => decide (x.name = s)) with | some x => !x.iface | none => true
def noSup (l : List GClass) (s : ByteArray) : Bool := match l.find? (fun x : GClass => decide (x.name = s)) with | some x => x.iface | none => true
theorem lostB_eq (l : List GClass) (c : GClass) : lostB l c = ((!decide (superL c = ⟨#[]⟩) && noSup l (superL c)) || c.ifaces.any (noIf l)) := rfl

theorem h10_1 (k : AExit → St → Option (V × List Ob)) (p : GProgram) (l : List GClass) (i : Nat) (hi : i < l.length) (hl : l.length ≤ 100) (hc : ∀ c ∈ l, OkC c) : K fns ⟨0,0⟩ f10_l1 ⟨[(3, vsl l), (5, vint i), (7, vint 0)], [cP p]⟩ k =
    if l[i].ifaces.any (noIf l) then k .ret ⟨[(2, vint 5)], [cP p]⟩ else k (.exit 4) ⟨[(3, vsl l), (5, vint i)], [cP p]⟩ :=
  scan_any (l := l[i].ifaces) (p := noIf l) (X := fun j => K fns ⟨0,0⟩ f10_l1 ⟨[(3, vsl l), (5, vint i), (7, vint j)], [cP p]⟩ k)
    (fun j hj => by
      have hb := (hc _ (List.getElem_mem hi)).ifaces
      have hw := wrap_succ (i := j) (by omega)
      have hat := fn_at l l[i].ifaces[j] (by omega)
      show K fns _ f10_l1 _ k = _
      rw [u10_l1]
      rcases at_find (l := l) (s := l[i].ifaces[j]) with ⟨h1, h2⟩ | ⟨m, hm, h1, h2, _, _⟩
      · have hz : noIf l l[i].ifaces[j] = true := by simp [noIf, h1]
        rw [h2] at hat
        simp [f10_b1, hi, hj, hw, hat, hz]
      · have hz : noIf l l[i].ifaces[j] = !l[m].iface := by simp [noIf, h2]
        rw [h1] at hat
        have hm' : ¬ ((m : Int) < 0) := by omega
        cases hq : l[m].iface <;> simp [f10_b1, hi, hj, hw, hat, hz, hm, hm', hq])
    (by show K fns _ f10_l1 _ k = _; rw [u10_l1]; simp [f10_b1, hi])

theorem h10_2 (k : AExit → St → Option (V × List Ob)) (p : GProgram) (l : List GClass) (hl : l.length ≤ 100) (hc : ∀ c ∈ l, OkC c) : K fns ⟨0,0⟩ f10_l2 ⟨[(3, vsl l), (5, vint 0)], [cP p]⟩ k =
    if l.any (lostB l) then k .ret ⟨[(2, vint 5)], [cP p]⟩ else k (.exit 2) ⟨[(3, vsl l)], [cP p]⟩ :=
  scan_any (l := l) (p := lostB l) (X := fun i => K fns ⟨0,0⟩ f10_l2 ⟨[(3, vsl l), (5, vint i)], [cP p]⟩ k)
    (fun i hi => by
      have hw := wrap_succ (i := i) (by omega)
      have hs := fn_superOf l[i]
      have L := fun k => h10_1 k p l i hi hl hc
      have hat := fn_at l (superL l[i]) (by omega)
      rw [lostB_eq]
      show K fns _ f10_l2 _ k = _
      rw [u10_l2]
      generalize superL l[i] = su at hs hat ⊢
      cases hif : l[i].ifaces.any (noIf l) <;> simp only [hif, if_true, if_false, Bool.false_eq_true] at L
      · by_cases hn : su = ⟨#[]⟩
        · simp [f10_b2, hi, hw, hs, hn, L]
        · rcases at_find (l := l) (s := su) with ⟨h1, h2⟩ | ⟨m, hm, h1, h2, _, _⟩
          · have hz : noSup l su = true := by simp [noSup, h1]
            rw [h2] at hat
            simp [f10_b2, hi, hw, hs, hn, hat, hz]
          · have hz : noSup l su = l[m].iface := by simp [noSup, h2]
            rw [h1] at hat
            have hm' : ¬ ((m : Int) < 0) := by omega
            cases hq : l[m].iface <;> simp [f10_b2, hi, hw, hs, hn, hat, hz, hm, hm', hq, L]
      · by_cases hn : su = ⟨#[]⟩
        · simp [f10_b2, hi, hw, hs, hn, L]
        · rcases at_find (l := l) (s := su) with ⟨h1, h2⟩ | ⟨m, hm, h1, h2, _, _⟩
          · have hz : noSup l su = true := by simp [noSup, h1]
            rw [h2] at hat
            simp [f10_b2, hi, hw, hs, hn, hat, hz]
          · have hz : noSup l su = l[m].iface := by simp [noSup, h2]
            rw [h1] at hat
            have hm' : ¬ ((m : Int) < 0) := by omega
            cases hq : l[m].iface <;> simp [f10_b2, hi, hw, hs, hn, hat, hz, hm, hm', hq, L])
    (by show K fns _ f10_l2 _ k = _; rw [u10_l2]; simp [f10_b2])

theorem h10_3 (k : AExit → St → Option (V × List Ob)) (p : GProgram) (l : List GClass) (i : Nat) (hi : i < l.length) (hl : l.length ≤ 100) (hc : ∀ c ∈ l, OkC c) : K fns ⟨0,0⟩ f10_l3 ⟨[(3, vsl l), (9, vint i), (10, vsl (aboveL l[i])), (11, vint 0)], [cP p]⟩ k =
    if ringB l l[i] then k .ret ⟨[(2, vint 7)], [cP p]⟩ else k (.exit 8) ⟨[(3, vsl l), (9, vint i)], [cP p]⟩ :=
  scan_any (l := aboveL l[i]) (p := fun s => decide (l[i].name ∈ reachL l s)) (X := fun j => K fns ⟨0,0⟩ f10_l3 ⟨[(3, vsl l), (9, vint i), (10, vsl (aboveL l[i])), (11, vint j)], [cP p]⟩ k)
    (fun j hj => by
      have hb := (hc _ (List.getElem_mem hi)).ifaces
      have hal : (aboveL l[i]).length ≤ 11 := by
        unfold aboveL
        by_cases hs : superL l[i] = ⟨#[]⟩ <;> simp [hs] <;> omega
      have hw := wrap_succ (i := j) (by omega)
      have hr := fn_reach l (aboveL l[i])[j] hl hc
      have hrl := reach_len (l := l) (aboveL l[i])[j] hl hc
      have hh := fn_has (reachL l (aboveL l[i])[j]) l[i].name (by omega)
      generalize aboveL l[i] = ab at *
      generalize reachL l ab[j] = rr at *
      show K fns _ f10_l3 _ k = _
      rw [u10_l3]
      by_cases hq : l[i].name ∈ rr <;> simp only [hq, decide_true, decide_false] at hh <;> simp [f10_b3, hi, hj, hw, hr, hh, hq])
    (by show K fns _ f10_l3 _ k = _; rw [u10_l3]; simp [f10_b3, hi])

theorem h10_4 (k : AExit → St → Option (V × List Ob)) (p : GProgram) (l : List GClass) (hl : l.length ≤ 100) (hc : ∀ c ∈ l, OkC c) : K fns ⟨0,0⟩ f10_l4 ⟨[(3, vsl l), (9, vint 0)], [cP p]⟩ k =
    if l.any (ringB l) then k .ret ⟨[(2, vint 7)], [cP p]⟩ else k (.exit 6) ⟨[], [cP p]⟩ :=
  scan_any (l := l) (p := ringB l) (X := fun i => K fns ⟨0,0⟩ f10_l4 ⟨[(3, vsl l), (9, vint i)], [cP p]⟩ k)
    (fun i hi => by
      have hw := wrap_succ (i := i) (by omega)
      have ha := fn_above l[i] (hc _ (List.getElem_mem hi))
      have L := fun k => h10_3 k p l i hi hl hc
      generalize aboveL l[i] = ab at *
      show K fns _ f10_l4 _ k = _
      rw [u10_l4]
      cases hq : ringB l l[i] <;> simp only [hq, if_true, if_false, Bool.false_eq_true] at L <;> simp [f10_b4, hi, hw, ha, L])
    (by show K fns _ f10_l4 _ k = _; rw [u10_l4]; simp [f10_b4])

theorem base_ok : ∀ c ∈ baseL, OkC c := by
  intro c hc
  have : bigC c = false := by
    have : baseL.all (fun c => !bigC c) = true := by decide
    simpa using List.all_eq_true.mp this c hc
  exact okC this
theorem allL_ok {p : GProgram} (h : OkP p) : ∀ c ∈ allL p, OkC c := by
  intro c hc
  rcases List.mem_append.mp hc with a | a
  · exact base_ok c a
  · exact h.cs c a

theorem fn_hier (p : GProgram) (h : OkP p) (σ : List Ob) (lo tr : Nat) : Fn fns 10 [vProgram p] σ lo tr = some (vint (hierE p), σ) := by
  refine fn_gen t10 rfl (σ1 := []) rfl rfl ?_ σ lo tr
  unfold hierE
  have hs := fn_shown p h
  have ha := fn_refAll p h
  have hl := all_len h
  have hc := allL_ok h
  generalize allL p = l at *
  have L0 := fun k => h10_0 k p l hl
  have L2 := fun k => h10_2 k p l hl hc
  have L4 := fun k => h10_4 k p l hl hc
  cases c0 : progB p
  · simp [KF, params, f10, hs, c0]
  cases c1 : twiceB l <;> simp only [c1, if_true, if_false, Bool.false_eq_true] at L0
  case true => simp [KF, params, f10, hs, c0, ha, L0]
  cases c2 : l.any (lostB l) <;> simp only [c2, if_true, if_false, Bool.false_eq_true] at L2
  case true => simp [KF, params, f10, hs, c0, ha, L0, L2]
  cases c3 : l.any (ringB l) <;> simp only [c3, if_true, if_false, Bool.false_eq_true] at L4 <;> simp [KF, params, f10, hs, c0, ha, L0, L2, L4]
end Go.Proofs.YthahhonmkhafkaaGreatDoor.Am
