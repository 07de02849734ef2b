/- The law HierBent. -/
import Derived.Test.YthahhonmkhafkaaGreatDoorHierY
import Derived.Test.YthahhonmkhafkaaGreatDoorHierR
namespace Go.Proofs.YthahhonmkhafkaaGreatDoor.Am
set_option linter.unusedSimpArgs false
set_option linter.unusedVariables false
set_option linter.unusedSectionVars false
open Go
attribute [local simp ↓] K_seq K_cond K_block K_region K_skip K_exit K_ret K_wrap KA_nil KA_none KA_some str_eq
attribute [local simp] beq_int bne_int dec_eqN dec_ltN dec_leN stepOp St.rd St.raw St.set St.took get_cons V.down C.down Env.keep binV unV arith isShift strs intOf optInt wrapEnd keptAt andK endOf frzV frz1 frzC frzCs frz1s resOf resOne resAll V.closed V.closed1 C.closed B.closed Ob.closed V.cells partsIn rep chunk datas C.data rowsOf getCells put_nil put_zero put_succ mayWrite C.plain eqV_bool eqV_agg eqV_pnn eqV_pnp eqV_ppn eqV_mnn eqV_mmn eqV_snn eqV_sen eqV_san eqV_sdn rs_len rs_getE rs_app rs_take rs_drop rs_all rs_each row_len str_nilP str_nilE str_nilB vagg row_Int row_Bool row_Str k_Int k_Bool k_Str snoc_Int snoc_Bool snoc_Str row_Type k_Type snoc_Type eta_Type sames_Type row_Field k_Field snoc_Field eta_Field sames_Field row_Instr k_Instr snoc_Instr eta_Instr sames_Instr row_Catch k_Catch snoc_Catch eta_Catch sames_Catch row_Method k_Method snoc_Method row_Class k_Class snoc_Class row_Program k_Program snoc_Program row_Slot k_Slot snoc_Slot eta_Slot sames_Slot row_State k_State snoc_State row_Val k_Val snoc_Val eta_Val sames_Val row_Obj k_Obj snoc_Obj row_Input k_Input snoc_Input row_Frame k_Frame snoc_Frame row_Run k_Run snoc_Run row_Way k_Way snoc_Way eta_Way sames_Way row_Task k_Task snoc_Task eta_Task sames_Task
--let TP delverkeep.TwinProgram
--let HB delverlaw04.HierBent
--let HC hier.Check
--let HK hier.Kinds
--let HU hier.Under
--let HF hier.Find
--let AT delverref04.At

/-- The slice that grows in objects: its name, its objects. -/
def grA (n : Nat) : Nat → C
  | 0 => .b .nils
  | i + 1 => .b (.arr 6 (n + i) 0 (i + 1))
def grS (l : List GClass) : Nat → List Ob
  | 0 => []
  | i + 1 => List.replicate i Ob.dead ++ [.cells (cellsOf (l.take (i + 1)))]

theorem take_cells {l : List GClass} {i : Nat} (hi : i < l.length) : cellsOf (l.take (i + 1)) = cellsOf (l.take i) ++ (Rec.row l[i]).map box1 := by
  rw [List.take_succ_eq_append_getElem hi, ← cl_app, cl_cons, cl_nil, List.append_nil]
theorem set_end (σ : List Ob) (j : Nat) (x y : Ob) : (σ ++ (List.replicate j Ob.dead ++ [x])).set (σ.length + j) y = σ ++ (List.replicate j Ob.dead ++ [y]) := by
  rw [List.set_append_right _ _ (by omega), Nat.add_sub_cancel_left, List.set_append_right _ _ (by simp)]
  simp
theorem get_end (σ : List Ob) (j : Nat) (x : Ob) : (σ ++ (List.replicate j Ob.dead ++ [x]))[σ.length + j]? = some x := by
  rw [List.getElem?_append_right (by omega), Nat.add_sub_cancel_left, List.getElem?_append_right (by simp)]
  simp

theorem fn_twinProgram2 (p : GProgram) (h : OkP p) (lo tr : Nat) (hlo : lo ≤ 1) (htr : tr ≤ 1) (o : Ob) : Fn fns 8209 [vProgram p] [o] lo tr = some (.agg [grA 4 p.classes.length], [o, cP p, .cells [grA 4 p.classes.length], .cells [grA 4 p.classes.length]] ++ grS p.classes p.classes.length) := by
  rw [fn_eq t17v2 rfl rfl]
  have d := h.len
  have L : ∀ k : AExit → St → Option (V × List Ob), K fns ⟨lo, tr⟩ f17v2_l0 ⟨[(1, vptr 1), (2, vptr 2), (3, vptr 3), (4, vint 0)], [o, cP p, .cells [.b .nils], .cells [.b .nils]]⟩ k = k (.exit 0) ⟨[(2, vptr 2), (3, vptr 3)], [o, cP p, .cells [.b .nils], .cells [grA 4 p.classes.length]] ++ grS p.classes p.classes.length⟩ := fun k => by
    have := scan_on (n := p.classes.length) (X := fun i => K fns ⟨lo, tr⟩ f17v2_l0 ⟨[(1, vptr 1), (2, vptr 2), (3, vptr 3), (4, vint i)], [o, cP p, .cells [.b .nils], .cells [grA 4 i]] ++ grS p.classes i⟩ k)
      (fun i hi => by
        have hw := wrap_succ (i := i) (by omega)
        have hf := fn_twinClass (p.classes[i]) (h.cs _ (List.getElem_mem hi))
        have hC := take_cells hi
        have l1 : lo ≤ 3 := by omega
        have l2 : tr ≤ 3 := by omega
        show K fns _ f17v2_l0 _ k = _
        rw [u17v2_l0]
        rcases Nat.eq_zero_or_pos i with rfl | hpos
        · simp only [grA, grS]
          rw [hC]
          have hw1 : IntKind.i64.wrap 1 = 1 := rfl
          simp [f17v2_b0, hi, hw1, hf, elems, cl_nil, l1, l2, box1]
        · obtain ⟨j, hij⟩ : ∃ j, j + 1 = i := ⟨i - 1, by omega⟩
          have hlen : (cellsOf (p.classes.take i)).length = i * 6 := by rw [cl_len k_Class, List.length_take, Nat.min_eq_left (by omega)]
          have q1 : (i + 1) * 112 ≤ 70368744177664 := by omega
          have q2 : i + 1 ≤ 70368744177664 := by omega
          have hlo' : lo ≤ 4 + j := by omega
          have htk : (cellsOf (p.classes.take i)).take (i * 6) = cellsOf (p.classes.take i) := List.take_of_length_le (by omega)
          have eA : grA 4 i = .b (.arr 6 (4 + j) 0 i) := by subst hij; rfl
          have eS : grS p.classes i = List.replicate j Ob.dead ++ [.cells (cellsOf (p.classes.take i))] := by subst hij; rfl
          have eA' : grA 4 (i + 1) = .b (.arr 6 (4 + i) 0 (i + 1)) := rfl
          have eS' : grS p.classes (i + 1) = List.replicate i Ob.dead ++ [.cells (cellsOf (p.classes.take (i + 1)))] := rfl
          have hrep : List.replicate i Ob.dead = List.replicate j Ob.dead ++ [Ob.dead] := by rw [← hij, List.replicate_succ']
          have hdn : (cellsOf (p.classes.take i)).map C.down = cellsOf (p.classes.take i) := cl_down _
          rw [eA, eS, eA', eS', hC, hrep]
          generalize cellsOf (p.classes.take i) = Z at *
          have ge := get_end [o, cP p, .cells [.b .nils], .cells [.b (.arr 6 (4 + j) 0 i)]] j (.cells Z)
          have se := set_end [o, cP p, .cells [.b .nils], .cells [.b (.arr 6 (4 + j) 0 i)]] j (.cells Z) .dead
          simp only [List.length_cons, List.length_nil, Nat.zero_add, Nat.reduceAdd, List.cons_append, List.nil_append] at ge se
          have e4 : j + 1 + 4 = 4 + i := by omega
          have e5 : j + 4 = 4 + j := by omega
          have e6 : j + 1 + 1 + 1 + 1 = 4 + j := by omega
          have e7 : i + 1 + 1 + 1 + 1 = 4 + i := by omega
          simp [f17v2_b0, hi, hw, hf, elems, ge, se, hlen, q1, q2, hlo', htk, hdn, hij, l1, l2, box1, e4, e5, e6, e7])
    refine Eq.trans (by simp [grA, grS]) (this.trans ?_)
    show K fns _ f17v2_l0 _ k = _
    rw [u17v2_l0]
    simp [f17v2_b0]
  have l1 : lo ≤ 2 := by omega
  have l2 : tr ≤ 2 := by omega
  cases hn : p.classes.length with
  | zero => rw [hn] at L; simp [KF, params, f17v2, L, grA, l1, l2]
  | succ n => rw [hn] at L; simp [KF, params, f17v2, L, grA, l1, l2]

theorem datasF_congr {h : C → Option D} : ∀ {cs cs' : List C}, cs.map h = cs'.map h → datasF h cs = datasF h cs'
  | [], [], _ => rfl
  | [], _ :: _, e => by simp at e
  | _ :: _, [], e => by simp at e
  | c :: cs, c' :: cs', e => by
    simp only [List.map_cons, List.cons.injEq] at e
    simp only [datasF, e.1, datasF_congr e.2]
theorem chunkF_congr {h : C → Option D} {k : Nat} : ∀ {n : Nat} {cs cs' : List C}, cs.map h = cs'.map h → chunkF h k n cs = chunkF h k n cs'
  | 0, _, _, _ => rfl
  | n + 1, cs, cs', e => by
    have e1 : (cs.take k).map h = (cs'.take k).map h := by rw [List.map_take, List.map_take, e]
    have e2 : (cs.drop k).map h = (cs'.drop k).map h := by rw [List.map_drop, List.map_drop, e]
    simp only [chunkF, datasF_congr e1, chunkF_congr e2]

/-- Cells that are those of a list once they are frozen. -/
structure Fz (Z : List C) (l : List GClass) : Prop where
  ch : ∀ S σ, chunkF (frzD S σ 3) 6 l.length Z = some (rows l)
  ar : ∀ σ, Z.flatMap (arrsOf σ 3) = []
theorem fz_cl (l : List GClass) : Fz (cellsOf l) l := ⟨fun S σ => chunkF_cl k_Class l, fun σ => arrs_cl l⟩
theorem put_eq {Z Y : List C} {off : Nat} {x : C} (h : putAt Z off [x] = some Y) : Y = Z.take off ++ [x] ++ Z.drop (off + 1) ∧ off + 1 ≤ Z.length := by
  unfold putAt at h
  split at h
  · cases h; exact ⟨rfl, by simpa using by assumption⟩
  · cases h
/-- A slice with its right to grow in a place of a row. -/
theorem fz_osl {Z Y : List C} {off k : Nat} {r : List (List D)} {l : List GClass} (h : putAt Z off [.b (.d (.sl r))] = some Y) (hf : Fz Y l) : ∃ Y', putAt Z off [.osl k r] = some Y' ∧ Fz Y' l := by
  obtain ⟨h1, h2⟩ := put_eq h
  refine ⟨Z.take off ++ [.osl k r] ++ Z.drop (off + 1), by simp [putAt, h2], fun S σ => ?_, fun σ => ?_⟩
  · rw [← hf.ch S σ, h1]
    exact chunkF_congr (by simp [frzD])
  · have := hf.ar σ
    rw [h1] at this
    simpa [List.flatMap_append, arrsOf] using this

theorem arrs4 (σ : List Ob) (k l off len : Nat) : arrsOf σ 4 (.b (.arr k l off len)) = l :: (match getCells σ l with | some cs => cs.flatMap (arrsOf σ 3) | none => []) := rfl
theorem arrs4d (σ : List Ob) (x : D) : arrsOf σ 4 (.b (.d x)) = [] := rfl
theorem frz4 (S : Nat → Bool) (σ : List Ob) (k l off len : Nat) : frzD S σ 4 (.b (.arr k l off len)) = if S l = true then match getCells σ l with
        | some cs => match chunkF (frzD S σ 3) k len (cs.drop off) with
          | some rows => some (.sl rows)
          | none => none
        | none => none
      else none := rfl
theorem frz4d (S : Nat → Bool) (σ : List Ob) (x : D) : frzD S σ 4 (.b (.d x)) = some x := rfl

theorem get_e {α : Type} {l : List α} {i : Nat} {x : α} (h : l[i]? = some x) (h' : i < l.length) : l[i]'h' = x := (List.getElem?_eq_some_iff.mp h).2

/-- A bent program lies in the objects. -/
structure BS (p : GProgram) (σ : List Ob) (M M1 : Nat) (Z : List C) (n : Nat) : Prop where
  o : σ[0]? = some (cP p)
  q : σ[M1]? = some (.cells [.b (.arr 6 M 0 n)])
  z : σ[M]? = some (.cells Z)
  m0 : 0 < M
  m1 : 0 < M1
  ne : M ≠ M1

theorem BS.app {p : GProgram} {σ : List Ob} {M M1 : Nat} {Z : List C} {n : Nat} (h : BS p σ M M1 Z n) (x : Ob) : BS p (σ ++ [x]) M M1 Z n :=
  ⟨get_app h.o _, get_app h.q _, get_app h.z _, h.m0, h.m1, h.ne⟩
theorem BS.put {p : GProgram} {σ : List Ob} {M M1 : Nat} {Z : List C} {n : Nat} (h : BS p σ M M1 Z n) (Y : List C) : BS p (σ.set M (.cells Y)) M M1 Y n := by
  have := get_lt h.z
  have := h.m0
  have := h.ne
  exact ⟨by rw [List.getElem?_set_ne (by omega)]; exact h.o, by rw [List.getElem?_set_ne (by omega)]; exact h.q, List.getElem?_set_self (by assumption), h.m0, h.m1, h.ne⟩

section
variable {p : GProgram} {σ : List Ob} {M M1 n : Nat} {Z : List C}

theorem bent_fin (hp : OkP p) (hP : hierP p = 0) {q : GProgram} (hq : OkP q) (hQ : hierP q ≠ 0) (h : BS p σ M M1 Z q.classes.length) (hf : Fz Z q.classes) :
    ∃ σ', ∀ k : AExit → St → Option (V × List Ob), K fns ⟨0, 0⟩ f8_p25 ⟨[(3, vptr 0), (7, vptr M1), (9, vint (hierP q))], σ⟩ k = k .ret ⟨[(6, vbool true)], σ'⟩ := by
  have g1 := fn_check p hp
  rw [hP] at g1
  have f1 : ∀ σ lo tr, Fn fns 18 [.agg [.b (.d (.sl (rows q.classes)))]] σ lo tr = some (vint (hierP q), σ) := fn_check q hq
  have f2 : ∀ σ lo tr, Fn fns 15 [.agg [.b (.d (.sl (rows q.classes)))], vstr sObject] σ lo tr = some (.c (.osl 1 (rows ([] : List ByteArray))), σ) := fun σ lo tr => by
    have := fn_kinds q hq sObject σ lo tr; rwa [kinds_none hQ] at this
  have f3 : ∀ σ lo tr, Fn fns 12 [.agg [.b (.d (.sl (rows q.classes)))], vstr sError, vstr sObject] σ lo tr = some (vbool false, σ) := fun σ lo tr => by
    have := fn_under q hq sError sObject σ lo tr; rwa [under_none hQ] at this
  have o0 := (List.getElem?_eq_some_iff.mp h.o).2
  have q0 := (List.getElem?_eq_some_iff.mp h.q).2
  have z0 := (List.getElem?_eq_some_iff.mp h.z).2
  have l0 := get_lt h.o
  have l1 := get_lt h.q
  have l2 := get_lt h.z
  have ne := h.ne
  have nb : Nat.beq M M1 = false := by rw [Bool.eq_false_iff]; intro e; exact ne (Nat.eq_of_beq_eq_true e)
  obtain ⟨c1, c2⟩ := hf
  obtain ⟨σ2, hσ2⟩ : ∃ σ2, σ2 = (σ.set M .dead).set M1 (.cells [.b (.d (.sl (rows q.classes)))]) := ⟨_, rfl⟩
  have l3 : M1 < (σ.set M .dead).length := by simpa using l1
  have s1 : σ2[M1]? = some (.cells [.b (.d (.sl (rows q.classes)))]) := by rw [hσ2, List.getElem?_set_self l3]
  have s0 := (List.getElem?_eq_some_iff.mp s1).2
  have l4 := get_lt s1
  have s2 : σ2.set M1 (.cells [.b (.d (.sl (rows q.classes)))]) = σ2 := by rw [hσ2, List.set_set]
  refine ⟨σ2, fun k => ?_⟩
  simp [f8_p25, g1, h.o, h.q, h.z, o0, q0, z0, l0, l1, l2, nb, arrs4, arrs4d, frz4, frz4d, c1, c2, killAll, datasF, ← hσ2, s1, s0, s2, l4, f1, f2, f3, fn_wakes]

abbrev env7 (b : Int) (M M1 k : Nat) : Env := [(2, vint b), (3, vptr 0), (7, vptr M1), (8, .c (.b (.ptr M (k * 6)))), (9, vint 5)]
/-- The law's end, from the bend on. -/
abbrev Good (σ : List Ob) (b : Int) (M M1 k : Nat) : Prop := ∃ σ', ∀ c : AExit → St → Option (V × List Ob), K fns ⟨0, 0⟩ f8_p7 ⟨env7 b M M1 k, σ⟩ c = c .ret ⟨[(6, vbool true)], σ'⟩

/-- What is read of the class that is bent. -/
structure Rd (p : GProgram) (σ : List Ob) (M M1 k : Nat) (Z : List C) : Prop where
  o0 : ∀ h : 0 < σ.length, σ[0]'h = cP p
  q0 : ∀ h : M1 < σ.length, σ[M1]'h = .cells [.b (.arr 6 M 0 p.classes.length)]
  s0 : ∀ h : M < σ.length, σ[M]'h = .cells Z
  z0 : Z[k * 6]? = (p.classes[k]?).map fun c => .b (.d (.str c.name))
  z1 : Z[k * 6 + 1]? = (p.classes[k]?).map fun c => .b (.d (.bool c.iface))
theorem rd_of (h : BS p σ M M1 (cellsOf p.classes) p.classes.length) {k : Nat} (hk : k < p.classes.length) : Rd p σ M M1 k (cellsOf p.classes) := by
  have hZ : ∀ j, j < 6 → (cellsOf p.classes)[k * 6 + j]? = ((Rec.row p.classes[k])[j]?).map box1 := fun j hj => cl_get k_Class hk hj
  exact ⟨fun _ => (List.getElem?_eq_some_iff.mp h.o).2, fun _ => (List.getElem?_eq_some_iff.mp h.q).2, fun _ => (List.getElem?_eq_some_iff.mp h.z).2, by rw [List.getElem?_eq_getElem hk]; exact hZ 0 (by omega), by rw [List.getElem?_eq_getElem hk]; exact hZ 1 (by omega)⟩

theorem sw_put (hp : OkP p) (hP : hierP p = 0) (h : BS p σ M M1 (cellsOf p.classes) p.classes.length) {k : Nat} (hk : k < p.classes.length) {c' : GClass} (hok : OkC c') {j : Nat} {d : D} {x : C} (hj : j + 1 ≤ 6) (hr : Rec.row c' = (Rec.row p.classes[k]).take j ++ [d] ++ (Rec.row p.classes[k]).drop (j + 1)) (hx : x = .b (.d d) ∨ ∃ k r, d = .sl r ∧ x = .osl k r) (hQ : hierP (setP p k c') ≠ 0) :
    ∃ Y, putAt (cellsOf p.classes) (k * 6 + j) [x] = some Y ∧ ∃ σ', ∀ c : AExit → St → Option (V × List Ob), K fns ⟨0, 0⟩ f8_p25 ⟨[(3, vptr 0), (7, vptr M1), (9, vint (hierP (setP p k c')))], σ.set M (.cells Y)⟩ c = c .ret ⟨[(6, vbool true)], σ'⟩ := by
  have hput : putAt (cellsOf p.classes) (k * 6 + j) [.b (.d d)] = some (cellsOf (p.classes.set k c')) := cl_put (ds := [d]) k_Class hk hj hr
  have hlen : (setP p k c').classes.length = p.classes.length := by simp [setP]
  have hf := fz_cl (p.classes.set k c')
  rcases hx with rfl | ⟨m, r, rfl, rfl⟩
  · refine ⟨_, hput, bent_fin (M := M) hp hP (set_ok hp hok) hQ ?_ hf⟩
    rw [hlen]; exact h.put _
  · obtain ⟨Y, y1, y2⟩ := fz_osl (k := m) hput hf
    refine ⟨Y, y1, bent_fin (M := M) hp hP (set_ok hp hok) hQ ?_ y2⟩
    rw [hlen]; exact h.put _

theorem sw0 (hp : OkP p) (hP : hierP p = 0) (h : BS p σ M M1 (cellsOf p.classes) p.classes.length) {k : Nat} (hk : k < p.classes.length) {b : Int} (hlen : p.classes.length < 10) (hb : (IntKind.u64.wrap b).tmod 5 = 0) : Good σ b M M1 k := by
  have R := rd_of h hk
  obtain ⟨c, hc⟩ : ∃ c, p.classes[k] = c := ⟨_, rfl⟩
  have e0 := R.z0
  have e1 := R.z1
  rw [List.getElem?_eq_getElem hk, hc] at e0 e1
  simp only [Option.map_some] at e0 e1
  have e0' := @get_e _ _ _ _ e0
  have e1' := @get_e _ _ _ _ e1
  have l0 := get_lt h.o
  have l1 := get_lt h.q
  have l2 := get_lt h.z
  have ne := h.ne
  have ne' : ¬ M1 = M := fun e => ne e.symm
  have hq := add_twice hp hP hk hlen
  rw [hc] at hq
  have hok : OkP ⟨p.classes ++ [cls c.name ⟨#[]⟩]⟩ := ⟨by simp; omega, fun d hd => by
    rcases List.mem_append.mp hd with x | x
    · exact hp.cs d x
    · simp at x; subst x
      exact { name := by rw [← hc]; exact (hp.cs _ (List.getElem_mem hk)).name, super := (by decide : (⟨#[]⟩ : ByteArray).size ≤ 60), ifaces := by simp, fields := by simp, methods := by simp, fs := by simp, is := by simp, ms := by simp }⟩
  have hZl : (cellsOf p.classes).length = p.classes.length * 6 := cl_len k_Class _
  have htk : (cellsOf p.classes).take (p.classes.length * 6) = cellsOf p.classes := List.take_of_length_le (by omega)
  have hdn : (cellsOf p.classes).map C.down = cellsOf p.classes := cl_down _
  have q1 : p.classes.length + 1 ≤ 70368744177664 := by omega
  have q2 : (p.classes.length + 1) * 112 ≤ 70368744177664 := by omega
  have hcl : (p.classes ++ [cls c.name ⟨#[]⟩]).length = p.classes.length + 1 := by simp
  obtain ⟨Y, hY⟩ : ∃ Y, Y = cellsOf p.classes ++ [.b (.d (.str c.name)), .b (.d (.bool false)), .b (.d (.str ⟨#[]⟩)), .b (.d (.sl [])), .b (.d (.sl [])), .b (.d (.sl []))] := ⟨_, rfl⟩
  have hf : Fz Y (p.classes ++ [cls c.name ⟨#[]⟩]) := by
    have := fz_cl (p.classes ++ [cls c.name ⟨#[]⟩])
    rw [← cl_app] at this
    rw [hY]; exact this
  obtain ⟨σ2, hσ2⟩ : ∃ σ2, σ2 = (σ.set M .dead).set M1 (.cells [.b (.arr 6 σ.length 0 (p.classes.length + 1))]) ++ [Ob.cells Y] := ⟨_, rfl⟩
  have b2 : BS p σ2 σ.length M1 Y (p.classes ++ [cls c.name ⟨#[]⟩]).length := by
    have m0 := h.m0
    have m1 := h.m1
    rw [hσ2, hcl]
    refine ⟨?_, ?_, ?_, by omega, m1, by omega⟩
    · rw [List.getElem?_append_left (by simpa using l0), List.getElem?_set_ne (by omega), List.getElem?_set_ne (by omega)]; exact h.o
    · rw [List.getElem?_append_left (by simpa using l1), List.getElem?_set_self (by simpa using l1)]
    · rw [List.getElem?_append_right (by simp)]; simp
  obtain ⟨σ', hF⟩ := bent_fin hp hP hok (by rw [hq]; decide) b2 hf
  rw [hq] at hF
  refine ⟨σ', fun c' => ?_⟩
  have g1 : ∀ x, (σ.set M .dead ++ [x])[M1]? = some (.cells [.b (.arr 6 M 0 p.classes.length)]) := fun x => by
    rw [List.getElem?_append_left (by simpa using l1), List.getElem?_set_ne ne]; exact h.q
  have g1' := fun x => @get_e _ _ _ _ (g1 x)
  have hs := hσ2.symm
  generalize cellsOf p.classes = Z at *
  simp [f8_p7, f8_p11, hb, h.o, h.q, h.z, R.o0, R.q0, R.s0, e0, e0', e1, e1', l0, l1, l2, ne, ne', elems, htk, hdn, q1, q2, hZl, g1, g1', ← hY, hs, hF]

theorem sw1 (hp : OkP p) (hP : hierP p = 0) (h : BS p σ M M1 (cellsOf p.classes) p.classes.length) {k : Nat} (hk : k < p.classes.length) {b : Int} (hb : (IntKind.u64.wrap b).tmod 5 = 1) : Good σ b M M1 k := by
  have R := rd_of h hk
  obtain ⟨c, hc⟩ : ∃ c, p.classes[k] = c := ⟨_, rfl⟩
  have e0 := R.z0
  have e1 := R.z1
  rw [List.getElem?_eq_getElem hk, hc] at e0 e1
  simp only [Option.map_some] at e0 e1
  have e0' := @get_e _ _ _ _ e0
  have e1' := @get_e _ _ _ _ e1
  have l0 := get_lt h.o
  have l1 := get_lt h.q
  have l2 := get_lt h.z
  have ne := h.ne
  have ne' : ¬ M1 = M := fun e => ne e.symm
  have hfd := fn_find p hp sNone
  have hat := fn_at p.classes sNone (by have := hp.len; omega)
  obtain ⟨fo, hfo⟩ : ∃ fo, fo = foundP p sNone := ⟨_, rfl⟩
  rw [← hfo] at hfd
  have n0 : ¬ (0 : Nat) = σ.length := by omega
  have g0 : ∀ x : Ob, (σ ++ [x])[0]? = some (cP p) := fun x => by rw [List.getElem?_append_left l0]; exact h.o
  have g0' := fun x => @get_e _ _ _ _ (g0 x)
  have g1 : ∀ x : Ob, (σ ++ [x])[M]? = some (.cells (cellsOf p.classes)) := fun x => by rw [List.getElem?_append_left l2]; exact h.z
  have g1' := fun x => @get_e _ _ _ _ (g1 x)
  obtain ⟨X, hX⟩ : ∃ X : Ob, X = .cells [.b (.d (.str (fo.getD noC).name)), .b (.d (.bool (fo.getD noC).iface)), .b (.d (.str (fo.getD noC).super)), .b (.d (.sl (rows (fo.getD noC).ifaces))), .b (.d (.sl (rows (fo.getD noC).fields))), .b (.d (.sl (rows (fo.getD noC).methods)))] := ⟨_, rfl⟩
  have g2 : ∀ x y : Ob, (σ ++ [x]).set σ.length y = σ ++ [y] := fun x y => by rw [List.set_append_right _ _ (Nat.le_refl _)]; simp
  have sk : (c.iface = true ∨ fo.isSome = true ∨ 0 ≤ atI p.classes sNone) → Good σ b M M1 k := by
    intro hskip
    refine ⟨σ ++ [X], fun c' => ?_⟩
    generalize cellsOf p.classes = Z at *
    cases hi : c.iface
    · cases hfi : fo.isSome
      · have i1 : 0 ≤ atI p.classes sNone := by simpa [hi, hfi] using hskip
        simp [f8_p7, f8_p13, f8_p14, hb, h.o, h.q, h.z, R.o0, R.q0, R.s0, e0, e0', e1, e1', l0, l1, l2, ne, ne', g0, g0', g1, g1', g2, ← hX, hfd, hat, hi, hfi, i1, fn_wakes]
      · simp [f8_p7, f8_p13, f8_p14, hb, h.o, h.q, h.z, R.o0, R.q0, R.s0, e0, e0', e1, e1', l0, l1, l2, ne, ne', g0, g0', g1, g1', g2, ← hX, hfd, hat, hi, hfi, fn_wakes]
    · simp [f8_p7, f8_p13, f8_p14, hb, h.o, h.q, h.z, R.o0, R.q0, R.s0, e0, e0', e1, e1', l0, l1, l2, ne, ne', g0, g0', g1, g1', g2, ← hX, hfd, hat, hi, fn_wakes]
  by_cases hskip : c.iface = true ∨ fo.isSome = true ∨ 0 ≤ atI p.classes sNone
  · exact sk hskip
  have hi : c.iface = false := by cases h : c.iface <;> simp_all
  have hfi : fo.isSome = false := by cases h : fo.isSome <;> simp_all
  have i3 : ¬ 0 ≤ atI p.classes sNone := fun h => hskip (Or.inr (Or.inr h))
  have hz : ∀ i (hi : i < p.classes.length), p.classes[i].name ≠ sNone := fun i hi e => by
    rcases at_names p.classes sNone with ⟨_, a2⟩ | ⟨a1, _⟩
    · exact a2 (List.mem_map.mpr ⟨_, List.getElem_mem hi, e⟩)
    · omega
  have hq := bent_super hp hP hk (by rw [hc]; exact hi) hz
  obtain ⟨Y, y1, σ', hF⟩ := sw_put hp hP (h.app X) hk (c' := { p.classes[k] with super := sNone }) (x := .b (.d (.str sNone))) (j := 2) (d := .str sNone) { hp.cs _ (List.getElem_mem hk) with super := (by decide : sNone.size ≤ 60) } (by omega) rfl (Or.inl rfl) (by rw [hq]; decide)
  rw [hq, List.set_append_left _ _ l2] at hF
  refine ⟨σ', fun c' => ?_⟩
  generalize cellsOf p.classes = Z at *
  simp [f8_p7, f8_p13, f8_p14, hb, h.o, h.q, h.z, R.o0, R.q0, R.s0, e0, e0', e1, e1', l0, l1, l2, ne, ne', g0, g0', g1, g1', g2, ← hX, hfd, hat, hi, hfi, i3, y1, hF]

theorem sw2 (hp : OkP p) (hP : hierP p = 0) (h : BS p σ M M1 (cellsOf p.classes) p.classes.length) {k : Nat} (hk : k < p.classes.length) {b : Int} (hb : (IntKind.u64.wrap b).tmod 5 = 2) : Good σ b M M1 k := by
  have R := rd_of h hk
  obtain ⟨c, hc⟩ : ∃ c, p.classes[k] = c := ⟨_, rfl⟩
  have e0 := R.z0
  have e1 := R.z1
  rw [List.getElem?_eq_getElem hk, hc] at e0 e1
  simp only [Option.map_some] at e0 e1
  have e0' := @get_e _ _ _ _ e0
  have e1' := @get_e _ _ _ _ e1
  have l0 := get_lt h.o
  have l1 := get_lt h.q
  have l2 := get_lt h.z
  have ne := h.ne
  have ne' : ¬ M1 = M := fun e => ne e.symm
  have hq := bent_iface hp hP hk
  obtain ⟨Y, y1, σ', hF⟩ := sw_put hp hP h hk (c' := { p.classes[k] with ifaces := [sObject] }) (x := .osl 1 [[.str sObject]]) (j := 3) (d := .sl (rows [sObject])) { hp.cs _ (List.getElem_mem hk) with ifaces := by simp, is := by simp; decide } (by omega) rfl (Or.inr ⟨1, _, rfl, rfl⟩) (by rw [hq]; decide)
  rw [hq] at hF
  refine ⟨σ', fun c' => ?_⟩
  generalize cellsOf p.classes = Z at *
  simp [f8_p7, f8_p13, hb, h.o, h.q, h.z, R.o0, R.q0, R.s0, e0, e0', e1, e1', l0, l1, l2, ne, ne', y1, hF]

theorem sw3 (hp : OkP p) (hP : hierP p = 0) (h : BS p σ M M1 (cellsOf p.classes) p.classes.length) {k : Nat} (hk : k < p.classes.length) {b : Int} (hb : (IntKind.u64.wrap b).tmod 5 = 3) : Good σ b M M1 k := by
  have R := rd_of h hk
  obtain ⟨c, hc⟩ : ∃ c, p.classes[k] = c := ⟨_, rfl⟩
  have e0 := R.z0
  have e1 := R.z1
  rw [List.getElem?_eq_getElem hk, hc] at e0 e1
  simp only [Option.map_some] at e0 e1
  have e0' := @get_e _ _ _ _ e0
  have e1' := @get_e _ _ _ _ e1
  have l0 := get_lt h.o
  have l1 := get_lt h.q
  have l2 := get_lt h.z
  have ne := h.ne
  have ne' : ¬ M1 = M := fun e => ne e.symm
  cases hi : p.classes[k].iface
  · have hq := bent_ringC hp hP hk hi
    obtain ⟨Y, y1, σ', hF⟩ := sw_put hp hP h hk (c' := { p.classes[k] with super := p.classes[k].name }) (x := .b (.d (.str c.name))) (j := 2) (d := .str c.name) { hp.cs _ (List.getElem_mem hk) with super := (hp.cs _ (List.getElem_mem hk)).name } (by omega) (by rw [← hc]; rfl) (Or.inl rfl) (by rw [hq]; decide)
    rw [hq] at hF
    rw [hc] at hi
    refine ⟨σ', fun c' => ?_⟩
    generalize cellsOf p.classes = Z at *
    simp [f8_p7, f8_p13, hb, h.o, h.q, h.z, R.o0, R.q0, R.s0, e0, e0', e1, e1', l0, l1, l2, ne, ne', hi, y1, hF]
  · have hq := bent_ringI hp hP hk hi
    obtain ⟨Y, y1, σ', hF⟩ := sw_put hp hP h hk (c' := { p.classes[k] with ifaces := [p.classes[k].name] }) (x := .osl 1 [[.str c.name]]) (j := 3) (d := .sl (rows [p.classes[k].name])) { hp.cs _ (List.getElem_mem hk) with ifaces := by simp, is := by simpa using (hp.cs _ (List.getElem_mem hk)).name } (by omega) rfl (Or.inr ⟨1, _, rfl, by rw [hc]; rfl⟩) (by rw [hq]; decide)
    rw [hq] at hF
    rw [hc] at hi
    refine ⟨σ', fun c' => ?_⟩
    generalize cellsOf p.classes = Z at *
    simp [f8_p7, f8_p13, hb, h.o, h.q, h.z, R.o0, R.q0, R.s0, e0, e0', e1, e1', l0, l1, l2, ne, ne', hi, y1, hF]

theorem sw4 (hp : OkP p) (hP : hierP p = 0) (h : BS p σ M M1 (cellsOf p.classes) p.classes.length) {k : Nat} (hk : k < p.classes.length) {b : Int} (hb : (IntKind.u64.wrap b).tmod 5 = 4) : Good σ b M M1 k := by
  have R := rd_of h hk
  obtain ⟨c, hc⟩ : ∃ c, p.classes[k] = c := ⟨_, rfl⟩
  have e0 := R.z0
  have e1 := R.z1
  rw [List.getElem?_eq_getElem hk, hc] at e0 e1
  simp only [Option.map_some] at e0 e1
  have e0' := @get_e _ _ _ _ e0
  have e1' := @get_e _ _ _ _ e1
  have l0 := get_lt h.o
  have l1 := get_lt h.q
  have l2 := get_lt h.z
  have ne := h.ne
  have ne' : ¬ M1 = M := fun e => ne e.symm
  have hq := bent_name hp hP hk
  obtain ⟨Y, y1, σ', hF⟩ := sw_put hp hP h hk (c' := { p.classes[k] with name := sObject }) (x := .b (.d (.str sObject))) (j := 0) (d := .str sObject) { hp.cs _ (List.getElem_mem hk) with name := (by decide : sObject.size ≤ 60) } (by omega) rfl (Or.inl rfl) (by rw [hq]; decide)
  rw [hq] at hF
  rw [Nat.add_zero] at y1
  refine ⟨σ', fun c' => ?_⟩
  generalize cellsOf p.classes = Z at *
  simp [f8_p7, f8_p13, hb, h.o, h.q, h.z, R.o0, R.q0, R.s0, e0, e0', e1, e1', l0, l1, l2, ne, ne', y1, hF]

theorem sw_all (hp : OkP p) (hP : hierP p = 0) (h : BS p σ M M1 (cellsOf p.classes) p.classes.length) {k : Nat} (hk : k < p.classes.length) (hlen : p.classes.length < 10) (b : Int) : Good σ b M M1 k := by
  have g0 : 0 ≤ IntKind.u64.wrap b := by simp [IntKind.wrap, IntKind.signed, IntKind.bits]; omega
  have e := Int.tmod_eq_emod_of_nonneg (b := 5) g0
  have : (IntKind.u64.wrap b).tmod 5 = 0 ∨ (IntKind.u64.wrap b).tmod 5 = 1 ∨ (IntKind.u64.wrap b).tmod 5 = 2 ∨ (IntKind.u64.wrap b).tmod 5 = 3 ∨ (IntKind.u64.wrap b).tmod 5 = 4 := by omega
  rcases this with q | q | q | q | q
  · exact sw0 hp hP h hk hlen q
  · exact sw1 hp hP h hk q
  · exact sw2 hp hP h hk q
  · exact sw3 hp hP h hk q
  · exact sw4 hp hP h hk q
end

set_option maxRecDepth 100000 in
set_option maxHeartbeats 8000000 in
theorem fn_bent (p : GProgram) (a b : Int) (σ : List Ob) (lo tr : Nat) : Fn fns 8 [vProgram p, vint a, vint b] σ lo tr = some (vbool true, σ) := by
  refine fn_gen t8 rfl (σ1 := []) rfl rfl ?_ σ lo tr
  cases hv : heavy p
  case true => simp [KF, params, f8, fn_heavy, hv]
  have hp := okP hv
  have hh := fn_hier p hp
  by_cases hE : hierE p = 0
  case neg => simp [KF, params, f8, fn_heavy, hv, hh, hE]
  have hP : hierP p = 0 := by rw [hier_eq hp]; exact hE
  rw [hE] at hh
  by_cases h0 : p.classes.length = 0
  case pos =>
    have h0' : p.classes = [] := by simpa using h0
    simp [KF, params, f8, fn_heavy, hv, hh, eq_true h0']
  by_cases hlen : p.classes.length < 10
  case neg =>
    have hlen' : (10 : Int) ≤ p.classes.length := by omega
    have h0' : ¬ p.classes = [] := by simpa using h0
    have h0i : ¬ (p.classes.length : Int) = 0 := by omega
    simp [KF, params, f8, fn_heavy, hv, hh, hlen', h0', h0i]
  have hlen' : ¬ (10 : Int) ≤ p.classes.length := by omega
  have h0' : ¬ p.classes = [] := by simpa using h0
  have h0i : ¬ (p.classes.length : Int) = 0 := by omega
  have tw := fn_twinProgram2 p hp 0 0 (by omega) (by omega) (cP p)
  obtain ⟨m, hm⟩ : ∃ m, m + 1 = p.classes.length := ⟨p.classes.length - 1, by omega⟩
  have eA : grA 4 p.classes.length = .b (.arr 6 (4 + m) 0 p.classes.length) := by rw [← hm]; rfl
  have eS : grS p.classes p.classes.length = List.replicate m Ob.dead ++ [.cells (cellsOf p.classes)] := by
    have : p.classes.take (m + 1) = p.classes := List.take_of_length_le (by omega)
    rw [← hm]; simp only [grS, this]
  rw [eA, eS] at tw
  obtain ⟨T, hT⟩ : ∃ T, T = [cP p, cP p, .cells [.b (.arr 6 (4 + m) 0 p.classes.length)], .cells [.b (.arr 6 (4 + m) 0 p.classes.length)]] ++ (List.replicate m Ob.dead ++ [.cells (cellsOf p.classes)]) := ⟨_, rfl⟩
  rw [← hT] at tw
  have hTl : T.length = 5 + m := by rw [hT]; simp only [List.length_append, List.length_cons, List.length_nil, List.length_replicate]; omega
  have hTz : T[4 + m]? = some (.cells (cellsOf p.classes)) := by
    rw [hT, List.getElem?_append_right (by simp only [List.length_cons, List.length_nil]; omega), List.getElem?_append_right (by simp)]; simp
  have hTo : T[0]? = some (cP p) := by rw [hT]; rfl
  obtain ⟨w1, k, k1, k2⟩ := pick_ix a (Nat.pos_of_ne_zero h0) (by omega)
  obtain ⟨M, hM⟩ : ∃ M, M = 4 + m := ⟨_, rfl⟩
  rw [← hM] at tw hTz
  have bs : BS p (T ++ [.cells [.b (.arr 6 M 0 p.classes.length)]]) M T.length (cellsOf p.classes) p.classes.length :=
    ⟨get_app hTo _, by simp, get_app hTz _, by omega, by omega, by omega⟩
  obtain ⟨σ', hG⟩ := sw_all hp hP bs k1 hlen b
  have g2 : ∀ x y : Ob, (T ++ [x]).set T.length y = T ++ [y] := fun x y => by rw [List.set_append_right _ _ (Nat.le_refl _)]; simp
  simp (maxSteps := 2000000) [KF, params, f8, fn_heavy, hv, hh, hlen', h0', h0i, tw, g2, w1, k2, k1, hG]
end Go.Proofs.YthahhonmkhafkaaGreatDoor.Am
