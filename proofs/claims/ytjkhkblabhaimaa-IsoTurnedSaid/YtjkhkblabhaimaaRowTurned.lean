/- The law IsoTurned: the row. For every input the law returns true, and each argument reads behind the call as it read before. -/
import Derived.Test.YtjkhkblabhaimaaRows
import Derived.Test.YtjkhkblabhaimaaIsoS
import Derived.Test.YtjkhkblabhaimaaMachF
namespace Go.Proofs.Ytjkhkblabhaimaa.isoTurned
set_option linter.unusedSimpArgs false
set_option linter.unusedVariables false
open Go Go.ChangeShapes Go.WideShapes Go.ChangeAt Go.RowKit Am
set_option linter.unusedVariables false
theorem own : ownKnob Try.prog.godebug = none := by kernel_rfl
theorem opn_41 : Opn Try.prog 41 2 (fun x : GVal => Rec.row x) :=
  (Opn.struct (fs := [(4, 0), (3, 1)]) (by kernel_rfl) (by kernel_rfl) (by decide) (OpnFs.cons (Opn.bool (t := 4) (by kernel_rfl) (by kernel_rfl)) (OpnFs.cons (Opn.int (t := 3) (by kernel_rfl) (by kernel_rfl)) OpnFs.nil))).map (fun b => (⟨b.1, b.2.1⟩ : GVal)) (fun _ => rfl) (fun _ => rfl)
theorem opn_37 : Opn Try.prog 37 2 (fun x : GType => Rec.row x) :=
  (Opn.struct (fs := [(3, 0), (9, 1)]) (by kernel_rfl) (by kernel_rfl) (by decide) (OpnFs.cons (Opn.int (t := 3) (by kernel_rfl) (by kernel_rfl)) (OpnFs.cons (Opn.str (t := 9) (by kernel_rfl) (by kernel_rfl)) OpnFs.nil))).map (fun b => (⟨b.1, b.2.1⟩ : GType)) (fun _ => rfl) (fun _ => rfl)
theorem opn_39 : Opn Try.prog 39 3 (fun x : GObj => Rec.row x) :=
  (Opn.struct (fs := [(37, 0), (22, 2)]) (by kernel_rfl) (by kernel_rfl) (by decide) (OpnFs.cons opn_37 (OpnFs.cons (Opn.slice (t := 22) (e := 41) (α := GVal) (by kernel_rfl) (by kernel_rfl) opn_41) OpnFs.nil))).map (fun b => (⟨b.1, b.2.1⟩ : GObj)) (fun _ => rfl) (fun _ => rfl)
theorem opn_25 : Opn Try.prog 25 2 (fun x : GInput => Rec.row x) :=
  (Opn.struct (fs := [(22, 0), (23, 1)]) (by kernel_rfl) (by kernel_rfl) (by decide) (OpnFs.cons (Opn.slice (t := 22) (e := 41) (α := GVal) (by kernel_rfl) (by kernel_rfl) opn_41) (OpnFs.cons (Opn.slice (t := 23) (e := 39) (α := GObj) (by kernel_rfl) (by kernel_rfl) opn_39) OpnFs.nil))).map (fun b => (⟨b.1, b.2.1⟩ : GInput)) (fun _ => rfl) (fun _ => rfl)
set_option maxRecDepth 100000 in
theorem lifted (os : Os) (started : os.Started) (H : Type) (enc : TypeId × Value → H) :
    ReturnsInHanded {} Try.checked os 4 .any (Rows.isoTurnedSpec.pre6 enc Try.prog Try.f4 Rows.isoTurnedRow.domain false) (Rows.isoTurnedSpec.post enc Try.prog Try.f4 false true false false) := by
  refine returnsInHanded_of_change_sized (C := Try.checked) own started (by kernel_rfl) Try.func4
    (ChangeSpec.witness6 (enc := enc) (C := Try.checked) false ⟨#[], #[.agg #[.slice none 0 0, .slice none 0 0], .int .i64 0, .bool false], []⟩ 8 (by kernel_rfl) (by kernel_rfl) (by kernel_rfl) (by kernel_rfl)) ?_
  intro W base args ds gs before hval0 hW hcnd hsz0 _
  have hval : ∀ (j : Nat) t v, Try.f4.params[j]? = some t → args[j]? = some v → Value.okWide Try.prog W .any base t v := hval0
  have hW' := hW
  obtain ⟨p, q, hA0, hV, rfl, hfz, hnd⟩ := hW
  have hA : DataW.TrodAll enc Try.prog W 0 (fun _ => true) true Try.f4.params.toList args.toList ds p := hA0
  have hA1 := hA
  rw [Try.params4] at hA hval
  obtain ⟨v0, vs0, d0, ds0, p0, q0, hargs, rfl, rfl, h0, r0⟩ := trodAll_cons hA
  obtain ⟨v1, vs1, d1, ds1, p1, q1, rfl, rfl, rfl, h1, r1⟩ := trodAll_cons r0
  obtain ⟨v2, vs2, d2, ds2, p2, q2, rfl, rfl, rfl, h2, r2⟩ := trodAll_cons r1
  obtain ⟨rfl, rfl, rfl⟩ := trodAll_nil r2
  obtain rfl : args = #[v0, v1, v2] := by cases args; simp_all
  obtain ⟨rfl, rfl⟩ := trodVars_none hV
  obtain ⟨x0, y0⟩ := arg_agg (α := GInput) (fs := [(22, 0), (23, 1)]) (by kernel_rfl) opn_25 (hval 0 25 v0 rfl rfl) h0
  obtain ⟨x1, y1⟩ := arg_int (by kernel_rfl) (by kernel_rfl) (hval 1 3 v1 rfl rfl) h1
  obtain ⟨x2, y2⟩ := arg_bool (by kernel_rfl) (by kernel_rfl) (hval 2 4 v2 rfl rfl) h2
  obtain ⟨m, hrun⟩ := fn_iff.mp (fn4 x0 x1 x2 [] 0 0)
  have hargs : Args (g0 W) W (Old W) [vagg x0, vint x1, vbool x2] #[v0, v1, v2] := args_of rfl fun i x v hi hv => by
    match i, hi, hv with
    | 0, hi, hv => cases hi; cases hv; exact ⟨rfl, y0⟩
    | 1, hi, hv => cases hi; cases hv; exact ⟨rfl, y1⟩
    | 2, hi, hv => cases hi; cases hv; exact ⟨rfl, y2⟩
    | n + 3, hi, _ => simp at hi
  refine (walk (f := 4) (fun p hp => absurd hp (by simp [gtab])) (run_ok m) hrun hargs).mono fun e W' ⟨he, bel⟩ => ?_
  subst he
  exact ⟨_, rfl, _, _, _, [], _, [], hW', trodAll_mk1 (shut_bool (t := 4) (by kernel_rfl) _), trodAll_stays (by kernel_rfl) bel (by kernel_rfl) hA1, rfl, bel.frame _, fun h => by cases h⟩
theorem over : Rows.isoTurnedRow.holds Try.pinned (OpenSpec.ofChange Rows.isoTurnedSpec) :=
  OpenClaim.holds_of_wide 4 Try.f4 rfl rfl rfl rfl rfl rfl rfl ⟨rfl, rfl, rfl, rfl, rfl⟩ rfl rfl rfl rfl rfl (by kernel_rfl) Try.func4 (by kernel_rfl)
    (of_decide_eq_true (by kernel_rfl)) (by unfold Func.isWrapper; first | (rw [if_pos (by decide +kernel)]; kernel_rfl) | (rw [if_neg (by decide +kernel)]; exact ⟨rfl, rfl⟩))
    (fun os started H enc _ => lifted os started H enc)
theorem proved : Rows.IsoTurnedSaid := over
end Go.Proofs.Ytjkhkblabhaimaa.isoTurned
namespace Go.Proofs.Ytjkhkblabhaimaa
/-- The row, under a short name, for the claim. -/
theorem isoTurned_holds : Rows.IsoTurnedSaid := isoTurned.proved
end Go.Proofs.Ytjkhkblabhaimaa
