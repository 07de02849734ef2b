/- Functions: what the abstract machine answers the model's call answers. -/
import Derived.Test.YtjkhkblabhaimaaAmFun
import Derived.Test.YtjkhkblabhaimaaAmKeep
import Derived.Test.YtjkhkblabhaimaaAmFrz
namespace Go.Proofs.Ytjkhkblabhaimaa.Am
set_option linter.unusedSimpArgs false
set_option linter.unusedVariables false
open Go
set_option linter.unusedVariables false

def chkRes (P : Program) (N : Nat) : ResultVar → ARes → Bool
  | .tmp t, .tmp t' => t == t'
  | .cell t ty, .cell t' n => t == t' && (P.underlying ty).isSome && (match P.info? ty with
      | some i => n == aggOf P ty i
      | none => false)
  | _, _ => false

def chkRess (P : Program) (N : Nat) : List ResultVar → List ARes → Bool
  | [], [] => true
  | x :: xs, y :: ys => chkRes P N x y && chkRess P N xs ys
  | _, _ => false

/-- Is this the abstract form of function f? -/
def chkFun (P : Program) (f : Nat) (af : AFun) : Bool :=
  match P.funcs[fnOf f]? with
  | some fn => entered P (fnOf f) && (match fn.body with
    | some c => chkCode P fn.ntmps c af.body
    | none => false) && chkRess P fn.ntmps fn.results.toList af.results && decide (af.params ≤ fn.ntmps)
  | none => false

section
variable {P : Program} {N : Nat} {g g' : G} {w w' : World} {Pr : Nat → Prop} {s s' : St} {a a' : Act} {F : Oracle} {bd : Bd}

/-- One result, read. -/
def readRes (P : Program) (tmps : Array Value) (w : World) : ResultVar → Value → Prop := fun r v =>
  (match r with
    | .tmp t => pure (tmps.getD t undef)
    | .cell a t => do loadVar t (← asAddr (tmps.getD a undef)) : Sem Value).run P w = .ok v w

theorem res_one (hA : InvA N g w Pr s a) {r : ResultVar} {r' : ARes} (hc : chkRes P N r r' = true) {n : Nat} {v : V} (h : resOne s n r' = some v) (d : Nat) :
    ∃ u, readRes P a.tmps w r u ∧ ∃ g1, Ext g w g1 w ∧ Fr Pr g w g1 w ∧ RepV g1 w Pr (.tmp d) v u ∧ Like g g1 ∧ (∀ σ : List Ob, (∀ l, l < σ.length → l < n) → σ.length ≤ s.σ.length → Inv (g.cut σ.length) w Pr σ → Inv (g1.cut σ.length) w Pr σ) := by
  unfold chkRes at hc
  split at hc
  · rename_i t t'
    have ht : t = t' := eq_of_beq hc
    subst ht
    simp only [resOne, Option.some.injEq] at h
    subst h
    let φ : Place → Place := fun p => if p.1 = .tmp t then (.tmp d, p.2) else p
    refine ⟨_, rfl, g.ren Pr φ, Ext.ren φ, Fr.ren φ, RepV.ren φ (fun p => by simp [φ]) (hA.env t), ⟨rfl, rfl⟩, fun σ _ _ hσ => ?_⟩
    exact Inv.ren φ (fun l i => by simp [φ]) hσ
  · rename_i t ty t' m
    simp only [Bool.and_eq_true, beq_iff_eq] at hc
    obtain ⟨⟨rfl, hd⟩, hi⟩ := hc
    split at hi
    case h_2 => cases hi
    rename_i i hi'
    have hn : m = aggOf P ty i := eq_of_beq hi
    simp only [resOne] at h
    split at h
    case h_2 => cases h
    rename_i l off hr
    have he := hA.env t
    rw [hr] at he
    obtain ⟨b, q, hl, he⟩ := he
    split at h
    case h_2 => cases h
    rename_i cs hcs
    obtain ⟨b', q', arr, tt, h3, h4, h5, h6, h7⟩ := hA.inv.ob _ _ (getCells_eq hcs)
    rw [hl] at h3
    cases h3
    let φ : Place → Place := fun p => if p.1 = .cell l ∧ n ≤ l then (match p.2 with | [j] => (.tmp d, if m = none then [] else [j - off]) | _ => p) else p
    have hinv : ∀ σ : List Ob, (∀ l, l < σ.length → l < n) → σ.length ≤ s.σ.length → Inv (g.cut σ.length) w Pr σ → Inv ((g.ren Pr φ).cut σ.length) w Pr σ := by
      intro σ hσ _ h0
      refine ⟨h0.len, fun l' o ho => ?_, h0.lt, fun c hc => ?_⟩
      · refine RepOb.ren φ (fun i => ?_) (h0.ob l' o ho)
        simp only [φ]
        rw [if_neg]
        rintro ⟨e, e2⟩
        cases e
        have := hσ l (List.getElem?_eq_some_iff.mp ho).1
        omega
      · obtain ⟨p1, p2, p3⟩ := h0.pr c hc
        exact ⟨p1, p2, by simpa [G.ren, G.cut, hc] using p3⟩
    cases m with
    | none =>
      have hs : isStr P ty = false := by
        cases hb : isStr P ty
        · rfl
        · simp [aggOf, hb] at hn
      simp only at h
      split at h
      case h_2 => cases h
      rename_i c hcc
      cases h
      obtain ⟨u, k1, k2, k3⟩ := h7 _ _ hcc
      have hrun : readRes P a.tmps w (.cell t ty) u := by
        simp only [readRes, he, asAddr, Sem.run_bind, Sem.run_pure, Result.andThen_ok, loadVar, run_isAgg hd, hs, Bool.false_eq_true, if_false, run_load, cell_of h5]
        rw [Nat.add_comm q off, Nat.add_comm off q, k1]
      refine ⟨u, hrun, g.ren Pr φ, Ext.ren φ, Fr.ren φ, ?_, ⟨rfl, rfl⟩, hinv⟩
      rw [repV_c]
      by_cases hnl : n ≤ l
      · rw [if_pos hnl]
        exact RepC.ren φ (by simp [φ, hnl]) k3
      · rw [if_neg hnl]
        exact RepC.down (RepC.ren φ rfl k3)
    | some m =>
      have hs : isStr P ty = true ∧ m = i.size := by
        cases hb : isStr P ty
        · simp [aggOf, hb] at hn
        · simp [aggOf, hb] at hn; exact ⟨rfl, hn⟩
      obtain ⟨hs, rfl⟩ := hs
      simp only at h
      split at h
      case isFalse => cases h
      rename_i hle
      cases h
      obtain ⟨us, u1, u2, u3⟩ := take_list (R := fun i c u => u.oneCell' = true ∧ RepC g w Pr (.cell l, [i]) c u) h7 hle
      have hrun : readRes P a.tmps w (.cell t ty) (.agg us.toArray) := by
        have h1 := run_loadCells_list (P := P) w ⟨b, q + off, none⟩ us (fun j v hj => by rw [addr_add]; exact (cell_of h5 _).trans (u2 j v hj))
        rw [u1] at h1
        simp only [readRes, he, asAddr, Sem.run_bind, Sem.run_pure, Result.andThen_ok, loadVar, run_isAgg hd, hs, if_true, run_sizeOf w hi', Program.cellsOf, hi', Option.map_some, Option.getD_some, h1]
      refine ⟨_, hrun, g.ren Pr φ, Ext.ren φ, Fr.ren φ, ?_, ⟨rfl, rfl⟩, hinv⟩
      have hlen : us.toArray.size = ((cs.drop off).take i.size).length := by simp [u1]; omega
      by_cases hnl : n ≤ l
      · rw [if_pos hnl]
        refine ⟨us.toArray, rfl, hlen, fun j c hj => ?_⟩
        obtain ⟨u, k1, k2, k3⟩ := u3 j c hj
        exact ⟨u, by simpa using k1, k2, RepC.ren φ (by simp [φ, hnl]) k3⟩
      · rw [if_neg hnl]
        refine ⟨us.toArray, rfl, by simpa using hlen, fun j c hj => ?_⟩
        simp only [List.getElem?_map, Option.map_eq_some_iff] at hj
        obtain ⟨c0, hc0, rfl⟩ := hj
        obtain ⟨u, k1, k2, k3⟩ := u3 j c0 hc0
        exact ⟨u, by simpa using k1, k2, RepC.down (RepC.ren φ rfl k3)⟩
  · cases hc

theorem res_raw (hA : InvA N g w Pr s a) {r : ResultVar} {r' : ARes} (hc : chkRes P N r r' = true) {n : Nat} {v : V} (h : resOne s n r' = some v) : ∃ u, readRes P a.tmps w r u ∧ ∀ q, RepV g w Pr q v.down u := by
  unfold chkRes at hc
  split at hc
  · rename_i t t'
    have ht : t = t' := eq_of_beq hc
    subst ht
    simp only [resOne, Option.some.injEq] at h
    subst h
    exact ⟨_, rfl, fun q => RepV.down (hA.env t)⟩
  · rename_i t ty t' m
    simp only [Bool.and_eq_true, beq_iff_eq] at hc
    obtain ⟨⟨rfl, hd⟩, hi⟩ := hc
    split at hi
    case h_2 => cases hi
    rename_i i hi'
    have hn : m = aggOf P ty i := eq_of_beq hi
    simp only [resOne] at h
    split at h
    case h_2 => cases h
    rename_i l off hr
    have he := hA.env t
    rw [hr] at he
    obtain ⟨b, q, hl, he⟩ := he
    split at h
    case h_2 => cases h
    rename_i cs hcs
    obtain ⟨b', q', arr, tt, h3, h4, h5, h6, h7⟩ := hA.inv.ob _ _ (getCells_eq hcs)
    rw [hl] at h3
    cases h3
    cases m with
    | none =>
      have hs : isStr P ty = false := by
        cases hb : isStr P ty
        · rfl
        · simp [aggOf, hb] at hn
      simp only at h
      split at h
      case h_2 => cases h
      rename_i c hcc
      cases h
      obtain ⟨u, k1, k2, k3⟩ := h7 _ _ hcc
      have hrun : readRes P a.tmps w (.cell t ty) u := by
        simp only [readRes, he, asAddr, Sem.run_bind, Sem.run_pure, Result.andThen_ok, loadVar, run_isAgg hd, hs, Bool.false_eq_true, if_false, run_load, cell_of h5]
        rw [Nat.add_comm q off, Nat.add_comm off q, k1]
      refine ⟨u, hrun, fun p => ?_⟩
      have h0 : RepC g w Pr (p, []) c.down u := RepC.down k3
      by_cases hnl : n ≤ l
      · rw [if_pos hnl]; exact h0
      · rw [if_neg hnl]; exact RepC.down h0
    | some m =>
      have hs : isStr P ty = true ∧ m = i.size := by
        cases hb : isStr P ty
        · simp [aggOf, hb] at hn
        · simp [aggOf, hb] at hn; exact ⟨rfl, hn⟩
      obtain ⟨hs, rfl⟩ := hs
      simp only at h
      split at h
      case isFalse => cases h
      rename_i hle
      cases h
      obtain ⟨us, u1, u2, u3⟩ := take_list (R := fun i c u => u.oneCell' = true ∧ RepC g w Pr (.cell l, [i]) c u) h7 hle
      have hrun : readRes P a.tmps w (.cell t ty) (.agg us.toArray) := by
        have h1 := run_loadCells_list (P := P) w ⟨b, q + off, none⟩ us (fun j v hj => by rw [addr_add]; exact (cell_of h5 _).trans (u2 j v hj))
        rw [u1] at h1
        simp only [readRes, he, asAddr, Sem.run_bind, Sem.run_pure, Result.andThen_ok, loadVar, run_isAgg hd, hs, if_true, run_sizeOf w hi', Program.cellsOf, hi', Option.map_some, Option.getD_some, h1]
      have h0 : ∀ p, RepV g w Pr p (.agg (((cs.drop off).take i.size).map C.down)) (.agg us.toArray) := by
        intro p
        refine ⟨us.toArray, rfl, by simp [u1]; omega, fun j c hj => ?_⟩
        simp only [List.getElem?_map, Option.map_eq_some_iff] at hj
        obtain ⟨c0, hc0, rfl⟩ := hj
        obtain ⟨u, k1, k2, k3⟩ := u3 j c0 hc0
        exact ⟨u, by simpa using k1, k2, RepC.down k3⟩
      refine ⟨_, hrun, fun p => ?_⟩
      by_cases hnl : n ≤ l
      · rw [if_pos hnl]; exact h0 p
      · rw [if_neg hnl]; exact RepV.down (h0 p)
  · cases hc

theorem res_all (hA : InvA N g w Pr s a) : ∀ {rs : List ResultVar} {rs' : List ARes} {vs : List V}, chkRess P N rs rs' = true → resAll s rs' = some vs →
    ∃ us : List Value, us.length = rs.length ∧ vs.length = us.length ∧ (∀ (i : Nat) (r : ResultVar) (u : Value), rs[i]? = some r → us[i]? = some u → readRes P a.tmps w r u) ∧ ∀ (i : Nat) (v : V), vs[i]? = some v → ∃ u, us[i]? = some u ∧ v.down = v ∧ ∀ r, RepV g w Pr r v u
  | [], rs', vs, hc, h => by
    cases rs' with
    | nil => simp [resAll] at h; subst h; exact ⟨[], by simp⟩
    | cons r rs => simp [chkRess] at hc
  | r :: rs, rs', vs, hc, h => by
    cases rs' with
    | nil => simp [chkRess] at hc
    | cons r' rs' =>
      simp only [chkRess, Bool.and_eq_true] at hc
      simp only [resAll] at h
      split at h
      case h_2 => cases h
      rename_i v vs' hv hvs
      cases h
      obtain ⟨us, l0, l1, l2, l3⟩ := res_all hA hc.2 hvs
      obtain ⟨u, h1, hrep⟩ := res_raw (n := s.σ.length) hA hc.1 hv
      refine ⟨u :: us, by simp [l0], by simp [l1], ?_, ?_⟩
      · intro i r0 u0 hi hj
        cases i with
        | zero => simp at hi hj; subst hi; subst hj; exact h1
        | succ i => exact l2 i r0 u0 (by simpa using hi) (by simpa using hj)
      · intro i v0 hi
        cases i with
        | zero => simp at hi; subst hi; exact ⟨u, rfl, down_down _, hrep⟩
        | succ i => simpa using l3 i v0 (by simpa using hi)

theorem run_results {fn : Func} {tmps : Array Value} {us : List Value} (hl : us.length = fn.results.toList.length) (h : ∀ (i : Nat) (r : ResultVar) (u : Value), fn.results.toList[i]? = some r → us[i]? = some u → readRes P tmps w r u) :
    (results fn tmps).run P w = .ok (if h : us.toArray.size = 1 then us.toArray[0] else .tuple us.toArray) w := by
  have key : ∀ (rs : List ResultVar) (us : List Value), us.length = rs.length → (∀ (i : Nat) (r : ResultVar) (u : Value), rs[i]? = some r → us[i]? = some u → readRes P tmps w r u) →
      (rs.mapM fun (r : ResultVar) => (match r with | .tmp t => pure (tmps.getD t undef) | .cell a t => do loadVar t (← asAddr (tmps.getD a undef)) : Sem Value)).run P w = .ok us w := by
    intro rs
    induction rs with
    | nil => intro us hl _; obtain rfl : us = [] := List.eq_nil_of_length_eq_zero (by simpa using hl); simp
    | cons r rs ih =>
      intro us hl h
      cases us with
      | nil => simp at hl
      | cons u us =>
        have h0 : readRes P tmps w r u := h 0 r u rfl rfl
        have h1 := ih us (by simpa using hl) (fun i r u hi hj => h (i + 1) r u (by simpa using hi) (by simpa using hj))
        unfold readRes at h0
        rw [List.mapM_cons]
        simp only [Sem.run_bind]
        rw [h0]
        simp only [Result.andThen_ok]
        rw [h1]
        simp
  have := key fn.results.toList us hl h
  simp only [results, Array.mapM_eq_mapM_toList, Sem.run_bind, Sem.run_map, Sem.run_pure]
  erw [this]
  rfl

theorem run_res1 {fn : Func} {tmps : Array Value} {r : ResultVar} {u : Value} (hr : fn.results.toList = [r]) (h : readRes P tmps w r u) : (results fn tmps).run P w = .ok u w := by
  have := run_results (P := P) (w := w) (fn := fn) (tmps := tmps) (us := [u]) (by simp [hr]) (fun i r' u' hi hj => by
    rw [hr] at hi
    cases i with
    | zero => simp at hi hj; subst hi; subst hj; exact h
    | succ i => simp at hi)
  simpa using this

theorem params_get : ∀ (args : List V) (i : Nat) (env : Env), params i args = some env → ∀ n, env.get n = (if i ≤ n then (args[n - i]?).getD (.c (.b .any)) else .c (.b .any))
  | [], i, env, h, n => by simp [params] at h; subst h; simp [Env.get]
  | v :: vs, i, env, h, n => by
    simp only [params] at h
    split at h
    case h_2 => cases h
    rename_i e he
    cases h
    rw [env_get_cons, params_get vs (i + 1) e he n]
    by_cases h1 : i = n
    · subst h1; simp
    · rw [if_neg h1]
      by_cases h2 : i ≤ n
      · rw [if_pos (by omega), if_pos h2, show n - i = (n - (i + 1)) + 1 by omega]
        simp
      · rw [if_neg (by omega), if_neg h2]

theorem evf_entered {fns : Nat → Option AFun} (hfns : ∀ f af, fns f = some af → chkFun P f af = true) (n : Nat) : ∀ f args σ lo tr r, evf fns n f args σ lo tr = some r → entered P (fnOf f) = true := by
  intro f args σ lo tr r h
  cases n with
  | zero => simp [evf] at h
  | succ n =>
    simp only [evf] at h
    split at h
    case h_1 => cases h
    rename_i af haf
    have := hfns f af haf
    unfold chkFun at this
    split at this
    · simp only [Bool.and_eq_true] at this; exact this.1.1.1
    · cases this

theorem core_low {F : Oracle} (hF : LowF F) {n : Nat} {kp : Kp} {fn : AFun} {args : List V} {σ : List Ob} {lo tr : Nat} {v : V} {σ' : List Ob} (h : core F n kp fn args σ lo tr = some (v, σ')) (m : Nat) (hm : m ≤ tr) (hl : Low m σ) : Low m σ' ∧ σ.length ≤ σ'.length := by
  unfold core at h
  split at h
  case isFalse => cases h
  split at h
  case h_1 => cases h
  rename_i env henv
  cases hk : kp <;> simp only [hk] at h
  all_goals
    split at h
    case h_1 => cases h
    case h_3 => cases h
    rename_i s e hx
    obtain ⟨a1, a2⟩ := ev_low (m := m) hF (by simp only; omega) _ _ _ _ _ hx hl
    simp only at a2
    split at h
    case h_2 => cases h
  · split at h
    case h_2 => cases h
    split at h
    case isFalse => cases h
    cases h
    refine ⟨⟨by simp; have := hl.1; omega, fun l o hlt ho => ?_⟩, by simp; omega⟩
    rw [List.getElem?_take] at ho
    split at ho
    · exact a1.2 l o hlt ho
    · cases ho
  · split at h
    case h_2 => cases h
    split at h
    case isFalse => cases h
    cases h
    refine ⟨⟨by simp; have := hl.1; omega, fun l o hlt ho => ?_⟩, by simp; omega⟩
    rw [List.getElem?_take] at ho
    split at ho
    · exact a1.2 l o hlt ho
    · cases ho
  · cases h
    exact ⟨a1, a2⟩

theorem base_low {F : Oracle} (hF : LowF F) {n : Nat} {fn : AFun} {args : List V} {σ : List Ob} {lo tr : Nat} {v : V} {σ' : List Ob} (h : base F n fn args σ lo tr = some (v, σ')) (m : Nat) (hm : m ≤ tr) (hl : Low m σ) : Low m σ' ∧ σ.length ≤ σ'.length := by
  unfold base at h
  cases hs : (fn.split && isEmp args) with
  | false =>
    rw [hs] at h
    exact core_low hF h m hm hl
  | true =>
    rw [hs] at h
    simp only [cond_true] at h
    split at h
    · rename_i h1 h2
      split at h
      · cases h; exact core_low hF h1 m hm hl
      · cases h
    · cases h

theorem evf_low (fns : Nat → Option AFun) : ∀ n, LowF (evf fns n)
  | 0 => by intro f args σ lo tr v σ' h; simp [evf] at h
  | n + 1 => by
    intro f args σ lo tr v σ' h m hm hl
    simp only [evf] at h
    split at h
    case h_1 => cases h
    rename_i af haf
    cases hb : blindOk af args with
    | false => rw [hb] at h; exact base_low (evf_low fns n) h m hm hl
    | true =>
      rw [hb] at h
      simp only [cond_true] at h
      split at h
      · split at h
        · cases h; exact hl.refl
        · cases h
      · cases h

theorem ress_len : ∀ {xs : List ResultVar} {ys : List ARes}, chkRess P N xs ys = true → xs.length = ys.length
  | [], [], _ => rfl
  | [], _ :: _, h => by simp [chkRess] at h
  | _ :: _, [], h => by simp [chkRess] at h
  | x :: xs, y :: ys, h => by simp only [chkRess, Bool.and_eq_true] at h; simp [ress_len h.2]

theorem tup_rep {us' : List V} {us : List Value} {d : Nat} (l3 : ∀ (i : Nat) (v : V), us'[i]? = some v → ∃ u, us[i]? = some u ∧ v.down = v ∧ ∀ r, RepV g w Pr r v u) : RepV g w Pr (.tmp d) (.tup us') (.tuple us.toArray) := by
  refine ⟨us.toArray, rfl, fun i x hi => ?_⟩
  obtain ⟨u, k1, k2, k3⟩ := l3 i x hi
  refine ⟨u, by simpa using k1, ?_⟩
  have h0 := k3 (.tmp d)
  cases x with
  | c y => exact RepV1.down (x := .c y) (path := []) h0 |> fun h => by rw [k2] at h; exact h
  | agg y => exact RepV1.down (x := .agg y) (path := []) h0 |> fun h => by rw [k2] at h; exact h
  | tup y => simp [V.down] at k2

theorem repV_closed {r : Root} {x : V} {v : Value} (h : RepV g w Pr r x v) : x.closed g.loc.length = true := by
  cases x with
  | c y => exact repV1_closed (x := .c y) (path := []) h
  | agg y => exact repV1_closed (x := .agg y) (path := []) h
  | tup vs =>
    obtain ⟨arr, h1, h2⟩ := h
    simp only [V.closed, List.all_eq_true]
    intro x hx
    obtain ⟨i, hi, rfl⟩ := List.mem_iff_getElem.mp hx
    obtain ⟨u, _, k2⟩ := h2 i vs[i] (by simp [hi])
    exact repV1_closed k2

theorem core_sound {fns : Nat → Option AFun} (hm : P.follows .mixedOrders = true) {n : Nat} (hS : Sound P (evf fns n)) (hen : ∀ f args σ lo tr r, evf fns n f args σ lo tr = some r → entered P (fnOf f) = true) {f : Nat} {af : AFun} (hchk : chkFun P f af = true) {kp : Kp} {args : List V} {σ : List Ob} {lo tr : Nat} {v : V} {σ' : List Ob}
    (h : core (evf fns n) n kp af args σ lo tr = some (v, σ')) {g : G} {w : World} {Pr : Nat → Prop} {vs : Array Value} {d : Nat} (hI : Inv g w Pr σ) (hargs : Args g w Pr args vs) : Calls P (fnOf f) vs w (Answer g w Pr d v σ') := by
    unfold core at h
    unfold chkFun at hchk
    split at hchk
    case h_2 => cases hchk
    rename_i fn hfn
    simp only [Bool.and_eq_true, decide_eq_true_eq] at hchk
    obtain ⟨⟨⟨hen', hbody⟩, hres⟩, hpar⟩ := hchk
    split at hbody
    case h_2 => cases hbody
    rename_i c hc
    split at h
    case isFalse => cases h
    rename_i hlen
    split at h
    case h_1 => cases h
    rename_i env henv
    obtain ⟨v1, v2⟩ := hargs
    have hA : InvA fn.ntmps g w Pr ⟨env, σ⟩ { tmps := vs ++ Array.replicate (fn.ntmps - vs.size) undef, defers := [] } := by
      refine ⟨hI, fun t => ?_, by simp; omega, rfl⟩
      rw [params_get args 0 env henv t]
      simp only [Nat.zero_le, if_true, Nat.sub_zero]
      cases ht : args[t]? with
      | none => trivial
      | some x =>
        obtain ⟨x1, u, x2, x3⟩ := v2 t x ht
        have hlt : t < vs.size := (Array.getElem?_eq_some_iff.mp x2).1
        simp only [Option.getD_some, Array.getD_eq_getD_getElem?]
        rw [Array.getElem?_append_left hlt, x2]
        exact x3
    have hlow0 : Low σ.length σ := inv_low (s := ⟨env, σ⟩) hI
    -- the body, whatever its bounds
    have body : ∀ (bd : Bd) (e : AExit) (s : St), ev (evf fns n) bd n af.body ⟨env, σ⟩ = some (e, s) → (∀ i, e ≠ .exit i) →
        (∀ (g1 : G) (a1 : Act) (w1 : World), Ext g w g1 w1 → Fr Pr g w g1 w1 → InvA fn.ntmps g1 w1 Pr s a1 → ∃ u, (results fn a1.tmps).run P w1 = .ok u w1 ∧ Answer g w Pr d v σ' (.returned u) w1) →
        Calls P (fnOf f) vs w (Answer g w Pr d v σ') := by
      intro bd e s hev hne hfin
      refine calls_of_wp hfn hc (wp_mono (ev_ok hm hS hen n af.body c ⟨env, σ⟩ e s g _ w hbody hev hA) ?_)
      rintro e' a' w' ⟨rfl, g1, x1, x2, x3⟩
      obtain ⟨u, hu, hans⟩ := hfin g1 a' w' x1 x2 x3
      cases e with
      | normal => exact ⟨x3.defers, u, hu, hans⟩
      | ret => exact ⟨x3.defers, u, hu, hans⟩
      | exit i => exact absurd rfl (hne i)
    have hlen0 : g.loc.length = σ.length := hI.len
    have tail : ∀ (bd : Bd), (σ.length ≤ bd.tr) → (match ev (evf fns n) bd n af.body ⟨env, σ⟩ with
          | some (.exit _, _) => none
          | some (_, s) => match resOf s σ.length af.results with
              | some v => match frzV (fun l => decide (σ.length ≤ l)) s.σ v with
                | some v => if v.closed σ.length then some (v, s.σ.take σ.length) else none
                | none => none
              | none => none
          | none => none) = some (v, σ') → Calls P (fnOf f) vs w (Answer g w Pr d v σ') := by
      intro bd hbd h
      split at h
      case h_1 => cases h
      case h_3 => cases h
      rename_i e s hev hne
      split at h
      case h_2 => cases h
      rename_i v0 hv0
      split at h
      case h_2 => cases h
      rename_i v1 hfz
      split at h
      case isFalse => cases h
      rename_i hcl
      cases h
      have hlow := (ev_low (m := σ.length) (evf_low fns n) hbd _ _ _ _ _ hne hlow0)
      have hlen1 : σ.length ≤ s.σ.length := hlow.2
      refine body bd e s hne (fun i hi => ?_) ?_
      · subst hi; exact hev _ rfl
      · intro g1 a1 w1 x1 x2 x3
        have hcutI : Inv (g1.cut σ.length) w1 Pr (s.σ.take σ.length) := x3.inv.cut hlow.1
        have htk : (s.σ.take σ.length).length = σ.length := by simp; omega
        unfold resOf at hv0
        split at hv0
        · rename_i r' hr'
          have hres' := hres
          rw [hr'] at hres'
          obtain ⟨r, hr⟩ : ∃ r, fn.results.toList = [r] := by
            cases hl : fn.results.toList with
            | nil => rw [hl] at hres'; simp [chkRess] at hres'
            | cons r rs => cases rs with
              | nil => exact ⟨r, rfl⟩
              | cons r2 rs => rw [hl] at hres'; simp [chkRess] at hres'
          rw [hr] at hres'
          simp only [chkRess, Bool.and_true] at hres'
          obtain ⟨u, h1, g2, e1, e2, e3, e5, e4⟩ := res_one x3 hres' hv0 d
          have hpr : ∀ b, Pr b → ∀ l, g2.kind b ≠ .obj l := fun b hb => by rw [e5.kind]; exact (x3.inv.pr b hb).2.1
          refine ⟨u, run_res1 hr h1, u, (g2.frz fun l => decide (σ.length ≤ l)).cut σ.length, rfl, ((x1.trans e1).trans (Ext.frz _)).cut (by omega), fun b hb => ?_, ?_, RepV.cut (frzV_rep x3.inv e5 hfz e3) hcl⟩
          · have := ((x2.trans e2).trans (Fr.frz (fun l => decide (σ.length ≤ l)) hpr)) b hb; exact this
          · have := e4 (s.σ.take σ.length) (fun l hl => by omega) (by omega) (by rw [htk]; exact hcutI)
            rw [htk] at this
            exact Inv.frz (by omega) this
        · rename_i hr'
          split at hv0
          case h_2 => cases hv0
          rename_i us' hus
          cases hv0
          obtain ⟨us, l0, l1, l2, l3⟩ := res_all x3 hres hus
          refine ⟨_, run_results l0 l2, _, (g1.frz fun l => decide (σ.length ≤ l)).cut σ.length, rfl, (x1.trans (Ext.frz _)).cut (by omega), fun b hb => (x2.trans (Fr.frz (fun l => decide (σ.length ≤ l)) (fun b hb => (x3.inv.pr b hb).2.1))) b hb, Inv.frz (by omega) hcutI, ?_⟩
          have hne1 : ¬ us.toArray.size = 1 := by
            intro h1
            simp only [List.size_toArray] at h1
            have h2 : af.results.length = 1 := by have := ress_len hres; omega
            obtain ⟨r, hr⟩ := List.length_eq_one_iff.mp h2
            exact hr' r hr
          rw [dif_neg hne1]
          have hrep : RepV g1 w1 Pr (.tmp d) (.tup us') (.tuple us.toArray) := tup_rep l3
          exact RepV.cut (frzV_rep x3.inv ⟨rfl, rfl⟩ hfz hrep) hcl
    cases hk : kp <;> simp only [hk] at h
    · exact tail ⟨max lo σ.length, max tr σ.length⟩ (by simp only; omega) h
    · exact tail ⟨lo, max tr σ.length⟩ (by simp only; omega) h
    · split at h
      case h_1 => cases h
      case h_3 => cases h
      rename_i e s hev hne
      split at h
      case h_2 => cases h
      rename_i v0 hv0
      cases h
      refine body ⟨lo, tr⟩ e s hne (fun i hi => ?_) ?_
      · subst hi; exact hev _ rfl
      · intro g1 a1 w1 x1 x2 x3
        unfold resOf at hv0
        split at hv0
        · rename_i r' hr'
          have hres' := hres
          rw [hr'] at hres'
          obtain ⟨r, hr⟩ : ∃ r, fn.results.toList = [r] := by
            cases hl : fn.results.toList with
            | nil => rw [hl] at hres'; simp [chkRess] at hres'
            | cons r rs => cases rs with
              | nil => exact ⟨r, rfl⟩
              | cons r2 rs => rw [hl] at hres'; simp [chkRess] at hres'
          rw [hr] at hres'
          simp only [chkRess, Bool.and_true] at hres'
          obtain ⟨u, h1, g2, e1, e2, e3, e5, e4⟩ := res_one x3 hres' hv0 d
          have hfull : ∀ gg : G, Inv gg w1 Pr s.σ → gg.cut s.σ.length = gg := by
            intro gg hg
            simp only [G.cut]
            rw [List.take_of_length_le (by rw [hg.len]; omega)]
          have h2 := e4 s.σ (fun l hl => hl) (Nat.le_refl _) (by rw [hfull g1 x3.inv]; exact x3.inv)
          refine ⟨u, run_res1 hr h1, u, g2.cut s.σ.length, rfl, (x1.trans e1).cut ?_, fun b hb => ?_, h2, ?_⟩
          · have hlow := (ev_low (m := 0) (evf_low fns n) (Nat.zero_le _) _ _ _ _ _ hne ⟨Nat.zero_le _, fun l o hl => by omega⟩).2
            simp only at hlow
            omega
          · have := (x2.trans e2) b hb; exact this
          · refine RepV.cut e3 ?_
            have hh := repV_closed e3
            rw [e5.loc, x3.inv.len] at hh
            exact hh
        · rename_i hr'
          split at hv0
          case h_2 => cases hv0
          rename_i us' hus
          cases hv0
          obtain ⟨us, l0, l1, l2, l3⟩ := res_all x3 hres hus
          refine ⟨_, run_results l0 l2, _, g1, rfl, x1, x2, x3.inv, ?_⟩
          have hne1 : ¬ us.toArray.size = 1 := by
            intro h1
            simp only [List.size_toArray] at h1
            have h2 : af.results.length = 1 := by have := ress_len hres; omega
            obtain ⟨r, hr⟩ := List.length_eq_one_iff.mp h2
            exact hr' r hr
          rw [dif_neg hne1]
          exact tup_rep l3

theorem evf_sound {fns : Nat → Option AFun} (hm : P.follows .mixedOrders = true) (hfns : ∀ f af, fns f = some af → chkFun P f af = true) : ∀ n, Sound P (evf fns n)
  | 0 => ⟨by intro f args σ lo tr v σ' h; simp [evf] at h, fun f args σ lo tr v σ' h => (evf_keep fns 0 f args σ lo tr v σ' h).1⟩
  | n + 1 => by
    refine ⟨?_, fun f args σ lo tr v σ' h => (evf_keep fns (n + 1) f args σ lo tr v σ' h).1⟩
    intro f args σ lo tr v σ' h g w Pr vs d hI hargs
    simp only [evf] at h
    split at h
    case h_1 => cases h
    rename_i af haf
    have hchk := hfns f af haf
    have hbase : ∀ {σ : List Ob} {lo tr : Nat} {v : V} {σ' : List Ob} {g : G} {Pr : Nat → Prop}, base (evf fns n) n af args σ lo tr = some (v, σ') → Inv g w Pr σ → Args g w Pr args vs → Calls P (fnOf f) vs w (Answer g w Pr d v σ') := by
      intro σ lo tr v σ' g Pr h hI hargs
      unfold base at h
      have hgo : ∀ {kp : Kp} {args : List V} {lo tr : Nat} {v : V} {σ' : List Ob}, core (evf fns n) n kp af args σ lo tr = some (v, σ') → Args g w Pr args vs → Calls P (fnOf f) vs w (Answer g w Pr d v σ') :=
        fun h hargs => core_sound hm (evf_sound hm hfns n) (evf_entered hfns n) hchk h hI hargs
      cases hs : (af.split && isEmp args) with
      | false =>
        rw [hs] at h
        exact hgo h hargs
      | true =>
        rw [hs] at h
        simp only [cond_true] at h
        split at h
        case h_2 => cases h
        rename_i v1 σ1 v2 σ2 h1 h2
        split at h
        case isFalse => cases h
        rename_i hsame
        cases h
        have hv := V.same_eq hsame
        subst hv
        have e1 := (core_keep (evf_keep fns n) h1).2 rfl
        have e2 := (core_keep (evf_keep fns n) h2).2 rfl
        subst e1
        subst e2
        simp only [Bool.and_eq_true] at hs
        have hemp := hs.2
        unfold isEmp at hemp
        split at hemp
        case h_2 => cases hemp
        obtain ⟨a1, a2⟩ := hargs
        obtain ⟨_, u, a3, a4⟩ := a2 0 _ rfl
        have hone : ∀ x : B, RepB g w x u → (V.c (.b x)).down = .c (.b x) → Args g w Pr [.c (.b x)] vs := by
          intro x hx hd
          refine ⟨a1, fun i y hi => ?_⟩
          cases i with
          | zero => simp at hi; subst hi; exact ⟨hd, u, a3, hx⟩
          | succ i => simp at hi
        have a5 : RepD (g.st w) (.sl []) u := a4
        generalize hl : (D.sl []) = dd at a5
        cases a5 with
        | nil => exact hgo h1 (hone .nils rfl rfl)
        | sl rows ad k cap vs' q1 q2 =>
          cases hl
          exact hgo h2 (hone .emp ⟨ad, cap, rfl⟩ rfl)
        | _ => cases hl
    cases hb : blindOk af args with
    | false => rw [hb] at h; exact hbase h hI hargs
    | true =>
      rw [hb] at h
      simp only [cond_true] at h
      split at h
      case h_2 => cases h
      rename_i v0 σ0 h0
      split at h
      case isFalse => cases h
      rename_i hvc
      cases h
      simp only [blindOk, Bool.and_eq_true] at hb
      have hargs' : Args g.blind w (Old w) args vs := by
        refine ⟨hargs.1, fun i x hi => ?_⟩
        obtain ⟨m1, u, m2, m3⟩ := hargs.2 i x hi
        have hd : RepV g w (fun _ => True) (.tmp i) x u := RepV.any_pr m3 m1
        exact ⟨m1, u, m2, RepV.blind (fun x v h => blind_st.2 h) (fun _ _ _ _ _ h => absurd trivial h) (List.all_eq_true.1 hb.2 x (List.mem_of_getElem? hi)) hd⟩
      have hI' : Inv g w Pr (St.mk [] σ).σ := hI
      have hE' : EnvOk g w Pr (St.mk [] σ).env { tmps := #[], defers := [] } := fun t => trivial
      refine (hbase h0 (blind_inv hI') hargs').mono ?_
      intro e w' h
      obtain ⟨u, g', rfl, x0, x1, x2, x3, x4, x5⟩ := answer_blind hI' hE' hvc h
      exact ⟨u, g', rfl, x1, x2, x3, x5⟩
end
end Go.Proofs.Ytjkhkblabhaimaa.Am
