/- What a call may write: objects below its bound keep to themselves. -/
import Derived.Test.YtjkhkblabhaimaaAmFrz0
namespace Go.Proofs.Ytjkhkblabhaimaa.Am
set_option linter.unusedSimpArgs false
set_option linter.unusedVariables false
open Go
set_option linter.unusedVariables false

def Low (n : Nat) (σ : List Ob) : Prop := n ≤ σ.length ∧ ∀ (l : Nat) (o : Ob), l < n → σ[l]? = some o → o.closed n = true

/-- An oracle that keeps to the bound. -/
def LowF (F : Oracle) : Prop := ∀ f args σ lo tr v σ', F f args σ lo tr = some (v, σ') → ∀ m, m ≤ tr → Low m σ → Low m σ' ∧ σ.length ≤ σ'.length

theorem plain_closed {n : Nat} {c : C} (h : c.plain = true) : c.closed n = true := by
  cases c with
  | b x => cases x <;> simp_all [C.plain, C.closed, B.closed]
  | _ => simp_all [C.plain]

theorem down_closed {n : Nat} {c : C} (h : c.closed n = true) : c.down.closed n = true := by cases c <;> simp_all [C.down, C.closed, B.closed]

theorem Low.push {n : Nat} {σ : List Ob} (h : Low n σ) (o : Ob) : Low n (σ ++ [o]) ∧ σ.length ≤ (σ ++ [o]).length := by
  refine ⟨⟨by have := h.1; simp; omega, fun l x hl hx => ?_⟩, by simp⟩
  rw [List.getElem?_append_left (by have := h.1; omega)] at hx
  exact h.2 l x hl hx

theorem Low.set {n : Nat} {σ : List Ob} (h : Low n σ) {l : Nat} {o : Ob} (ho : l < n → o.closed n = true) : Low n (σ.set l o) ∧ σ.length ≤ (σ.set l o).length := by
  refine ⟨⟨by simpa using h.1, fun m x hm hx => ?_⟩, by simp⟩
  rw [List.getElem?_set] at hx
  split at hx
  · subst_vars
    split at hx
    · cases hx; exact ho hm
    · cases hx
  · exact h.2 m x hm hx

theorem Low.refl {n : Nat} {σ : List Ob} (h : Low n σ) : Low n σ ∧ σ.length ≤ σ.length := ⟨h, Nat.le_refl _⟩

theorem getCells_some {σ : List Ob} {l : Nat} {cs : List C} (h : getCells σ l = some cs) : σ[l]? = some (.cells cs) := by
  unfold getCells at h
  split at h
  · rename_i h'; cases h; exact h'
  · cases h

theorem mayWrite_low {bd : Bd} {l : Nat} {cs : List C} (h : mayWrite bd l cs = true) (hl : l < bd.tr) : ∀ c ∈ cs, c.plain = true := by
  simp only [mayWrite, Bool.and_eq_true, Bool.or_eq_true, decide_eq_true_eq, List.all_eq_true] at h
  rcases h.2 with h | h
  · omega
  · exact h

theorem cells_closed {n : Nat} {v : V} {cs : List C} (hc : v.cells = some cs) (h : ∀ c ∈ cs, c.closed n = true) : v.closed1 n = true := by
  cases v with
  | c x =>
    have : cs = [x] := by
      cases x with
      | b y => cases y <;> simp_all [V.cells]
      | _ => simp_all [V.cells]
    subst this
    simpa [V.closed1] using h x
  | agg ys =>
    simp only [V.cells, Option.some.injEq] at hc
    subst hc
    simpa [V.closed1, List.all_eq_true] using h
  | tup vs => simp [V.cells] at hc

theorem took_σ (s : St) (x : Opd) : (s.took x).σ = s.σ := by cases x <;> rfl

theorem step_low {F : Oracle} {bd : Bd} (hF : LowF F) {m : Nat} (hm : m ≤ bd.tr) {s s' : St} {op : AOp} {v : V} (h : stepOp F bd s op = some (v, s')) (hl : Low m s.σ) : Low m s'.σ ∧ s.σ.length ≤ s'.σ.length := by
  cases op with
  | mov md x =>
    cases md <;> simp only [stepOp] at h
    · cases h; exact hl.refl
    · cases h; rw [took_σ]; exact hl.refl
    · repeat' split at h
      all_goals cases h
      · exact hl.set (fun _ => rfl)
      · exact hl.refl
      · exact hl.refl
    · repeat' split at h
      all_goals cases h
      all_goals exact hl.refl
  | pick c a b =>
    simp only [stepOp] at h
    split at h
    · cases h; exact hl.refl
    · cases h
  | alloc zs => simp only [stepOp] at h; cases h; exact hl.push _
  | box x =>
    simp only [stepOp] at h
    split at h
    · cases h; exact hl.push _
    · cases h
  | build zs ps =>
    simp only [stepOp] at h
    split at h
    · cases h; exact hl.refl
    · cases h
  | bsl md k n zs ps =>
    simp only [stepOp] at h
    split at h
    case h_2 => cases h
    cases md <;> simp only at h
    · cases h
    · split at h
      · cases h; exact hl.refl
      · cases h
    · cases h
    · cases h; exact hl.push _
  | ld md n x =>
    cases md
    · simp only [stepOp] at h
      split at h
      · split at h
        case h_2 => cases h
        cases n <;> simp only at h
        · split at h
          · cases h; exact hl.refl
          · cases h
        · split at h
          · cases h; exact hl.refl
          · cases h
      · cases n <;> simp only at h
        · split at h
          · cases h; exact hl.refl
          · cases h
        · split at h
          · cases h; exact hl.refl
          · cases h
      · cases h
    · cases n <;> simp only [stepOp] at h
      · split at h
        case h_2 => cases h
        rename_i l off hr
        split at h
        case h_2 => cases h
        rename_i cs hcs
        split at h
        case h_2 => cases h
        rename_i c hc
        split at h
        case isFalse => cases h
        cases h
        refine hl.set (fun hlt => ?_)
        have h0 := hl.2 _ _ hlt (getCells_some hcs)
        simp only [Ob.closed, List.all_eq_true] at h0 ⊢
        intro x hx
        rcases List.mem_or_eq_of_mem_set hx with hx | rfl
        · exact h0 x hx
        · exact down_closed (h0 _ (List.mem_of_getElem? hc))
      · cases h
    · cases n with
      | some n => simp only [stepOp] at h; cases h
      | none =>
        simp only [stepOp] at h
        split at h
        case h_2 => cases h
        split at h
        case h_2 => cases h
        split at h
        case h_2 => cases h
        split at h
        case h_2 => cases h
        split at h
        case isFalse => cases h
        cases h
        refine ⟨⟨by rw [killAll_len]; exact hl.1, fun l o hlt ho => ?_⟩, by rw [killAll_len]; exact Nat.le_refl _⟩
        rw [killAll_get] at ho
        split at ho
        · cases ho; rfl
        · exact hl.2 l o hlt ho
    · simp only [stepOp] at h; cases h
  | st n a x =>
    simp only [stepOp] at h
    split at h
    case h_2 => cases h
    split at h
    case isFalse => cases h
    split at h
    case h_2 => cases h
    rename_i zs hzs
    split at h
    case h_2 => cases h
    rename_i zs' hput
    split at h
    case isFalse => cases h
    rename_i hw
    cases h
    refine hl.set (fun hlt => ?_)
    have h0 := hl.2 _ _ hlt (getCells_some hzs)
    have h1 := mayWrite_low hw (by omega)
    simp only [Ob.closed, List.all_eq_true] at h0 ⊢
    unfold putAt at hput
    split at hput
    case isFalse => cases hput
    cases hput
    intro c hc
    rcases List.mem_append.mp hc with hc | hc
    · rcases List.mem_append.mp hc with hc | hc
      · exact h0 c (List.mem_of_mem_take hc)
      · exact plain_closed (h1 c hc)
    · exact h0 c (List.mem_of_mem_drop hc)
  | bin op x y => simp only [stepOp] at h; split at h <;> cases h; exact hl.refl
  | eq neg kd ks x y => simp only [stepOp] at h; split at h <;> cases h; exact hl.refl
  | un op x => simp only [stepOp] at h; split at h <;> cases h; exact hl.refl
  | conv k x => simp only [stepOp] at h; split at h <;> cases h; exact hl.refl
  | fa off x => simp only [stepOp] at h; split at h <;> cases h <;> exact hl.refl
  | fld off n x =>
    simp only [stepOp] at h
    split at h
    case h_2 => cases h
    cases n <;> simp only at h <;> split at h <;> cases h <;> exact hl.refl
  | ia k x i =>
    simp only [stepOp] at h
    split at h
    case h_2 => cases h
    split at h
    case isFalse => cases h
    split at h
    · split at h
      case h_2 => cases h
      split at h <;> cases h
      exact hl.refl
    · split at h <;> cases h
      exact hl.refl
    · cases h
  | ixs x i =>
    simp only [stepOp] at h
    split at h
    case h_2 => cases h
    split at h
    case isFalse => cases h
    split at h <;> cases h
    exact hl.refl
  | slc md k x lo hi =>
    simp only [stepOp] at h
    split at h
    case h_2 => cases h
    split at h
    case isFalse => cases h
    cases md <;> simp only at h
    · split at h
      · split at h
        case h_2 => cases h
        split at h <;> cases h
        exact hl.refl
      · split at h
        case h_2 => cases h
        split at h <;> cases h
        exact hl.refl
      · cases h
    · split at h
      case h_2 => cases h
      split at h <;> cases h
      rw [took_σ]; exact hl.refl
    · cases h
    · cases h
  | slcs x lo hi =>
    simp only [stepOp] at h
    split at h
    case h_2 => cases h
    split at h
    case h_2 => cases h
    split at h <;> cases h
    exact hl.refl
  | mks md k bytes zs len cap =>
    simp only [stepOp] at h
    split at h
    case h_2 => cases h
    split at h
    case isFalse => cases h
    cases md <;> simp only at h
    · cases h
    · split at h <;> cases h
      exact hl.refl
    · cases h
    · cases h; exact hl.push _
  | ext i x =>
    simp only [stepOp] at h
    split at h
    case h_2 => cases h
    split at h
    case h_2 => cases h
    cases x <;> simp only at h
    · cases h; exact hl.refl
    · cases h
  | len kd x =>
    simp only [stepOp] at h
    repeat' split at h
    all_goals cases h
    all_goals exact hl.refl
  | app k bytes x y =>
    simp only [stepOp] at h
    split at h
    case h_2 => cases h
    split at h
    case isFalse => cases h
    split at h
    case h_2 => cases h
    split at h <;> cases h
    rw [took_σ]; exact hl.refl
  | call f args =>
    simp only [stepOp] at h
    split at h
    case h_2 => cases h
    rename_i hf
    cases h
    exact hF _ _ _ _ _ _ _ hf _ hm hl
  | callp f args =>
    simp only [stepOp] at h
    split at h
    case h_2 => cases h
    rename_i hf
    split at h
    · cases h; exact hF _ _ _ _ _ _ _ hf _ (by omega) hl
    · cases h
  | callb f args =>
    simp only [stepOp] at h
    repeat' split at h
    all_goals cases h
    exact hl.refl
  | bad => simp [stepOp] at h
  | appa k bytes x y =>
    simp only [stepOp] at h
    repeat' split at h
    all_goals cases h
    · exact hl.refl
    · exact hl.push _
    · obtain ⟨h1, h2⟩ := hl.set (l := _) (o := Ob.dead) (fun _ => rfl)
      obtain ⟨h3, h4⟩ := h1.push (Ob.cells _)
      exact ⟨h3, Nat.le_trans h2 h4⟩
  | cpy k x y =>
    simp only [stepOp] at h
    split at h
    case h_2 => cases h
    rename_i n ys hys
    split at h
    case h_2 => cases h
    split at h
    case h_2 => cases h
    rename_i zs hzs
    split at h
    case h_2 => cases h
    rename_i zs' hput
    split at h
    case isFalse => cases h
    rename_i hc
    cases h
    refine hl.set (fun hlt => ?_)
    have hpl := mayWrite_low hc.2
    simp only [Ob.closed, List.all_eq_true]
    intro c hc'
    obtain ⟨i, hi, rfl⟩ := List.mem_iff_getElem.mp hc'
    rcases (putAt_get hput).2.2 i zs'[i] (by simp [hi]) with ⟨_, r⟩ | ⟨_, r⟩
    · exact plain_closed (hpl (by omega) _ (List.mem_of_getElem? r))
    · have := hl.2 _ _ hlt (getCells_some hzs)
      simp only [Ob.closed, List.all_eq_true] at this
      exact this _ (List.mem_of_getElem? r)
  | mm mx x y =>
    simp only [stepOp] at h
    repeat' split at h
    all_goals cases h
    all_goals exact hl.refl
  | callv x args =>
    simp only [stepOp] at h
    split at h
    case h_2 => cases h
    split at h
    case h_2 => cases h
    rename_i hf
    cases h
    exact hF _ _ _ _ _ _ _ hf _ hm hl
  | mkf f fst cap => simp only [stepOp] at h; split at h <;> cases h; exact hl.refl
  | mkm => simp only [stepOp] at h; cases h; exact hl.push _
  | lkp ks zs ok x key =>
    simp only [stepOp] at h
    split at h
    case h_2 => cases h
    split at h
    case h_2 => cases h
    cases h
    exact hl.refl
  | upd ks x key v =>
    simp only [stepOp] at h
    split at h
    case h_2 => cases h
    rename_i l kc cs hx hkc hcs
    split at h
    case h_2 => cases h
    rename_i es hes
    split at h
    case isFalse => cases h
    rename_i hw
    simp only [Bool.and_eq_true] at hw
    have hent : l < m → (s.rd key).closed1 m = true ∧ (s.rd v).closed1 m = true := by
      intro hlt
      have h1 := mayWrite_low hw.1 (by omega)
      exact ⟨cells_closed hkc (fun c hc => plain_closed (h1 c (List.mem_append.mpr (.inl hc)))), cells_closed hcs (fun c hc => plain_closed (h1 c (List.mem_append.mpr (.inr hc))))⟩
    split at h
    · cases h
      refine hl.set (fun hlt => ?_)
      have h0 := hl.2 _ _ hlt hes
      obtain ⟨e1, e2⟩ := hent hlt
      simp only [Ob.closed, List.all_eq_true, Bool.and_eq_true] at h0 ⊢
      intro x hx
      rcases List.mem_or_eq_of_mem_set hx with hx | rfl
      · exact h0 x hx
      · exact ⟨e1, e2⟩
    · cases h
      refine hl.set (fun hlt => ?_)
      have h0 := hl.2 _ _ hlt hes
      obtain ⟨e1, e2⟩ := hent hlt
      simp only [Ob.closed, List.all_eq_true, Bool.and_eq_true] at h0 ⊢
      intro x hx
      rcases List.mem_append.mp hx with hx | hx
      · exact h0 x hx
      · simp at hx; subst hx; exact ⟨e1, e2⟩
    · cases h

theorem set_σ (s : St) (d : Option Nat) (v : V) : (s.set d v).σ = s.σ := by cases d <;> rfl

theorem ins_low {F : Oracle} {bd : Bd} (hF : LowF F) {m : Nat} (hm : m ≤ bd.tr) {s s' : St} {i : AIns} (h : stepIns F bd s i = some s') (hl : Low m s.σ) : Low m s'.σ ∧ s.σ.length ≤ s'.σ.length := by
  unfold stepIns at h
  split at h
  · split at h
    · rename_i v s1 hs1; cases h; rw [set_σ]; exact step_low hF hm hs1 hl
    · cases h
  · split at h
    case h_2 => cases h
    rename_i gg want hg _ t ht
    cases hw : (t == want) <;> rw [hw] at h <;> simp only [cond_true, cond_false] at h
    · cases h; rw [set_σ]; exact hl.refl
    · split at h
      · rename_i v s1 hs1; cases h; rw [set_σ]; exact step_low hF hm hs1 hl
      · cases h

theorem all_low {F : Oracle} {bd : Bd} (hF : LowF F) {m : Nat} (hm : m ≤ bd.tr) : ∀ {is : List AIns} {s s' : St}, stepAll F bd s is = some s' → Low m s.σ → Low m s'.σ ∧ s.σ.length ≤ s'.σ.length
  | [], s, s', h, hl => by simp only [stepAll, Option.some.injEq] at h; subst h; exact hl.refl
  | i :: is, s, s', h, hl => by
    simp only [stepAll] at h
    split at h
    · rename_i s1 hs1
      obtain ⟨a1, a2⟩ := ins_low hF hm hs1 hl
      obtain ⟨b1, b2⟩ := all_low hF hm h a1
      exact ⟨b1, Nat.le_trans a2 b2⟩
    · cases h

theorem wrapEnd_σ {cut : Bool} {nrm ret : List Nat} {exs : List (Nat × List Nat)} {m : Nat} {e e' : AExit} {s s' : St} (h : wrapEnd cut nrm ret exs m e s = some (e', s')) :
    (s'.σ = s.σ ∧ e' = e) ∨ (s'.σ = s.σ.take m ∧ m ≤ s.σ.length ∧ e' = e) := by
  unfold wrapEnd at h
  cases cut with
  | false => simp only [cond_false, Option.some.injEq, Prod.mk.injEq] at h; obtain ⟨rfl, rfl⟩ := h; exact .inl ⟨rfl, rfl⟩
  | true =>
    simp only [cond_true] at h
    split at h
    · rename_i hc
      simp only [Option.some.injEq, Prod.mk.injEq] at h
      obtain ⟨rfl, rfl⟩ := h
      simp only [Bool.and_eq_true] at hc
      exact .inr ⟨rfl, Nat.le_of_ble_eq_true hc.1, rfl⟩
    · cases h

theorem Low.take {n m : Nat} {σ : List Ob} (h : Low n σ) (hn : n ≤ m) (hm : m ≤ σ.length) : Low n (σ.take m) ∧ m ≤ (σ.take m).length := by
  have hl : (σ.take m).length = m := by simp; omega
  refine ⟨⟨by omega, fun l o hlt ho => ?_⟩, by omega⟩
  rw [List.getElem?_take] at ho
  split at ho
  · exact h.2 l o hlt ho
  · cases ho

theorem ev_low {F : Oracle} {bd : Bd} (hF : LowF F) {m : Nat} (hm : m ≤ bd.tr) : ∀ (n : Nat) (c : ACode) (s : St) (e : AExit) (s' : St), ev F bd n c s = some (e, s') → Low m s.σ → Low m s'.σ ∧ s.σ.length ≤ s'.σ.length
  | 0, _, _, _, _, h, _ => by simp [ev] at h
  | n + 1, c, s, e, s', h, hl => by
    have ih := ev_low (bd := bd) hF hm n
    have two : ∀ {c1 : ACode} {r : Option (AExit × St)} {k : St → Option (AExit × St)}, (match ev F bd n c1 s with | some (.normal, s1) => k s1 | r => r) = some (e, s') →
        (∀ s1, k s1 = some (e, s') → Low m s1.σ → Low m s'.σ ∧ s1.σ.length ≤ s'.σ.length) → Low m s'.σ ∧ s.σ.length ≤ s'.σ.length := by
      intro c1 r k h hk
      cases hx : ev F bd n c1 s with
      | none => rw [hx] at h; cases h
      | some r =>
        obtain ⟨e1, s1⟩ := r
        rw [hx] at h
        obtain ⟨a1, a2⟩ := ih _ _ _ _ hx hl
        cases e1 with
        | normal =>
          obtain ⟨b1, b2⟩ := hk s1 h a1
          exact ⟨b1, Nat.le_trans a2 b2⟩
        | exit i => cases h; exact ⟨a1, a2⟩
        | ret => cases h; exact ⟨a1, a2⟩
    cases c with
    | skip => simp only [ev, Option.some.injEq, Prod.mk.injEq] at h; obtain ⟨_, rfl⟩ := h; exact hl.refl
    | region d ops keep =>
      simp only [ev] at h
      split at h
      · rename_i s1 hs1
        simp only [Option.some.injEq, Prod.mk.injEq] at h
        obtain ⟨_, rfl⟩ := h
        have hh := all_low hF hm hs1 hl
        exact hh
      · cases h
    | seq a b => simp only [ev] at h; exact two (r := none) h (fun s1 h1 hl1 => ih _ _ _ _ h1 hl1)
    | cond x a b =>
      simp only [ev] at h
      split at h
      · rename_i t ht
        cases t
        · exact ih _ _ _ _ h hl
        · exact ih _ _ _ _ h hl
      · cases h
    | block i c =>
      simp only [ev] at h
      cases hx : ev F bd n c s with
      | none => rw [hx] at h; cases h
      | some r =>
        obtain ⟨e1, s1⟩ := r
        rw [hx] at h
        have hh := ih _ _ _ _ hx hl
        cases e1 with
        | normal => cases h; exact hh
        | ret => cases h; exact hh
        | exit j => simp only at h; split at h <;> cases h <;> exact hh
    | loop c => simp only [ev] at h; exact two (r := none) h (fun s1 h1 hl1 => ih _ _ _ _ h1 hl1)
    | exit i => simp only [ev, Option.some.injEq, Prod.mk.injEq] at h; obtain ⟨_, rfl⟩ := h; exact hl.refl
    | ret => simp only [ev, Option.some.injEq, Prod.mk.injEq] at h; obtain ⟨_, rfl⟩ := h; exact hl.refl
    | wrap cut nrm ret exs c =>
      simp only [ev] at h
      cases hx : ev F bd n c s with
      | none => rw [hx] at h; cases h
      | some r =>
        obtain ⟨e1, s1⟩ := r
        rw [hx] at h
        have hh := ih _ _ _ _ hx hl
        rcases wrapEnd_σ h with ⟨h1, _⟩ | ⟨h1, h2, _⟩
        · rw [h1]; exact hh
        · rw [h1]; exact hh.1.take hl.1 h2
end Go.Proofs.Ytjkhkblabhaimaa.Am
