/- Regions that draw their order: the proof. -/
import Derived.Test.YtjkhkblabhaimaaAmDraw2
namespace Go.Proofs.Ytjkhkblabhaimaa.Am
open Go
set_option linter.unusedVariables false
set_option linter.unusedSimpArgs false

abbrev Ld (listed : Array Bool) (j : Nat) : Prop := listed.getD j false = true

theorem ld_set {listed : Array Bool} {i j : Nat} (hi : i < listed.size) : Ld (listed.setIfInBounds i true) j ↔ (j = i ∨ Ld listed j) := by
  unfold Ld
  simp only [Array.getD_eq_getD_getElem?]
  by_cases h : j = i
  · subst h; simp [hi]
  · rw [Array.getElem?_setIfInBounds_ne (fun e => h e.symm)]; simp [h]

def Closed (ops : Array Oper) (listed : Array Bool) : Prop := ∀ (k : Nat) (o : Oper) (e : Edge), Ld listed k → ops[k]? = some o → e ∈ o.after → Region.binds .any e = true → Ld listed e.on

theorem waits_ld {ops : Array Oper} {listed : Array Bool} (hc : Closed ops listed) {k j : Nat} (h : Waits ops k j) : (∀ (o : Oper) (e : Edge), ops[k]? = some o → e ∈ o.after → Region.binds .any e = true → Ld listed e.on) → Ld listed j := by
  induction h with
  | edge h1 h2 h3 => exact fun h => h _ _ h1 h2 h3
  | step h1 h2 h3 _ ih => exact fun h => ih fun o e a b c => hc _ o e (h _ _ h1 h2 h3) a b c

theorem cnt_set : ∀ (l : List Bool) (i : Nat), l[i]? = some false → (l.set i true).count false + 1 = l.count false
  | [], i, h => by simp at h
  | b :: l, 0, h => by simp at h; subst h; simp
  | b :: l, i + 1, h => by
    have := cnt_set l i (by simpa using h)
    simp only [List.set_cons_succ, List.count_cons]
    omega

theorem ready_nil {ops : Array Oper} {is : List AIns} {p h1 h2 c : Nat} (hd : Dr ops is p h1 h2 c) {listed : Array Bool} (hsz : listed.size = ops.size) (h : Region.ready .any ops listed = []) : ∀ k, k < ops.size → Ld listed k := by
  intro k
  induction k using Nat.strongRecOn with
  | _ k ih =>
    intro hk
    refine Decidable.byContradiction fun hn => ?_
    have : k ∈ Region.ready .any ops listed := by
      rw [mem_ready]
      refine ⟨?_, ops[k], by simp [hk], fun e he hb => ih _ (hd.back k ops[k] e (by simp [hk]) he hb) (by have := hd.back k ops[k] e (by simp [hk]) he hb; omega)⟩
      unfold Ld at hn
      simp only [Array.getD_eq_getD_getElem?] at hn ⊢
      have : k < listed.size := by omega
      simp only [this, getElem?_pos, Option.getD_some] at hn ⊢
      simpa using hn
    rw [h] at this
    cases this

section
variable {P : Program} {N : Nat} {F : Oracle} {bd : Bd} {ops : Array Oper} {is : List AIns} {p h1 h2 c : Nat} {S : Nat → St} {g0 : G} {w0 : World} {Pr : Nat → Prop}

def Writes (is : List AIns) (k t : Nat) : Prop := ∃ i, is[k]? = some i ∧ t ∈ i.writes

/-- The text's states. -/
def Text (F : Oracle) (bd : Bd) (is : List AIns) (S : Nat → St) : Prop := ∀ (k : Nat) (i : AIns), is[k]? = some i → stepIns F bd (S k) i = some (S (k + 1))

theorem text_of : ∀ (is : List AIns) (s s' : St), stepAll F bd s is = some s' → ∃ S, S 0 = s ∧ S is.length = s' ∧ Text F bd is S
  | [], s, s', h => by
    simp only [stepAll, Option.some.injEq] at h
    exact ⟨fun _ => s, rfl, h, fun k i hk => by simp at hk⟩
  | i :: is, s, s', h => by
    simp only [stepAll] at h
    split at h
    case h_2 => cases h
    rename_i s1 hs1
    obtain ⟨S, e1, e2, e3⟩ := text_of is s1 s' h
    refine ⟨fun | 0 => s | k + 1 => S k, rfl, e2, ?_⟩
    intro k x hk
    cases k with
    | zero => simp at hk; subst hk; simp only [e1]; exact hs1
    | succ k => exact e3 k x (by simpa using hk)

theorem head_keeps {i : AIns} {s s1 : St} {k : Nat} (hK : KeepF F) (hh : headOp i.op = true ∨ (k = c ∧ headCall i.op = true)) (h : stepIns F bd s i = some s1) : ∀ t, t ∉ i.writes → s1.env.get t = s.env.get t := by
  rcases hh with hh | ⟨_, hh⟩
  · exact (ins_same (s2 := s) hh (fun _ _ _ _ _ _ h => h) (fun _ _ => rfl) h).2.1
  · exact (call_same (s2 := s) hK hh rfl (fun _ _ => rfl) h).2.2.1

theorem text_lo (hK : KeepF F) (hd : Dr ops is p h1 h2 c) (hl : is.length = ops.size) (hS : Text F bd is S) : ∀ k, k ≤ h1 → k ≤ c → (S k).σ = (S 0).σ
  | 0, _, _ => rfl
  | k + 1, hk, hkc => by
    have hlt : k < is.length := by have := hd.le1; have := hd.le2; omega
    have hi : is[k]? = some is[k] := by simp [hlt]
    have hh := (hd.head k _ (by omega) hi).resolve_right (by omega)
    rw [(ins_same (s2 := S k) hh (fun _ _ _ _ _ _ h => h) (fun _ _ => rfl) (hS k _ hi)).1]
    exact text_lo hK hd hl hS k (by omega) (by omega)

theorem text_hi (hK : KeepF F) (hd : Dr ops is p h1 h2 c) (hl : is.length = ops.size) (hS : Text F bd is S) : ∀ n, c + 1 + n ≤ h1 → (S (c + 1 + n)).σ = (S (c + 1)).σ
  | 0, _ => rfl
  | n + 1, hk => by
    have hlt : c + 1 + n < is.length := by have := hd.le1; have := hd.le2; omega
    have hi : is[c + 1 + n]? = some is[c + 1 + n] := by simp [hlt]
    have hh := (hd.head (c + 1 + n) _ (by omega) hi).resolve_right (by omega)
    rw [show c + 1 + (n + 1) = c + 1 + n + 1 by omega, (ins_same (s2 := S (c + 1 + n)) hh (fun _ _ _ _ _ _ h => h) (fun _ _ => rfl) (hS _ _ hi)).1]
    exact text_hi hK hd hl hS n (by omega)

theorem text_hi' (hK : KeepF F) (hd : Dr ops is p h1 h2 c) (hl : is.length = ops.size) (hS : Text F bd is S) {k : Nat} (hk : k ≤ h1) (hc : c < k) : (S k).σ = (S (c + 1)).σ := by
  have := text_hi hK hd hl hS (k - (c + 1)) (by omega)
  rwa [show c + 1 + (k - (c + 1)) = k by omega] at this

theorem text_ext (hK : KeepF F) (hd : Dr ops is p h1 h2 c) (hl : is.length = ops.size) (hS : Text F bd is S) (hc : c < h1) : ∀ l, l < (S 0).σ.length → (S (c + 1)).σ[l]? = (S 0).σ[l]? := by
  have hlt : c < is.length := by have := hd.le1; have := hd.le2; omega
  have hi : is[c]? = some is[c] := by simp [hlt]
  have h0 := text_lo hK hd hl hS c (by omega) (Nat.le_refl _)
  intro l hll
  rcases hd.head c _ hc hi with hh | ⟨_, hh⟩
  · rw [(ins_same (s2 := S c) hh (fun _ _ _ _ _ _ h => h) (fun _ _ => rfl) (hS _ _ hi)).1, h0]
  · rw [(call_same (s2 := S c) hK hh rfl (fun _ _ => rfl) (hS _ _ hi)).2.1 l (by rw [h0]; exact hll), h0]

theorem text_env (hK : KeepF F) (hd : Dr ops is p h1 h2 c) (hl : is.length = ops.size) (hS : Text F bd is S) {t a : Nat} : ∀ b, a ≤ b → b ≤ h1 → (∀ j, a ≤ j → j < b → ¬ Writes is j t) → (S b).env.get t = (S a).env.get t
  | b, hab, hb, hw => by
    rcases Nat.lt_or_ge a b with hlt | hge
    · obtain ⟨e, rfl⟩ : ∃ e, b = e + 1 := ⟨b - 1, by omega⟩
      have hlt' : e < is.length := by have := hd.le1; have := hd.le2; omega
      have hi : is[e]? = some is[e] := by simp [hlt']
      rw [head_keeps hK (hd.head e _ (by omega) hi) (hS e _ hi) t (fun h => hw e (by omega) (by omega) ⟨_, hi, h⟩)]
      exact text_env hK hd hl hS e (by omega) (by omega) (fun j x y => hw j x (by omega))
    · have : a = b := by omega
      subst this; rfl

/-- The objects, somewhere in the head: the call's are there or are not. -/
def Fits (S : Nat → St) (c h1 : Nat) (listed : Array Bool) (σ : List Ob) : Prop := (c < h1 → Ld listed c → σ = (S (c + 1)).σ) ∧ (¬ (c < h1 ∧ Ld listed c) → σ = (S 0).σ)

/-- A block that was drawn for the k-th instruction. -/
structure Drawn (is : List AIns) (h1 h2 : Nat) (g : G) (w0 w : World) (a : Act) (k b : Nat) : Prop where
  lo : h1 ≤ k
  hi : k < h2
  free : g.kind b = .free
  new : w0.heap.size ≤ b
  ins : ∃ d zs arr ty, is[k]? = some ⟨some d, .alloc zs, none⟩ ∧ a.tmps.getD d undef = .pointer (some ⟨b, 0, none⟩) ∧ w.heap[b]? = some (.cells arr ty (0, 0)) ∧ zs.length ≤ arr.size ∧
    ∀ (i : Nat) (c : C), zs[i]? = some c → ∃ u, arr[i]? = some u ∧ u.oneCell' = true ∧ ∀ g w Pr p, RepC g w Pr p c u

/-- Somewhere in the head. -/
structure Head (P : Program) (N : Nat) (ops : Array Oper) (is : List AIns) (p h1 h2 c : Nat) (S : Nat → St) (g0 : G) (w0 : World) (Pr : Nat → Prop) (listed : Array Bool) (a : Act) (w : World)
    (g : G) (sc : St) (blk : Nat → Option Nat) : Prop where
  closed : Closed ops listed
  pre : ∀ j, j < p → Ld listed j
  none : ∀ k, h2 ≤ k → ¬ Ld listed k
  ext : Ext g0 w0 g w
  fr : Fr Pr g0 w0 g w
  inv : InvA N g w (fun b => Pr b ∨ ∃ k, blk k = some b) sc a
  σ : Fits S c h1 listed sc.σ
  env : ∀ t, (∀ (k : Nat) (i : AIns), h1 ≤ k → k < h2 → is[k]? = some i → i.dst ≠ some t) →
    (∃ k, k < h1 ∧ Ld listed k ∧ Writes is k t ∧ (∀ j, j < h1 → Ld listed j → Writes is j t → j ≤ k) ∧ sc.env.get t = (S (k + 1)).env.get t) ∨
    ((∀ j, j < h1 → Ld listed j → ¬ Writes is j t) ∧ sc.env.get t = (S 0).env.get t)
  pend : ∀ k b, blk k = some b → Drawn is h1 h2 g w0 w a k b
  all : ∀ k, h1 ≤ k → k < h2 → Ld listed k → ∃ b, blk k = some b
  inj : ∀ k k' b, blk k = some b → blk k' = some b → k = k'

/-- Behind the head: the text's order. -/
def Tail (N : Nat) (ops : Array Oper) (h2 : Nat) (S : Nat → St) (g0 : G) (w0 : World) (Pr : Nat → Prop) (listed : Array Bool) (a : Act) (w : World) (n : Nat) : Prop :=
  h2 ≤ n ∧ n ≤ ops.size ∧ (∀ j, Ld listed j ↔ j < n) ∧ Behind N g0 w0 Pr (S n) a w

theorem alloc_step {bd : Bd} {s s' : St} {d : Nat} {zs : List C} (h : stepIns F bd s ⟨some d, .alloc zs, none⟩ = some s') : s' = ⟨(d, .c (.b (.ptr s.σ.length 0))) :: s.env, s.σ ++ [.cells zs]⟩ := by
  simp only [stepIns, stepOp, Option.some.injEq] at h
  rw [← h]; rfl

/-- The head is done. -/
theorem head_done (hK : KeepF F) (hd : Dr ops is p h1 h2 c) (hl : is.length = ops.size) (hS : Text F bd is S) (hpr0 : ∀ b, Pr b → b < w0.heap.size) {listed : Array Bool} (hsz : listed.size = ops.size) {a : Act} {w : World} {g : G} {sc : St} {blk : Nat → Option Nat}
    (hH : Head P N ops is p h1 h2 c S g0 w0 Pr listed a w g sc blk) (hall : ∀ k, k < h2 → Ld listed k) : Tail N ops h2 S g0 w0 Pr listed a w h2 := by
  have key : ∀ n, h1 + n ≤ h2 → ∃ g sc, Ext g0 w0 g w ∧ Fr Pr g0 w0 g w ∧ InvA N g w (fun b => Pr b ∨ ∃ k, h1 + n ≤ k ∧ blk k = some b) sc a ∧ sc.σ = (S (h1 + n)).σ ∧
      (∀ t, (∀ (k : Nat) (i : AIns), h1 + n ≤ k → k < h2 → is[k]? = some i → i.dst ≠ some t) → sc.env.get t = (S (h1 + n)).env.get t) ∧ (∀ k b, h1 + n ≤ k → blk k = some b → Drawn is h1 h2 g w0 w a k b) := by
    intro n
    induction n with
    | zero =>
      intro hle
      refine ⟨g, sc, hH.ext, hH.fr, hH.inv.less ?_, ?_, ?_, fun k b _ h => hH.pend k b h⟩
      · rintro b (h | ⟨k, _, h⟩)
        · exact .inl h
        · exact .inr ⟨k, h⟩
      · rw [Nat.add_zero]
        by_cases hc : c < h1
        · rw [hH.σ.1 hc (hall c (by have := hd.le1; omega)), text_hi' hK hd hl hS (Nat.le_refl _) hc]
        · rw [hH.σ.2 (fun h => hc h.1), text_lo hK hd hl hS h1 (Nat.le_refl _) (by omega)]
      · intro t ht
        simp only [Nat.add_zero] at ht ⊢
        rcases hH.env t ht with ⟨k, k1, k2, k3, k4, k5⟩ | ⟨k1, k2⟩
        · rw [k5]
          exact (text_env hK hd hl hS (t := t) (a := k + 1) h1 (by omega) (Nat.le_refl _) (fun j x y z => by have := k4 j y (hall j (by have := hd.le1; omega)) z; omega)).symm
        · rw [k2]
          exact (text_env hK hd hl hS (t := t) (a := 0) h1 (by omega) (Nat.le_refl _) (fun j x y z => k1 j y (hall j (by have := hd.le1; omega)) z)).symm
    | succ n ih =>
      intro hle
      obtain ⟨g, sc, x1, x2, x3, x4, x5, x6⟩ := ih (by omega)
      obtain ⟨b, hb⟩ := hH.all (h1 + n) (by omega) (by omega) (hall _ (by omega))
      have hD := x6 (h1 + n) b (Nat.le_refl _) hb
      obtain ⟨d, zs, arr, ty, y1, y2, y3, y4, y5⟩ := hD.ins
      have hst := alloc_step (hS _ _ y1)
      have hA := adopt_inv x3 hD.free y3 y4 (fun i c hi => by obtain ⟨u, z1, z2, z3⟩ := y5 i c hi; exact ⟨u, z1, z2, z3 _ _ _⟩) y2
      have hE : Ext g w (g.adopt b sc.σ.length) w := adopt_ext hD.free
      refine ⟨_, _, x1.trans hE, x2.trans ?_, hA.less ?_, ?_, ?_, ?_⟩
      · intro x hx
        have hne : x ≠ b := by have := hpr0 x hx; have := hD.new; omega
        exact ⟨rfl, by simp [G.adopt, G.withKind, G.withLoc, hne], rfl⟩
      · rintro x (hx | ⟨k, hk, hx⟩)
        · exact ⟨.inl hx, by have := hpr0 x hx; have := hD.new; omega⟩
        · refine ⟨.inr ⟨k, by omega, hx⟩, ?_⟩
          rintro rfl
          have := hH.inj _ _ _ hb hx
          omega
      · rw [show h1 + (n + 1) = h1 + n + 1 by omega, hst, ← x4]
      · intro t ht
        rw [show h1 + (n + 1) = h1 + n + 1 by omega, hst]
        show Env.get ((d, _) :: sc.env) t = Env.get ((d, _) :: _) t
        rw [env_get_cons, env_get_cons, x4]
        split
        · rfl
        · rename_i hne
          refine x5 t ?_
          intro k i hk1 hk2 hk3 hdst
          by_cases e : k = h1 + n
          · subst e; rw [y1] at hk3; cases hk3; simp only [Option.some.injEq] at hdst; exact hne hdst
          · exact ht k i (by omega) hk2 hk3 hdst
      · intro k b' hk hb'
        obtain ⟨z1, z2, z3, z4, z5⟩ := x6 k b' (by omega) hb'
        have hne : b' ≠ b := by
          rintro rfl
          have := hH.inj _ _ _ hb hb'
          omega
        exact ⟨z1, z2, by simpa [G.adopt, G.withKind, G.withLoc, hne] using z3, z4, z5⟩
  obtain ⟨g1, sc1, x1, x2, x3, x4, x5, x6⟩ := key (h2 - h1) (by have := hd.le1; omega)
  have e : h1 + (h2 - h1) = h2 := by have := hd.le1; omega
  rw [e] at x3 x4 x5 x6
  refine ⟨Nat.le_refl _, hd.le2, fun j => ⟨fun h => ?_, hall j⟩, g1, x1, x2, ?_⟩
  · exact Nat.lt_of_not_le fun h' => hH.none j h' h
  · have hA := x3.less (Pr2 := Pr) (fun b hb => .inl hb)
    refine ⟨by rw [← x4]; exact hA.inv, fun t => ?_, hA.size, hA.defers⟩
    rw [← x5 t (fun k i h3 h4 => by omega)]
    exact hA.env t

/-- What an instruction of the head finds. -/
theorem head_sees (hK : KeepF F) (hd : Dr ops is p h1 h2 c) (hl : is.length = ops.size) (hS : Text F bd is S) {listed : Array Bool} {a : Act} {w : World} {g : G} {sc : St} {blk : Nat → Option Nat}
    (hH : Head P N ops is p h1 h2 c S g0 w0 Pr listed a w g sc blk) {k : Nat} {i : AIns} (hk : k < h1) (hi : is[k]? = some i) (hun : ¬ Ld listed k)
    (hrd : ∀ (o : Oper) (e : Edge), ops[k]? = some o → e ∈ o.after → Region.binds .any e = true → Ld listed e.on) {t : Nat} (ht : t ∈ i.touch) : sc.env.get t = (S k).env.get t := by
  have hpk : p ≤ k := Nat.le_of_not_lt fun h => hun (hH.pre k h)
  have hbefore : ∀ j, j < k → Writes is j t → Ld listed j := fun j hj ⟨i', hi', hw⟩ => by
    rcases Nat.lt_or_ge j p with hp | hp
    · exact hH.pre j hp
    · exact waits_ld hH.closed (hd.order j k i' i hp hj hk hi' hi (.inl ⟨t, hw, ht⟩)) hrd
  have hafter : ∀ j, k < j → j < h1 → Writes is j t → ¬ Ld listed j := fun j hj hj1 ⟨i', hi', hw⟩ hld =>
    hun (waits_ld hH.closed (hd.order k j i i' hpk hj hj1 hi hi' (.inr ⟨t, hw, ht⟩)) (fun o e => hH.closed j o e hld))
  have hfresh : ∀ (k' : Nat) (i' : AIns), h1 ≤ k' → k' < h2 → is[k']? = some i' → i'.dst ≠ some t := by
    intro k' i' x y z hdst
    obtain ⟨d, zs, rfl, hf⟩ := hd.fresh k' i' x y z
    simp only [Option.some.injEq] at hdst
    subst hdst
    exact hf k i (by omega) (by omega) hi ht
  rcases hH.env t hfresh with ⟨j, j1, j2, j3, j4, j5⟩ | ⟨j1, j2⟩
  · have hjk : j < k := by
      rcases Nat.lt_trichotomy j k with h | h | h
      · exact h
      · subst h; exact absurd j2 hun
      · exact absurd j2 (hafter j h j1 j3)
    rw [j5]
    exact (text_env hK hd hl hS (t := t) (a := j + 1) k (by omega) (by omega) (fun x x1 x2 x3 => by have := j4 x (by omega) (hbefore x x2 x3) x3; omega)).symm
  · rw [j2]
    exact (text_env hK hd hl hS (t := t) (a := 0) k (by omega) (by omega) (fun x x1 x2 x3 => j1 x (by omega) (hbefore x x2 x3) x3)).symm

theorem put_other {a : Act} {d : Option Tmp} {u : Value} {t : Nat} (h : d ≠ some t) : (a.put d u).tmps.getD t undef = a.tmps.getD t undef := by
  cases d with
  | none => rfl
  | some d =>
    simp only [Act.put, Array.getD_eq_getD_getElem?]
    rw [Array.getElem?_setIfInBounds_ne (fun e => h (by rw [e]))]

theorem chkAll_get : ∀ {os : List Oper} {is : List AIns}, chkAll P N ops os is = true → is.length = os.length ∧ ∀ (k : Nat) (o : Oper) (i : AIns), os[k]? = some o → is[k]? = some i → chkIns P N ops o i = true
  | [], [], _ => ⟨rfl, fun k o i h => by simp at h⟩
  | [], _ :: _, h => by simp [chkAll] at h
  | _ :: _, [], h => by simp [chkAll] at h
  | o :: os, i :: is, h => by
    simp only [chkAll, Bool.and_eq_true] at h
    obtain ⟨h1, h2⟩ := chkAll_get h.2
    refine ⟨by simp [h1], fun k x y hx hy => ?_⟩
    cases k with
    | zero => simp at hx hy; subst hx hy; exact h.1
    | succ k => exact h2 k x y (by simpa using hx) (by simpa using hy)

/-- One instruction more of the head: not an allocation. -/
theorem head_more (hd : Dr ops is p h1 h2 c) (hl : is.length = ops.size) (hS : Text F bd is S) {listed : Array Bool} (hsz : listed.size = ops.size) {a : Act} {w : World} {g : G} {sc : St} {blk : Nat → Option Nat}
    (hH : Head P N ops is p h1 h2 c S g0 w0 Pr listed a w g sc blk) {k : Nat} {o : Oper} {i : AIns} (hk : k < h1) (ho : ops[k]? = some o) (hi : is[k]? = some i) (hun : ¬ Ld listed k)
    (hrd : ∀ (o : Oper) (e : Edge), ops[k]? = some o → e ∈ o.after → Region.binds .any e = true → Ld listed e.on) {s3 : St} (h3 : Fits S c h1 (listed.setIfInBounds k true) s3.σ)
    (hw : ∀ t ∈ i.writes, s3.env.get t = (S (k + 1)).env.get t) (hnw : ∀ t, t ∉ i.writes → s3.env.get t = sc.env.get t) {a' : Act} {w' : World} {u : Value} (ha' : a' = a.put i.dst u)
    (hB : Behind N g w (fun b => Pr b ∨ ∃ k, blk k = some b) s3 a' w') : ∃ g', Head P N ops is p h1 h2 c S g0 w0 Pr (listed.setIfInBounds k true) a' w' g' s3 blk := by
  obtain ⟨g', e1, e2, e3⟩ := hB
  have hks : k < listed.size := by rw [hsz]; exact (Array.getElem?_eq_some_iff.1 ho).1
  refine ⟨g', ⟨?_, fun j hj => (ld_set hks).2 (.inr (hH.pre j hj)), ?_, hH.ext.trans e1, hH.fr.trans (fun b hb => e2 b (.inl hb)), e3, h3, ?_, ?_, ?_, hH.inj⟩⟩
  · intro j oj e hj h4 h5 h6
    rw [ld_set hks] at hj ⊢
    rcases hj with rfl | hj
    · exact .inr (hrd oj e h4 h5 h6)
    · exact .inr (hH.closed j oj e hj h4 h5 h6)
  · intro j hj h
    rw [ld_set hks] at h
    rcases h with rfl | h
    · have := hd.le1; omega
    · exact hH.none j hj h
  · intro t ht
    by_cases hwt : t ∈ i.writes
    · refine .inl ⟨k, hk, (ld_set hks).2 (.inl rfl), ⟨i, hi, hwt⟩, ?_, hw t hwt⟩
      intro j hj hld hwj
      rw [ld_set hks] at hld
      rcases hld with rfl | hld
      · exact Nat.le_refl _
      · refine Nat.le_of_not_lt fun hlt => ?_
        obtain ⟨i', hi', hw'⟩ := hwj
        have htt : t ∈ i.touch := by
          simp only [AIns.writes, List.mem_append] at hwt
          rcases hwt with hwt | hwt
          · have : t ∈ i.op.reads := by
              cases hop : i.op <;> simp only [hop, AOp.takes, List.not_mem_nil] at hwt
              rename_i m x
              cases m <;> simp_all [AOp.reads]
            simp [AIns.touch, this]
          · simp only [AIns.touch, List.mem_append]; exact .inr hwt
        exact hun (waits_ld hH.closed (hd.order k j i i' (Nat.le_of_not_lt fun h => hun (hH.pre k h)) hlt hj hi hi' (.inr ⟨t, hw', htt⟩)) (fun o e => hH.closed j o e hld))
    · rw [hnw t hwt]
      rcases hH.env t ht with ⟨j, j1, j2, j3, j4, j5⟩ | ⟨j1, j2⟩
      · refine .inl ⟨j, j1, (ld_set hks).2 (.inr j2), j3, ?_, j5⟩
        intro x hx hld hwx
        rw [ld_set hks] at hld
        rcases hld with rfl | hld
        · obtain ⟨i', hi', hw'⟩ := hwx
          rw [hi] at hi'; cases hi'
          exact absurd hw' hwt
        · exact j4 x hx hld hwx
      · refine .inr ⟨?_, j2⟩
        intro x hx hld hwx
        rw [ld_set hks] at hld
        rcases hld with rfl | hld
        · obtain ⟨i', hi', hw'⟩ := hwx
          rw [hi] at hi'; cases hi'
          exact absurd hw' hwt
        · exact j1 x hx hld hwx
  · intro j b hb
    obtain ⟨z1, z2, z3, z4, d, zs, arr, ty, y1, y2, y3, y4, y5⟩ := hH.pend j b hb
    obtain ⟨f1, f2, f3⟩ := e2 b (.inr ⟨j, hb⟩)
    refine ⟨z1, z2, by rw [f2]; exact z3, z4, d, zs, arr, ty, y1, ?_, by rw [f1]; exact y3, y4, y5⟩
    rw [ha', put_other, y2]
    intro hdst
    obtain ⟨d', zs', e, hf⟩ := hd.fresh j _ z1 z2 y1
    cases e
    exact hf k i (by omega) (by omega) hi (by simp [AIns.touch, hdst])
  · intro j x y hld
    rw [ld_set hks] at hld
    rcases hld with rfl | hld
    · omega
    · exact hH.all j x y hld

theorem put_any {g : G} {w : World} {Pr : Nat → Prop} {s : St} {a : Act} {d : Nat} {u : Value} (hA : InvA N g w Pr s a) (hd : d < N) : InvA N g w Pr (s.set (some d) (.c (.b .any))) (a.put (some d) u) :=
  ⟨hA.inv, set_env hA.env (fun x hx => ⟨by cases hx; rw [hA.size]; exact hd, trivial⟩), by rw [put_size]; exact hA.size, by rw [put_defers]; exact hA.defers⟩

/-- One instruction more of the head: an allocation. -/
theorem head_alloc (hd : Dr ops is p h1 h2 c) (hl : is.length = ops.size) {listed : Array Bool} (hsz : listed.size = ops.size) {a : Act} {w : World} {g : G} {sc : St} {blk : Nat → Option Nat}
    (hH : Head P N ops is p h1 h2 c S g0 w0 Pr listed a w g sc blk) {k : Nat} {o : Oper} {d : Nat} {zs : List C} (hk1 : h1 ≤ k) (hk2 : k < h2) (ho : ops[k]? = some o) (hi : is[k]? = some ⟨some d, .alloc zs, none⟩) (hun : ¬ Ld listed k)
    (hrd : ∀ (o : Oper) (e : Edge), ops[k]? = some o → e ∈ o.after → Region.binds .any e = true → Ld listed e.on) (hdN : d < N) {arr : Array Value} {ty : TypeId} (hz1 : zs.length ≤ arr.size)
    (hz2 : ∀ (i : Nat) (c : C), zs[i]? = some c → ∃ u, arr[i]? = some u ∧ u.oneCell' = true ∧ ∀ g w Pr p, RepC g w Pr p c u) :
    ∃ g' sc' blk', Head P N ops is p h1 h2 c S g0 w0 Pr (listed.setIfInBounds k true) (a.put (some d) (.pointer (some ⟨w.heap.size, 0, none⟩))) (w.alloc (.cells arr ty)) g' sc' blk' := by
  have hI := hH.inv
  have hks : k < listed.size := by rw [hsz]; exact (Array.getElem?_eq_some_iff.1 ho).1
  have hA := lone hI (.cells arr ty)
  have hE := lone_ext hI.inv (.cells arr ty)
  have hF := lone_fr hI.inv (.cells arr ty)
  have hnb : ∀ j b, blk j = some b → b ≠ w.heap.size := by
    intro j b hb e
    obtain ⟨d', zs', arr', ty', y1, y2, y3, y4, y5⟩ := (hH.pend j b hb).ins
    have := (Array.getElem?_eq_some_iff.1 y3).1
    omega
  refine ⟨g.noOwn w.heap.size, sc.set (some d) (.c (.b .any)), fun x => if x = k then some w.heap.size else blk x, ⟨?_, fun j hj => (ld_set hks).2 (.inr (hH.pre j hj)), ?_, hH.ext.trans hE, hH.fr.trans (fun b hb => hF b (.inl hb)), ?_, ⟨fun h5 h6 => hH.σ.1 h5 (((ld_set hks).1 h6).resolve_left (by omega)), fun h5 => hH.σ.2 (fun h6 => h5 ⟨h6.1, (ld_set hks).2 (.inr h6.2)⟩)⟩, ?_, ?_, ?_, ?_⟩⟩
  · intro j oj e hj h4 h5 h6
    rw [ld_set hks] at hj ⊢
    rcases hj with rfl | hj
    · exact .inr (hrd oj e h4 h5 h6)
    · exact .inr (hH.closed j oj e hj h4 h5 h6)
  · intro j hj h
    rw [ld_set hks] at h
    rcases h with rfl | h
    · omega
    · exact hH.none j hj h
  · refine put_any ?_ hdN
    refine hA.less ?_
    rintro b (hb | ⟨j, hj⟩)
    · exact .inl (.inl hb)
    · split at hj
      · cases hj; exact .inr rfl
      · exact .inl (.inr ⟨j, hj⟩)
  · intro t ht
    have hne : d ≠ t := fun e => ht k _ hk1 hk2 hi (by rw [e])
    have hget : (sc.set (some d) (.c (.b .any))).env.get t = sc.env.get t := by
      simp only [St.set]; rw [env_get_cons, if_neg hne]
    rw [hget]
    rcases hH.env t ht with ⟨j, j1, j2, j3, j4, j5⟩ | ⟨j1, j2⟩
    · refine .inl ⟨j, j1, (ld_set hks).2 (.inr j2), j3, ?_, j5⟩
      intro x hx hld hwx
      rw [ld_set hks] at hld
      rcases hld with rfl | hld
      · omega
      · exact j4 x hx hld hwx
    · refine .inr ⟨?_, j2⟩
      intro x hx hld hwx
      rw [ld_set hks] at hld
      rcases hld with rfl | hld
      · omega
      · exact j1 x hx hld hwx
  · intro j b hb
    by_cases hjk : j = k
    · subst hjk
      simp only [if_true, Option.some.injEq] at hb
      subst hb
      refine ⟨hk1, hk2, lone_kind (g := g) (s := sc) hI.inv, hH.ext.size, d, zs, arr, ty, hi, ?_, alloc_new, hz1, hz2⟩
      rw [put_get a d _ (by rw [hI.size]; exact hdN), if_pos rfl]
    · rw [if_neg hjk] at hb
      obtain ⟨z1, z2, z3, z4, d', zs', arr', ty', y1, y2, y3, y4, y5⟩ := hH.pend j b hb
      refine ⟨z1, z2, z3, z4, d', zs', arr', ty', y1, ?_, ?_, y4, y5⟩
      · rw [put_other, y2]
        intro e
        obtain ⟨d2, zs2, e2, hf⟩ := hd.fresh j _ z1 z2 y1
        cases e2
        exact hf k _ hk2 (fun e => hjk e.symm) hi (by simp [AIns.touch, e])
      · rw [alloc_get b (Array.getElem?_eq_some_iff.1 y3).1]; exact y3
  · intro j x y hld
    rw [ld_set hks] at hld
    by_cases hjk : j = k
    · exact ⟨_, by rw [if_pos hjk]⟩
    · obtain ⟨b, hb⟩ := hH.all j x y (hld.resolve_left hjk)
      exact ⟨b, by rw [if_neg hjk]; exact hb⟩
  · intro j j' b hj hj'
    by_cases h : j = k
    · by_cases h' : j' = k
      · rw [h, h']
      · rw [if_pos h] at hj; rw [if_neg h'] at hj'
        cases hj
        exact absurd rfl (hnb j' _ hj')
    · by_cases h' : j' = k
      · rw [if_neg h] at hj; rw [if_pos h'] at hj'
        cases hj'
        exact absurd rfl (hnb j _ hj)
      · rw [if_neg h] at hj; rw [if_neg h'] at hj'
        exact hH.inj _ _ _ hj hj'

theorem zero_any {z : Value} {zs : List C} (h : chkZero z zs = true) : z.cells.size = zs.length ∧ ∀ (i : Nat) (c : C), zs[i]? = some c → ∃ u, z.cells[i]? = some u ∧ u.oneCell' = true ∧ ∀ g w Pr p, RepC g w Pr p c u := by
  refine ⟨(chkZero_ok (g := ⟨[], fun _ => .free, fun _ => none⟩) (w := default) (Pr := fun _ => False) h).1, fun i c hi => ?_⟩
  obtain ⟨u, k1, k2, k3⟩ := (chkZero_ok (g := ⟨[], fun _ => .free, fun _ => none⟩) (w := default) (Pr := fun _ => False) h).2 i c hi
  refine ⟨u, k1, k2, fun g w Pr p => ?_⟩
  obtain ⟨u', k1', k2', k3'⟩ := (chkZero_ok (g := g) (w := w) (Pr := Pr) h).2 i c hi
  rw [k1] at k1'; cases k1'
  exact k3' p

theorem wp_draw (hS : Sound P F) (hen : ∀ f args σ lo tr r, F f args σ lo tr = some r → entered P (fnOf f) = true) (hd : Dr ops is p h1 h2 c) (hl : is.length = ops.size) (hT : Text F bd is S)
    (hpr0 : ∀ b, Pr b → b < w0.heap.size) (hc : ∀ (k : Nat) (o : Oper) (i : AIns), ops[k]? = some o → is[k]? = some i → chkIns P N ops o i = true)
    {Q : Exit → Act → World → Prop} (hQ : ∀ a w, Behind N g0 w0 Pr (S ops.size) a w → Q .normal a w) :
    ∀ (fuel : Nat) (listed : Array Bool) (a : Act) (w : World), listed.size = ops.size → listed.toList.count false ≤ fuel →
      ((∃ g sc blk, Head P N ops is p h1 h2 c S g0 w0 Pr listed a w g sc blk) ∨ ∃ n, Tail N ops h2 S g0 w0 Pr listed a w n) → wpAny P .any ops Q fuel listed a w := by
  have done : ∀ (listed : Array Bool) (a : Act) (w : World), listed.size = ops.size → (∀ k, k < ops.size → Ld listed k) →
      ((∃ g sc blk, Head P N ops is p h1 h2 c S g0 w0 Pr listed a w g sc blk) ∨ ∃ n, Tail N ops h2 S g0 w0 Pr listed a w n) → Q .normal a w := by
    intro listed a w hsz hall hst
    have htail : ∃ n, Tail N ops h2 S g0 w0 Pr listed a w n := by
      rcases hst with ⟨g, sc, blk, hH⟩ | h
      · exact ⟨h2, head_done hS.2 hd hl hT hpr0 hsz hH (fun k hk => hall k (by have := hd.le2; omega))⟩
      · exact h
    obtain ⟨n, t1, t2, t3, t4⟩ := htail
    have hn : n = ops.size := by
      rcases Nat.lt_or_ge n ops.size with h | h
      · exact absurd ((t3 n).1 (hall n h)) (by omega)
      · omega
    subst hn
    exact hQ _ _ t4
  intro fuel
  induction fuel with
  | zero =>
    intro listed a w hsz hcnt hst
    have hall : ∀ k, k < ops.size → Ld listed k := by
      intro k hk
      have h0 : listed.toList.count false = 0 := by omega
      rw [List.count_eq_zero] at h0
      unfold Ld
      rw [Array.getD_eq_getD_getElem?]
      have hk' : k < listed.size := by omega
      simp only [hk', getElem?_pos, Option.getD_some]
      cases hb : listed[k] with
      | true => rfl
      | false => exact absurd (by rw [← hb]; simp) h0
    refine ⟨?_, done listed a w hsz hall hst⟩
    rw [List.eq_nil_iff_forall_not_mem]
    intro k hk
    rw [mem_ready] at hk
    obtain ⟨h1, o, ho, _⟩ := hk
    have hlt := (Array.getElem?_eq_some_iff.1 ho).1
    have := hall k hlt
    unfold Ld at this
    rw [Array.getD_eq_getD_getElem?] at this h1
    have hk' : k < listed.size := by omega
    simp only [hk', getElem?_pos, Option.getD_some] at this h1
    rw [this] at h1; cases h1
  | succ fuel ih =>
    intro listed a w hsz hcnt hst
    refine ⟨fun h => done listed a w hsz (ready_nil hd hsz h) hst, fun k hk => ?_⟩
    rw [mem_ready] at hk
    obtain ⟨hun0, o, ho, hrd0⟩ := hk
    have hlt := (Array.getElem?_eq_some_iff.1 ho).1
    have hks : k < listed.size := by omega
    have hun : ¬ Ld listed k := by
      unfold Ld
      rw [Array.getD_eq_getD_getElem?] at hun0 ⊢
      simp only [hks, getElem?_pos, Option.getD_some] at hun0 ⊢
      rw [hun0]; simp
    have hrd : ∀ (o : Oper) (e : Edge), ops[k]? = some o → e ∈ o.after → Region.binds .any e = true → Ld listed e.on := by
      intro o' e ho' he hb
      rw [ho] at ho'; cases ho'
      exact hrd0 e he hb
    have hsz' : (listed.setIfInBounds k true).size = ops.size := by simpa using hsz
    have hcnt' : (listed.setIfInBounds k true).toList.count false ≤ fuel := by
      have := cnt_set listed.toList k (by
        rw [Array.getD_eq_getD_getElem?] at hun0
        simp only [hks, getElem?_pos, Option.getD_some] at hun0
        simp [hks, hun0])
      rw [Array.toList_setIfInBounds]
      omega
    have hilt : k < is.length := by omega
    have hi : is[k]? = some is[k] := by simp [hilt]
    generalize is[k] = i at hi
    have hci := hc k o i ho hi
    -- the tail's one instruction
    have htail : ∀ n, Tail N ops h2 S g0 w0 Pr listed a w n → wpOp P ops Q k (wpAny P .any ops Q fuel (listed.setIfInBounds k true)) a w := by
      rintro n ⟨t1, t2, t3, g1, x1, x2, x3⟩
      have hkn : k = n := by
        have hge : n ≤ k := Nat.le_of_not_lt fun h => hun ((t3 k).2 h)
        rcases Nat.lt_or_ge n k with h | h
        · exact absurd ((t3 n).1 (waits_ld (fun k o e hk _ he hb => by
            rw [t3] at hk ⊢
            have := hd.back k o e (by assumption) he hb
            omega) (hd.tail k n (by have := hd.le0; have := hd.le1; omega) (by omega) hlt h) hrd)) (by omega)
        · omega
      subst hkn
      have hins := ins_okP hS hen hci (hT k i hi) x3 Q
      have hnext : ∀ a1 w1, Behind N g1 w Pr (S (k + 1)) a1 w1 → wpAny P .any ops Q fuel (listed.setIfInBounds k true) a1 w1 := by
        intro a1 w1 hB
        refine ih _ _ _ hsz' hcnt' (.inr ⟨k + 1, by omega, hlt, fun j => ?_, Behind.trans x1 x2 hB⟩)
        rw [ld_set hks, t3]
        omega
      simp only [wpOp, ho]
      split at hins
      · rename_i hw; simp only [hw, if_true]; exact .inl (Oper.wp_mono (fun a1 w1 h => hnext a1 w1 h.1) hins)
      · rename_i hw; simp only [hw]; exact hnext _ _ hins
    rcases hst with ⟨g, sc, blk, hH⟩ | ⟨n, hTl⟩
    case inr => exact htail n hTl
    by_cases hall : ∀ k, k < h2 → Ld listed k
    · exact htail h2 (head_done hS.2 hd hl hT hpr0 hsz hH hall)
    have hk2 : k < h2 := by
      refine Nat.lt_of_not_le fun hle => hall fun j hj => ?_
      rcases Nat.lt_or_ge j p with hp | hp
      · exact hH.pre j hp
      · exact waits_ld hH.closed (hd.tail k j hp hle hlt (by omega)) hrd
    by_cases hk1 : k < h1
    · have hsees : ∀ t ∈ i.touch, sc.env.get t = (S k).env.get t := fun t ht => head_sees hS.2 hd hl hT hH hk1 hi hun hrd ht
      obtain ⟨s3, k3, k4, k5, k6⟩ : ∃ s3, stepIns F bd sc i = some s3 ∧ Fits S c h1 (listed.setIfInBounds k true) s3.σ ∧ (∀ t ∈ i.writes, s3.env.get t = (S (k + 1)).env.get t) ∧ (∀ t, t ∉ i.writes → s3.env.get t = sc.env.get t) := by
        rcases hd.head k i hk1 hi with hh | ⟨rfl, hh⟩
        · have hob : ∀ t l o ob, t ∈ i.op.reads → (sc.env.get t).down = .c (.b (.ptr l o)) → (S k).σ[l]? = some ob → sc.σ[l]? = some ob := by
            intro t l o ob ht hp hob
            have hl1 : l < sc.σ.length := by
              have hr := hH.inv.env t
              have hg : ∃ b o, g.loc[l]? = some (b, o) := by
                cases hv : sc.env.get t with
                | c x =>
                  rw [hv] at hp hr
                  cases x with
                  | b x =>
                    simp only [V.down, C.down, V.c.injEq, C.b.injEq] at hp
                    subst hp
                    obtain ⟨b, o', h, _⟩ := hr
                    exact ⟨b, o', h⟩
                  | _ => simp [V.down, C.down] at hp
                | _ => rw [hv] at hp; simp [V.down] at hp
              obtain ⟨b, o', h⟩ := hg
              have := (List.getElem?_eq_some_iff.mp h).1
              rw [hH.inv.inv.len] at this
              exact this
            by_cases hkc : k ≤ c
            · rw [text_lo hS.2 hd hl hT k (by omega) hkc] at hob
              by_cases hcl : c < h1 ∧ Ld listed c
              · rw [hH.σ.1 hcl.1 hcl.2, text_ext hS.2 hd hl hT hcl.1 l (List.getElem?_eq_some_iff.mp hob).1]; exact hob
              · rw [hH.σ.2 hcl]; exact hob
            · rw [text_hi' hS.2 hd hl hT (by omega) (by omega)] at hob
              by_cases hcl : c < h1 ∧ Ld listed c
              · rw [hH.σ.1 hcl.1 hcl.2]; exact hob
              · rw [hH.σ.2 hcl] at hl1 ⊢
                rw [← text_ext hS.2 hd hl hT (by omega) l hl1]; exact hob
          obtain ⟨k1, k2, s3, k3, k4, k5, k6⟩ := ins_same (s2 := sc) hh hob hsees (hT k i hi)
          refine ⟨s3, k3, ?_, k5, k6⟩
          rw [k4]
          refine ⟨fun h5 h6 => ?_, fun h5 => hH.σ.2 (fun h6 => h5 ⟨h6.1, (ld_set hks).2 (.inr h6.2)⟩)⟩
          rcases (ld_set hks).1 h6 with rfl | h6
          · rw [k1, text_lo hS.2 hd hl hT c (by omega) (Nat.le_refl _)]
            exact hH.σ.2 (fun h => hun h.2)
          · exact hH.σ.1 h5 h6
        · have hσ : sc.σ = (S k).σ := by rw [hH.σ.2 (fun h => hun h.2), text_lo hS.2 hd hl hT k (by omega) (Nat.le_refl _)]
          obtain ⟨k1, k2, k2', s3, k3, k4, k5, k6⟩ := call_same (s2 := sc) hS.2 hh hσ hsees (hT k i hi)
          exact ⟨s3, k3, ⟨fun _ _ => k4, fun h5 => absurd ⟨hk1, (ld_set hks).2 (.inl rfl)⟩ h5⟩, k5, k6⟩
      have hins := ins_okP hS hen hci k3 hH.inv Q
      have hdst : o.dst = i.dst := by
        simp only [chkIns, Bool.and_eq_true, beq_iff_eq] at hci
        exact hci.1.1.1
      have hnext : ∀ a1 w1, Behind N g w (fun b => Pr b ∨ ∃ k, blk k = some b) s3 a1 w1 → (∃ u, a1 = a.put o.dst u) → wpAny P .any ops Q fuel (listed.setIfInBounds k true) a1 w1 := by
        rintro a1 w1 hB ⟨u, hu⟩
        obtain ⟨g', hH'⟩ := head_more hd hl hT hsz hH hk1 ho hi hun hrd k4 k5 k6 (by rw [hu, hdst]) hB
        exact ih _ _ _ hsz' hcnt' (.inl ⟨g', s3, blk, hH'⟩)
      simp only [wpOp, ho]
      split at hins
      · rename_i hw; simp only [hw, if_true]; exact .inl (Oper.wp_mono (fun a1 w1 h => hnext a1 w1 h.1 h.2) hins)
      · rename_i hw; simp only [hw]; exact hnext _ _ hins ⟨_, rfl⟩
    · obtain ⟨d, zs, rfl, hf⟩ := hd.fresh k i (by omega) hk2 hi
      simp only [chkIns, Bool.and_eq_true, beq_iff_eq] at hci
      obtain ⟨⟨⟨c1, c2⟩, c3⟩, c4⟩ := hci
      rw [c1] at c2
      have hdN : d < N := of_decide_eq_true c2
      have hg : o.guard = none := by
        cases hg : o.guard with
        | none => rfl
        | some p => rw [hg] at c4; simp at c4
      simp only [chkOp] at c3
      split at c3
      case h_2 => cases c3
      rename_i t hop
      split at c3
      case h_2 => cases c3
      rename_i inf hinf
      split at c3
      case h_2 => cases c3
      rename_i z hz
      obtain ⟨z1, z2⟩ := zero_any c3
      have hrun : (execOp a.eval o).run P w = .ok (.value (.pointer (some ⟨w.heap.size, 0, none⟩))) (w.alloc (.cells z.cells t)) := by
        simp [execOp, hop, Instr.alloc, zeroValue, typeInfo, hinf, hz, newVar, newRow]
      obtain ⟨g', sc', blk', hH'⟩ := head_alloc (ty := t) hd hl hsz hH (by omega) hk2 ho hi hun hrd hdN (by omega) z2
      have hw : Region.wanted o (yielded ops a.tmps) = true := by simp [Region.wanted, hg]
      simp only [wpOp, ho, hw, if_true, Oper.wp, hrun, Oper.upon]
      refine .inl ?_
      rw [c1]
      exact ih _ _ _ hsz' hcnt' (.inl ⟨g', sc', blk', hH'⟩)

/-- The moves that come first. -/
theorem wp_pre (hS : Sound P F) (hen : ∀ f args σ lo tr r, F f args σ lo tr = some r → entered P (fnOf f) = true) (hd : Dr ops is p h1 h2 c) (hl : is.length = ops.size) (hT : Text F bd is S)
    (hpr0 : ∀ b, Pr b → b < w0.heap.size) (hc : ∀ (k : Nat) (o : Oper) (i : AIns), ops[k]? = some o → is[k]? = some i → chkIns P N ops o i = true) (hns : Region.noSelect ops = true)
    {Q : Exit → Act → World → Prop} (hQ : ∀ a w, Behind N g0 w0 Pr (S ops.size) a w → Q .normal a w) (hQp : ∀ c a a' w, Q (.panic c) a w → Q (.panic c) a' w) :
    ∀ (n i : Nat) (listed : Array Bool) (a : Act), i + n = p → listed.size = ops.size → (∀ j, Ld listed j ↔ j < i) → preOk ops is n i listed = true → InvA N g0 w0 Pr (S i) a →
      ∀ fuel, listed.toList.count false ≤ fuel → wpAny P .any ops Q fuel listed a w0 := by
  intro n
  induction n with
  | zero =>
    intro i listed a hip hsz hld _ hA fuel hcnt
    have hip' : i = p := by omega
    subst hip'
    refine wp_draw hS hen hd hl hT hpr0 hc hQ fuel listed a w0 hsz hcnt (.inl ⟨g0, S i, fun _ => none, ?_⟩)
    refine ⟨fun k o e h ho he hb => ?_, fun j hj => (hld j).2 hj, fun k hk h => ?_, .refl _ _, .refl _ _ _, hA.less (fun b hb => ?_), ⟨fun h5 h6 => text_hi' hS.2 hd hl hT hd.le0 ((hld _).1 h6), fun h5 => text_lo hS.2 hd hl hT i hd.le0 (Nat.le_of_not_lt fun h6 => h5 ⟨Nat.lt_of_lt_of_le h6 hd.le0, (hld _).2 h6⟩)⟩, fun t _ => ?_, fun k b hb => (by cases hb), fun k h3 _ h => ?_, fun _ _ _ hb => (by cases hb)⟩
    · rw [hld] at h ⊢
      have := hd.back k o e ho he hb
      omega
    · rw [hld] at h
      have := hd.le0; have := hd.le1
      omega
    · rcases hb with hb | ⟨k, hb⟩
      · exact hb
      · cases hb
    · -- the last writer, if any
      have key : ∀ m, m ≤ i → (∃ k, k < h1 ∧ k < m ∧ Writes is k t ∧ (∀ j, j < m → Writes is j t → j ≤ k) ∧ (S m).env.get t = (S (k + 1)).env.get t) ∨ ((∀ j, j < m → ¬ Writes is j t) ∧ (S m).env.get t = (S 0).env.get t) := by
        intro m
        induction m with
        | zero => exact fun _ => .inr ⟨fun j hj => by omega, rfl⟩
        | succ m ih =>
          intro hm
          have := hd.le0
          by_cases hw : Writes is m t
          · exact .inl ⟨m, by omega, by omega, hw, fun j hj _ => by omega, rfl⟩
          · have he := text_env hS.2 hd hl hT (t := t) (a := m) (m + 1) (by omega) (by omega) (fun j x y hj => hw (by rw [show m = j by omega]; exact hj))
            rcases ih (by omega) with ⟨k, k1, k2, k3, k4, k5⟩ | ⟨k1, k2⟩
            · refine .inl ⟨k, k1, by omega, k3, fun j hj hwj => ?_, by rw [he, k5]⟩
              by_cases e : j = m
              · subst e; exact absurd hwj hw
              · exact k4 j (by omega) hwj
            · refine .inr ⟨fun j hj hwj => ?_, by rw [he, k2]⟩
              by_cases e : j = m
              · subst e; exact hw hwj
              · exact k1 j (by omega) hwj
      rcases key i (Nat.le_refl _) with ⟨k, k1, k2, k3, k4, k5⟩ | ⟨k1, k2⟩
      · exact .inl ⟨k, k1, (hld k).2 k2, k3, fun j _ hj hwj => k4 j ((hld j).1 hj) hwj, k5⟩
      · exact .inr ⟨fun j _ hj => k1 j ((hld j).1 hj), k2⟩
    · rw [hld] at h
      have := hd.le0
      omega
  | succ n ih =>
    intro i listed a hip hsz hld hpre hA fuel hcnt
    simp only [preOk, Bool.and_eq_true] at hpre
    obtain ⟨⟨⟨b1, b2⟩, b3⟩, b4⟩ := hpre
    split at b1
    case h_2 => cases b1
    rename_i o d x ho hi
    simp only [Bool.and_eq_true, Option.isNone_iff_eq_none] at b1
    obtain ⟨b5, b6⟩ := b1
    split at b5
    case h_2 => cases b5
    rename_i y hop
    have hlt := (Array.getElem?_eq_some_iff.1 ho).1
    have hks : i < listed.size := by omega
    have hci := hc i o _ ho hi
    have hun : ¬ Ld listed i := fun h => by have := (hld i).1 h; omega
    have hf0 : listed[i]? = some false := by
      unfold Ld at hun
      rw [Array.getD_eq_getD_getElem?] at hun
      simp only [hks, getElem?_pos, Option.getD_some] at hun ⊢
      simpa using hun
    obtain ⟨fuel, rfl⟩ : ∃ m, fuel = m + 1 := by
      refine ⟨fuel - 1, ?_⟩
      have h1 := cnt_set listed.toList i (by simpa using hf0)
      omega
    have hwant : Region.wanted o (yielded ops a.tmps) = true := by simp [Region.wanted, b6]
    have hrun : ∀ w, (execOp a.eval o).run P w = .ok (.value (a.eval y)) w := fun w => by simp only [execOp, hop]; rfl
    refine wpAny_take (v := a.eval y) ho hns b2 b3 (fun c a w h => hQp c _ a w h) (.inl ⟨hwant, hrun⟩) ?_
    -- the state behind it
    have hst := hT i _ hi
    simp only [stepIns, stepOp, Option.some.injEq] at hst
    simp only [chkIns, Bool.and_eq_true, beq_iff_eq] at hci
    obtain ⟨⟨⟨c1, c2⟩, c3⟩, c4⟩ := hci
    simp only [chkOp, hop] at c3
    have hA' : InvA N g0 w0 Pr (S (i + 1)) (a.put o.dst (a.eval y)) := by
      rw [← hst]
      refine ⟨by rw [set_st]; exact hA.inv, ?_, by rw [put_size]; exact hA.size, by rw [put_defers]; exact hA.defers⟩
      rw [c1]
      refine set_env hA.env (fun x' hx' => ⟨?_, opd_rd hA.env c3 _⟩)
      subst hx'
      rw [c1] at c2
      rw [hA.size]
      exact of_decide_eq_true c2
    refine ih (i + 1) _ _ (by omega) (by simpa using hsz) (fun j => ?_) b4 hA' fuel ?_
    · rw [ld_set hks, hld]; omega
    · have h1 := cnt_set listed.toList i (by simpa using hf0)
      rw [Array.toList_setIfInBounds]
      omega

theorem region_draw_ok {g : G} {w : World} {s s' : St} {a : Act} (hm : P.follows .mixedOrders = true) (hS : Sound P F) (hen : ∀ f args σ lo tr r, F f args σ lo tr = some r → entered P (fnOf f) = true) {id : Nat} {keep : List Nat}
    (hc : chkAll P N ops ops.toList is = true) (hd : drawOk ops is = true) (hv : stepAll F bd s is = some s') (hA : InvA N g w Pr s a) :
    (Code.region id ops true).wp P (fun e a' w' => e = .normal ∧ Behind N g w Pr { s' with env := s'.env.keep keep } a' w') a w := by
  have hd' : ∃ p, drawTry p ops is = true := by
    simp only [drawOk, Bool.or_eq_true] at hd
    exact hd.elim (fun h => ⟨_, h⟩) (fun h => ⟨_, h⟩)
  obtain ⟨p, hd'⟩ := hd'
  obtain ⟨hns, hpre, h1, h2, c, hD⟩ := drawTry_dr hd'
  obtain ⟨S, S0, Sn, hT⟩ := text_of is s s' hv
  obtain ⟨hl, hci⟩ := chkAll_get hc
  have hl' : is.length = ops.size := by simpa using hl
  refine wp_region_any hm ?_
  have hw : Ext g w g { w with drawn := w.drawn + 1 } := ⟨fun _ _ h => h, fun _ _ h => h, Nat.le_refl _, fun _ arr _ _ h => ⟨arr, h, rfl⟩, rfl, rfl, rfl⟩
  have hf : Fr Pr g w g { w with drawn := w.drawn + 1 } := fun _ _ => ⟨rfl, rfl, rfl⟩
  have hA' : InvA N g { w with drawn := w.drawn + 1 } Pr s a := by
    refine ⟨⟨hA.inv.len, fun l o h => RepOb.frame hw (fun _ => Keep.refl _ _) (fun b hb => ⟨rfl, hb⟩) (hA.inv.ob l o h), hA.inv.lt, hA.inv.pr⟩, hA.env.ext hw (fun _ _ => Keep.refl _ _), hA.size, hA.defers⟩
  refine wp_pre (g0 := g) (w0 := { w with drawn := w.drawn + 1 }) (Pr := Pr) (N := N) hS hen hD hl' hT (fun b hb => (hA'.inv.pr b hb).1) (fun k o i ho hi => hci k o i (by simpa using ho) hi) hns ?_ (fun c a a' w h => (by cases h.1)) p 0 _ a (by omega) (by simp) (fun j => ?_) hpre (by rw [S0]; exact hA') _ (by simp)
  · rintro a1 w1 hB
    refine ⟨rfl, ?_⟩
    rw [← hl', Sn] at hB
    obtain ⟨g', e1, e2, e3⟩ := hB
    exact ⟨g', hw.trans e1, hf.trans e2, keep_ok e3⟩
  · simp only [Ld, Array.getD_eq_getD_getElem?, Array.getElem?_replicate, Nat.not_lt_zero, iff_false]
    split <;> simp
end
end Go.Proofs.Ytjkhkblabhaimaa.Am
