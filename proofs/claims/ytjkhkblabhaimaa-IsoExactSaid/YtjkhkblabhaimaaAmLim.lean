/- The machine without fuel: what it answers from some fuel on. -/
import Derived.Test.YtjkhkblabhaimaaAmMono
namespace Go.Proofs.Ytjkhkblabhaimaa.Am
set_option linter.unusedSimpArgs false
set_option linter.unusedVariables false
open Go

/-- A value that nobody unfolds. -/
noncomputable def hide {α : Type} (x : α) : α := (⟨x, rfl⟩ : ∃ y, y = x).choose
theorem hide_eq {α : Type} (x : α) : hide x = x := (⟨x, rfl⟩ : ∃ y, y = x).choose_spec

noncomputable def lim {α : Type} (p : Nat → Option α) : Option α := open Classical in if h : ∃ a n, p n = some a then some h.choose else none

theorem lim_iff {α : Type} {p : Nat → Option α} (hm : ∀ n m a, n ≤ m → p n = some a → p m = some a) {a : α} : lim p = some a ↔ ∃ n, p n = some a := by
  unfold lim
  constructor
  · intro h
    split at h
    · rename_i h'; cases h; exact h'.choose_spec
    · cases h
  · rintro ⟨n, hn⟩
    have h' : ∃ a n, p n = some a := ⟨a, n, hn⟩
    rw [dif_pos h']
    obtain ⟨k, hk⟩ := h'.choose_spec
    have h1 := hm k (max k n) _ (by omega) hk
    have h2 := hm n (max k n) _ (by omega) hn
    rw [h1] at h2
    exact h2

section
variable (fns : Nat → Option AFun) (bd : Bd)

noncomputable def Fn : Oracle := hide fun f args σ lo tr => lim fun n => evf fns n f args σ lo tr
noncomputable def Ev (c : ACode) (s : St) : Option (AExit × St) := lim fun n => ev (evf fns n) bd n c s

variable {fns : Nat → Option AFun} {bd : Bd}

theorem evf_up {n m f : Nat} {args : List V} {σ : List Ob} {lo tr : Nat} {r : V × List Ob} (h : n ≤ m) (k : evf fns n f args σ lo tr = some r) : evf fns m f args σ lo tr = some r := evf_sub n m h _ _ _ _ _ _ k
theorem ev_up {n m n' m' : Nat} {c : ACode} {s : St} {r : AExit × St} (h : n ≤ n') (h' : m ≤ m') (k : ev (evf fns n) bd m c s = some r) : ev (evf fns n') bd m' c s = some r := ev_sub (evf_sub n n' h) m c s r k m' h'

theorem fn_iff {f : Nat} {args : List V} {σ : List Ob} {lo tr : Nat} {r : V × List Ob} : Fn fns f args σ lo tr = some r ↔ ∃ n, evf fns n f args σ lo tr = some r := by
  rw [Fn, hide_eq]
  exact lim_iff fun _ _ _ h k => evf_up h k
theorem Ev_iff {c : ACode} {s : St} {r : AExit × St} : Ev fns bd c s = some r ↔ ∃ n, ev (evf fns n) bd n c s = some r := lim_iff fun _ _ _ h k => ev_up h h k
theorem Ev_of {n m : Nat} {c : ACode} {s : St} {r : AExit × St} (h : ev (evf fns n) bd m c s = some r) : Ev fns bd c s = some r := Ev_iff.mpr ⟨max n m, ev_up (by omega) (by omega) h⟩

theorem opt_ext {α : Type} {x y : Option α} (h : ∀ a, x = some a ↔ y = some a) : x = y := by
  cases x with
  | none => cases y with
    | none => rfl
    | some b => exact absurd ((h b).mpr rfl) (by simp)
  | some a => exact ((h a).mp rfl).symm

theorem fn_sub (n : Nat) : Sub (evf fns n) (Fn fns) := fun _ _ _ _ _ _ h => fn_iff.mpr ⟨n, h⟩

/-- A step with the limit is one with enough fuel. -/
theorem step_fuel {s : St} {op : AOp} {r : V × St} (h : stepOp (Fn fns) bd s op = some r) : ∃ n, stepOp (evf fns n) bd s op = some r := by
  cases op with
  | call f args =>
    simp only [stepOp] at h
    split at h
    · rename_i hf; obtain ⟨n, hn⟩ := fn_iff.mp hf; exact ⟨n, by simp only [stepOp, hn]; exact h⟩
    · cases h
  | callp f args =>
    simp only [stepOp] at h
    split at h
    · rename_i hf; obtain ⟨n, hn⟩ := fn_iff.mp hf; exact ⟨n, by simp only [stepOp, hn]; exact h⟩
    · cases h
  | callb f args =>
    simp only [stepOp] at h
    split at h
    · rename_i hc
      split at h
      · rename_i hf; obtain ⟨n, hn⟩ := fn_iff.mp hf; exact ⟨n, by simp only [stepOp, if_pos hc, hn]; exact h⟩
      · cases h
    · cases h
  | callv x args =>
    simp only [stepOp] at h
    split at h
    · rename_i hx
      split at h
      · rename_i hf; obtain ⟨n, hn⟩ := fn_iff.mp hf; exact ⟨n, by simp only [stepOp, hx, hn]; exact h⟩
      · cases h
    · cases h
  | mov m x => exact ⟨0, by cases m <;> exact h⟩
  | ld m n x => exact ⟨0, by cases m <;> cases n <;> exact h⟩
  | _ => exact ⟨0, h⟩

theorem ins_fuel {s s' : St} {i : AIns} (h : stepIns (Fn fns) bd s i = some s') : ∃ n, stepIns (evf fns n) bd s i = some s' := by
  have go : ∀ {s' : St}, (match stepOp (Fn fns) bd s i.op with | some (v, s') => some (s'.set i.dst v) | none => none) = some s' → ∃ n, (match stepOp (evf fns n) bd s i.op with | some (v, s') => some (s'.set i.dst v) | none => none) = some s' := by
    intro s' h
    split at h
    · rename_i hs; obtain ⟨n, hn⟩ := step_fuel hs; exact ⟨n, by rw [hn]; exact h⟩
    · cases h
  unfold stepIns at h ⊢
  split at h
  · exact go h
  · split at h
    · rename_i t ht
      cases hb : t == _ with
      | true => rw [hb] at h; exact go h
      | false => rw [hb] at h; exact ⟨0, h⟩
    · cases h

theorem all_fuel : ∀ {is : List AIns} {s s' : St}, stepAll (Fn fns) bd s is = some s' → ∃ n, stepAll (evf fns n) bd s is = some s'
  | [], _, _, h => ⟨0, h⟩
  | i :: is, s, s', h => by
    simp only [stepAll] at h
    split at h
    · rename_i hs
      obtain ⟨n, hn⟩ := ins_fuel hs
      obtain ⟨m, hm⟩ := all_fuel h
      refine ⟨max n m, ?_⟩
      simp only [stepAll]
      rw [ins_sub (evf_sub n _ (Nat.le_max_left n m)) hn]
      exact all_sub (evf_sub m _ (Nat.le_max_right n m)) hm
    · cases h

-- the equations

/-- What goes on behind a piece of code. -/
def andK {β : Type} (r : Option (AExit × St)) (k : AExit → St → Option β) : Option β := match r with
  | some (e, s) => k e s
  | none => none

variable {s : St} {β : Type} {k : AExit → St → Option β}
variable (fns bd)
/-- A piece of code, then what goes on. -/
noncomputable def K {β : Type} : ACode → St → (AExit → St → Option β) → Option β := hide fun c s k => andK (Ev fns bd c s) k
variable {fns bd}
theorem K_def {c : ACode} : K fns bd c s k = andK (Ev fns bd c s) k := by rw [K, hide_eq]

theorem andK_some {r : Option (AExit × St)} {b : β} : andK r k = some b ↔ ∃ e s', r = some (e, s') ∧ k e s' = some b := by
  cases r with
  | none => simp [andK]
  | some p =>
    obtain ⟨e, s'⟩ := p
    exact ⟨fun h => ⟨e, s', rfl, h⟩, fun ⟨_, _, h, h'⟩ => by cases h; exact h'⟩

theorem Ev_skip : Ev fns bd .skip s = some (.normal, s) := Ev_of (n := 0) (m := 1) rfl
theorem Ev_exit {i : Nat} : Ev fns bd (.exit i) s = some (.exit i, s) := Ev_of (n := 0) (m := 1) rfl
theorem Ev_ret : Ev fns bd .ret s = some (.ret, s) := Ev_of (n := 0) (m := 1) rfl
theorem Ev_region {d : Bool} {ops : List AIns} {keep : List Nat} : Ev fns bd (.region d ops keep) s = (match stepAll (Fn fns) bd s ops with
    | some s' => some (.normal, { s' with env := s'.env.keep keep })
    | none => none) := by
  refine opt_ext fun r => ⟨fun h => ?_, fun h => ?_⟩
  · obtain ⟨n, hn⟩ := Ev_iff.mp h
    cases n with
    | zero => cases hn
    | succ n =>
      simp only [ev] at hn
      split at hn
      · rename_i hs; rw [all_sub (fn_sub _) hs]; exact hn
      · cases hn
  · split at h
    · rename_i hs
      obtain ⟨n, hn⟩ := all_fuel hs
      exact Ev_of (n := n) (m := 1) (by simp only [ev, hn]; exact h)
    · cases h

theorem Ev_seq {a b : ACode} : Ev fns bd (.seq a b) s = andK (Ev fns bd a s) (fun e s' => match e with | .normal => Ev fns bd b s' | e => some (e, s')) := by
  refine opt_ext fun r => ⟨fun h => ?_, fun h => ?_⟩
  · obtain ⟨n, hn⟩ := Ev_iff.mp h
    cases n with
    | zero => cases hn
    | succ n =>
      simp only [ev] at hn
      cases hx : ev (evf fns (n + 1)) bd n a s with
      | none => rw [hx] at hn; cases hn
      | some p =>
        obtain ⟨e1, s1⟩ := p
        rw [hx] at hn
        rw [Ev_of hx]
        cases e1 with
        | normal => exact Ev_of hn
        | _ => exact hn
  · obtain ⟨e1, s1, h1, h2⟩ := andK_some.mp h
    obtain ⟨n, hn⟩ := Ev_iff.mp h1
    cases e1 with
    | normal =>
      obtain ⟨m, hm⟩ := Ev_iff.mp h2
      refine Ev_of (n := max n m) (m := max n m + 1) ?_
      simp only [ev, ev_up (Nat.le_max_left n m) (Nat.le_max_left n m) hn, ev_up (Nat.le_max_right n m) (Nat.le_max_right n m) hm]
    | exit i => cases h2; exact Ev_of (n := n) (m := n + 1) (by simp only [ev, hn])
    | ret => cases h2; exact Ev_of (n := n) (m := n + 1) (by simp only [ev, hn])

theorem Ev_cond {x : Opd} {a b : ACode} : Ev fns bd (.cond x a b) s = (match s.rd x with
    | .c (.b (.d (.bool t))) => bif t then Ev fns bd a s else Ev fns bd b s
    | _ => none) := by
  refine opt_ext fun r => ⟨fun h => ?_, fun h => ?_⟩
  · obtain ⟨n, hn⟩ := Ev_iff.mp h
    cases n with
    | zero => cases hn
    | succ n =>
      simp only [ev] at hn
      split at hn
      · rename_i t ht
        rw [ht]
        cases t with
        | true => exact Ev_of (c := a) hn
        | false => exact Ev_of (c := b) hn
      · cases hn
  · split at h
    · rename_i t ht
      cases t with
      | true =>
        have h' : Ev fns bd a s = some r := h
        obtain ⟨n, hn⟩ := Ev_iff.mp h'
        exact Ev_of (n := n) (m := n + 1) (by simp only [ev, ht, cond_true]; exact hn)
      | false =>
        have h' : Ev fns bd b s = some r := h
        obtain ⟨n, hn⟩ := Ev_iff.mp h'
        exact Ev_of (n := n) (m := n + 1) (by simp only [ev, ht, cond_false]; exact hn)
    · cases h

theorem Ev_block {i : Nat} {c : ACode} : Ev fns bd (.block i c) s = andK (Ev fns bd c s) (fun e s' => match e with | .exit j => if j = i then some (.normal, s') else some (.exit j, s') | e => some (e, s')) := by
  refine opt_ext fun r => ⟨fun h => ?_, fun h => ?_⟩
  · obtain ⟨n, hn⟩ := Ev_iff.mp h
    cases n with
    | zero => cases hn
    | succ n =>
      simp only [ev] at hn
      cases hx : ev (evf fns (n + 1)) bd n c s with
      | none => rw [hx] at hn; cases hn
      | some p =>
        obtain ⟨e1, s1⟩ := p
        rw [hx] at hn
        rw [Ev_of hx]
        cases e1 with
        | exit j => exact hn
        | _ => exact hn
  · obtain ⟨e1, s1, h1, h2⟩ := andK_some.mp h
    obtain ⟨n, hn⟩ := Ev_iff.mp h1
    refine Ev_of (n := n) (m := n + 1) ?_
    simp only [ev, hn]
    cases e1 with
    | exit j => exact h2
    | _ => exact h2

theorem Ev_loop {c : ACode} : Ev fns bd (.loop c) s = andK (Ev fns bd c s) (fun e s' => match e with | .normal => Ev fns bd (.loop c) s' | e => some (e, s')) := by
  refine opt_ext fun r => ⟨fun h => ?_, fun h => ?_⟩
  · obtain ⟨n, hn⟩ := Ev_iff.mp h
    cases n with
    | zero => cases hn
    | succ n =>
      simp only [ev] at hn
      cases hx : ev (evf fns (n + 1)) bd n c s with
      | none => rw [hx] at hn; cases hn
      | some p =>
        obtain ⟨e1, s1⟩ := p
        rw [hx] at hn
        rw [Ev_of hx]
        cases e1 with
        | normal => exact Ev_of hn
        | _ => exact hn
  · obtain ⟨e1, s1, h1, h2⟩ := andK_some.mp h
    obtain ⟨n, hn⟩ := Ev_iff.mp h1
    cases e1 with
    | normal =>
      obtain ⟨m, hm⟩ := Ev_iff.mp h2
      refine Ev_of (n := max n m) (m := max n m + 1) ?_
      simp only [ev, ev_up (Nat.le_max_left n m) (Nat.le_max_left n m) hn, ev_up (Nat.le_max_right n m) (Nat.le_max_right n m) hm]
    | exit i => cases h2; exact Ev_of (n := n) (m := n + 1) (by simp only [ev, hn])
    | ret => cases h2; exact Ev_of (n := n) (m := n + 1) (by simp only [ev, hn])

theorem Ev_wrap {cut : Bool} {nrm ret : List Nat} {exs : List (Nat × List Nat)} {c : ACode} : Ev fns bd (.wrap cut nrm ret exs c) s = andK (Ev fns bd c s) (fun e s' => wrapEnd cut nrm ret exs s.σ.length e s') := by
  refine opt_ext fun r => ⟨fun h => ?_, fun h => ?_⟩
  · obtain ⟨n, hn⟩ := Ev_iff.mp h
    cases n with
    | zero => cases hn
    | succ n =>
      simp only [ev] at hn
      cases hx : ev (evf fns (n + 1)) bd n c s with
      | none => rw [hx] at hn; cases hn
      | some p => rw [hx] at hn; rw [Ev_of hx]; exact hn
  · obtain ⟨e1, s1, h1, h2⟩ := andK_some.mp h
    obtain ⟨n, hn⟩ := Ev_iff.mp h1
    exact Ev_of (n := n) (m := n + 1) (by simp only [ev, hn]; exact h2)

-- with what goes on

theorem K_skip : K fns bd .skip s k = k .normal s := by simp only [K_def, Ev_skip, andK]
theorem K_exit {i : Nat} : K fns bd (.exit i) s k = k (.exit i) s := by simp only [K_def, Ev_exit, andK]
theorem K_ret : K fns bd .ret s k = k .ret s := by simp only [K_def, Ev_ret, andK]
theorem K_seq {a b : ACode} : K fns bd (.seq a b) s k = K fns bd a s (fun e s' => match e with | .normal => K fns bd b s' k | e => k e s') := by
  simp only [K_def, Ev_seq]
  cases Ev fns bd a s with
  | none => rfl
  | some p => obtain ⟨e, s'⟩ := p; cases e <;> rfl
theorem K_cond {x : Opd} {a b : ACode} : K fns bd (.cond x a b) s k = (match s.rd x with
    | .c (.b (.d (.bool t))) => if t = true then K fns bd a s k else K fns bd b s k
    | _ => none) := by
  simp only [K_def, Ev_cond]
  split
  · rename_i t _; cases t <;> rfl
  · rfl
theorem K_block {i : Nat} {c : ACode} : K fns bd (.block i c) s k = K fns bd c s (fun e s' => match e with | .exit j => if j = i then k .normal s' else k (.exit j) s' | e => k e s') := by
  simp only [K_def, Ev_block]
  cases Ev fns bd c s with
  | none => rfl
  | some p =>
    obtain ⟨e, s'⟩ := p
    cases e with
    | exit j => by_cases h : j = i <;> simp [andK, h]
    | _ => rfl
theorem K_loop {c : ACode} : K fns bd (.loop c) s k = K fns bd c s (fun e s' => match e with | .normal => K fns bd (.loop c) s' k | e => k e s') := by
  simp only [K_def]
  rw [Ev_loop]
  cases Ev fns bd c s with
  | none => rfl
  | some p => obtain ⟨e, s'⟩ := p; cases e <;> rfl
theorem K_wrap {cut : Bool} {nrm ret : List Nat} {exs : List (Nat × List Nat)} {c : ACode} : K fns bd (.wrap cut nrm ret exs c) s k = K fns bd c s (fun e s' => andK (wrapEnd cut nrm ret exs s.σ.length e s') k) := by
  simp only [K_def, Ev_wrap]
  cases Ev fns bd c s with
  | none => rfl
  | some p => rfl

/-- The operations of a region, then what goes on. -/
def KA0 (F : Oracle) (bd : Bd) : List AIns → St → (St → Option β) → Option β
  | [], s, k => k s
  | i :: is, s, k => match i.guard with
    | none => match stepOp F bd s i.op with
      | some (v, s') => KA0 F bd is (s'.set i.dst v) k
      | none => none
    | some (g, want) => match s.env.get g with
      | .c (.b (.d (.bool t))) => if t = want then (match stepOp F bd s i.op with
          | some (v, s') => KA0 F bd is (s'.set i.dst v) k
          | none => none) else KA0 F bd is (s.set i.dst (.c (.b .any))) k
      | _ => none

theorem KA0_all {F : Oracle} : ∀ {is : List AIns} {s : St} {k : St → Option β}, KA0 F bd is s k = (match stepAll F bd s is with | some s' => k s' | none => none)
  | [], s, k => rfl
  | i :: is, s, k => by
    have step : (match stepOp F bd s i.op with | some (v, s') => KA0 F bd is (s'.set i.dst v) k | none => none) =
        (match (match (match stepOp F bd s i.op with | some (v, s') => some (s'.set i.dst v) | none => none) with | some s' => stepAll F bd s' is | none => none) with | some s' => k s' | none => none) := by
      cases stepOp F bd s i.op with
      | none => rfl
      | some p => exact KA0_all
    cases hg : i.guard with
    | none => simp only [KA0, stepAll, stepIns, hg]; exact step
    | some p =>
      obtain ⟨g, want⟩ := p
      simp only [KA0, stepAll, stepIns, hg]
      cases s.env.get g with
      | c x =>
        cases x with
        | b y =>
          cases y with
          | d z =>
            cases z with
            | bool t =>
              simp only
              by_cases h : t = want
              · subst h
                rw [if_pos rfl]
                have e : (t == t) = true := by simp
                simp only [e, cond_true]
                exact step
              · rw [if_neg h]
                have e : (t == want) = false := by simp [h]
                simp only [e, cond_false]
                exact KA0_all
            | _ => rfl
          | _ => rfl
        | _ => rfl
      | _ => rfl

noncomputable def KA (F : Oracle) (bd : Bd) {β : Type} : List AIns → St → (St → Option β) → Option β := hide (KA0 F bd)
theorem KA_nil {F : Oracle} {s : St} {k : St → Option β} : KA F bd [] s k = k s := by rw [KA, hide_eq]; rfl
theorem KA_none {F : Oracle} {d : Option Nat} {op : AOp} {is : List AIns} {s : St} {k : St → Option β} : KA F bd (⟨d, op, none⟩ :: is) s k = (match stepOp F bd s op with
    | some (v, s') => KA F bd is (s'.set d v) k
    | none => none) := by rw [KA, hide_eq]; rfl
theorem KA_some {F : Oracle} {d : Option Nat} {op : AOp} {g : Nat} {want : Bool} {is : List AIns} {s : St} {k : St → Option β} : KA F bd (⟨d, op, some (g, want)⟩ :: is) s k = (match s.env.get g with
    | .c (.b (.d (.bool t))) => if t = want then (match stepOp F bd s op with
        | some (v, s') => KA F bd is (s'.set d v) k
        | none => none) else KA F bd is (s.set d (.c (.b .any))) k
    | _ => none) := by rw [KA, hide_eq]; rfl
theorem KA_all {F : Oracle} {is : List AIns} {s : St} {k : St → Option β} : KA F bd is s k = (match stepAll F bd s is with | some s' => k s' | none => none) := by
  rw [KA, hide_eq]; exact KA0_all

theorem K_region {d : Bool} {ops : List AIns} {keep : List Nat} : K fns bd (.region d ops keep) s k = KA (Fn fns) bd ops s (fun s' => k .normal { s' with env := s'.env.keep keep }) := by
  simp only [K_def, Ev_region, KA_all]
  cases stepAll (Fn fns) bd s ops with
  | none => rfl
  | some s' => rfl

/-- What a call answers behind its body. -/
def endOf (kp : Kp) (fn : AFun) (σ : List Ob) : AExit → St → Option (V × List Ob) := fun e s => match e with
  | .exit _ => none
  | _ => match kp with
    | .free => match resOf s s.σ.length fn.results with
      | some v => some (v, s.σ)
      | none => none
    | _ => match resOf s σ.length fn.results with
      | some v => match frzV (fun l => decide (σ.length ≤ l)) s.σ v with
        | some v => if v.closed σ.length then some (v, s.σ.take σ.length) else none
        | none => none
      | none => none

/-- A call. -/
noncomputable def KF (fns : Nat → Option AFun) (kp : Kp) (fn : AFun) (args : List V) (σ : List Ob) (lo tr : Nat) : Option (V × List Ob) :=
  if args.length = fn.params then match params 0 args with
    | none => none
    | some env =>
      K fns (match kp with
        | .pure => ⟨max lo σ.length, max tr σ.length⟩
        | .trim => ⟨lo, max tr σ.length⟩
        | .free => ⟨lo, tr⟩) fn.body ⟨env, σ⟩ (endOf kp fn σ)
  else none

theorem core_end {F : Oracle} {n : Nat} {kp : Kp} {fn : AFun} {args : List V} {σ : List Ob} {lo tr : Nat} : core F n kp fn args σ lo tr = (if args.length = fn.params then match params 0 args with
    | none => none
    | some env => andK (ev F (match kp with
        | .pure => ⟨max lo σ.length, max tr σ.length⟩
        | .trim => ⟨lo, max tr σ.length⟩
        | .free => ⟨lo, tr⟩) n fn.body ⟨env, σ⟩) (endOf kp fn σ)
  else none) := by
  unfold core
  by_cases hl : args.length = fn.params
  · rw [if_pos hl, if_pos hl]
    cases params 0 args with
    | none => rfl
    | some env =>
      cases kp
      all_goals
        simp only [andK]
        generalize ev F _ n fn.body ⟨env, σ⟩ = r
        cases r with
        | none => rfl
        | some p => obtain ⟨e, s⟩ := p; cases e <;> rfl
  · rw [if_neg hl, if_neg hl]

theorem core_sub_lim {n : Nat} {kp : Kp} {fn : AFun} {args : List V} {σ : List Ob} {lo tr : Nat} {r : V × List Ob} (h : core (evf fns n) n kp fn args σ lo tr = some r) : KF fns kp fn args σ lo tr = some r := by
  rw [core_end] at h
  unfold KF
  by_cases hl : args.length = fn.params
  · rw [if_pos hl] at h ⊢
    cases hp : params 0 args with
    | none => rw [hp] at h; cases h
    | some env =>
      rw [hp] at h
      obtain ⟨e, s1, h1, h2⟩ := andK_some.mp h
      simp only [K_def]
      exact andK_some.mpr ⟨e, s1, Ev_of h1, h2⟩
  · rw [if_neg hl] at h; cases h

theorem core_lim {kp : Kp} {fn : AFun} {args : List V} {σ : List Ob} {lo tr : Nat} {r : V × List Ob} (h : KF fns kp fn args σ lo tr = some r) : ∃ n, core (evf fns n) n kp fn args σ lo tr = some r := by
  unfold KF at h
  by_cases hl : args.length = fn.params
  · rw [if_pos hl] at h
    cases hp : params 0 args with
    | none => rw [hp] at h; cases h
    | some env =>
      rw [hp] at h
      simp only [K_def] at h
      obtain ⟨e, s1, h1, h2⟩ := andK_some.mp h
      obtain ⟨n, hn⟩ := Ev_iff.mp h1
      refine ⟨n, ?_⟩
      rw [core_end, if_pos hl, hp]
      exact andK_some.mpr ⟨e, s1, hn, h2⟩
  · rw [if_neg hl] at h; cases h

theorem base_lim {fn : AFun} {args : List V} {σ : List Ob} {lo tr : Nat} {r : V × List Ob} (hs : (fn.split && isEmp args) = false) : KF fns fn.kp fn args σ lo tr = some r ↔ ∃ n, base (evf fns n) n fn args σ lo tr = some r := by
  simp only [base, hs, cond_false]
  exact ⟨core_lim, fun ⟨n, h⟩ => core_sub_lim h⟩

/-- A call that sees objects. -/
theorem fn_eq {f : Nat} {fn : AFun} (hf : fns f = some fn) {args : List V} {σ : List Ob} {lo tr : Nat} (hs : (fn.split && isEmp args) = false) (hb : blindOk fn args = false) : Fn fns f args σ lo tr = KF fns fn.kp fn args σ lo tr := by
  refine opt_ext fun r => ⟨fun h => ?_, fun h => ?_⟩
  · obtain ⟨n, hn⟩ := fn_iff.mp h
    cases n with
    | zero => cases hn
    | succ n =>
      simp only [evf, hf, hb, cond_false] at hn
      exact (base_lim hs).mpr ⟨n, hn⟩
  · obtain ⟨n, hn⟩ := (base_lim hs).mp h
    exact fn_iff.mpr ⟨n + 1, by simp only [evf, hf, hb, cond_false]; exact hn⟩

theorem pure_closed {fn : AFun} {args : List V} {v : V} {σ1 : List Ob} (h : KF fns .pure fn args [] 0 0 = some (v, σ1)) : v.closed 0 = true := by
  unfold KF at h
  split at h
  · split at h
    · cases h
    · simp only [K_def] at h
      obtain ⟨e, s, h1, h2⟩ := andK_some.mp h
      unfold endOf at h2
      split at h2
      · cases h2
      · simp only at h2
        split at h2
        · split at h2
          · split at h2
            · rename_i hc; cases h2; exact hc
            · cases h2
          · cases h2
        · cases h2
  · cases h

/-- A call of plain values: whatever objects there are. -/
theorem fn_gen {f : Nat} {fn : AFun} (hf : fns f = some fn) (hk : fn.kp = .pure) {args : List V} (hs : (fn.split && isEmp args) = false) (hc : args.all (V.closed 0) = true) {v : V} {σ1 : List Ob} (h : KF fns .pure fn args [] 0 0 = some (v, σ1)) (σ : List Ob) (lo tr : Nat) : Fn fns f args σ lo tr = some (v, σ) := by
  have hv := pure_closed h
  have hb : blindOk fn args = true := by simp only [blindOk, hk, Kp.isPure, hc, Bool.and_self]
  rw [← hk] at h
  obtain ⟨n, hn⟩ := (base_lim hs).mp h
  exact fn_iff.mpr ⟨n + 1, by simp only [evf, hf, hb, cond_true, hn, hv, if_true]⟩

/-- One run is enough. -/
theorem fn_run {f : Nat} {fn : AFun} (hf : fns f = some fn) (hk : fn.kp = .pure) {args : List V} (hc : args.all (V.closed 0) = true) {n : Nat} {v : V} {τ : List Ob} (h : evf fns n f args [] 0 0 = some (v, τ)) (σ : List Ob) (lo tr : Nat) : Fn fns f args σ lo tr = some (v, σ) := by
  have hb : blindOk fn args = true := by simp only [blindOk, hk, Kp.isPure, hc, Bool.and_self]
  cases n with
  | zero => cases h
  | succ n =>
    refine fn_iff.mpr ⟨n + 1, ?_⟩
    simp only [evf, hf, hb, cond_true] at h ⊢
    split at h
    · rename_i v0 σ0 hv0
      split at h
      · rename_i hcl; cases h; simp only [hcl, if_true]
      · cases h
    · cases h

/-- A function that asks whether its one slice is nil: both answer alike. -/
theorem fn_split {f : Nat} {fn : AFun} (hf : fns f = some fn) (hk : fn.kp = .pure) (hs : fn.split = true) {v : V} {σ1 σ2 : List Ob} (h1 : KF fns .pure fn [.c (.b .nils)] [] 0 0 = some (v, σ1)) (h2 : KF fns .pure fn [.c (.b .emp)] [] 0 0 = some (v, σ2)) (hv : v.same v = true) (σ : List Ob) (lo tr : Nat) :
    Fn fns f [.c (.b (.d (.sl [])))] σ lo tr = some (v, σ) := by
  have hcl := pure_closed h1
  have hb : blindOk fn [.c (.b (.d (.sl [])))] = true := by simp only [blindOk, hk]; rfl
  obtain ⟨n, hn⟩ := core_lim h1
  obtain ⟨m, hm⟩ := core_lim h2
  have a1 := core_sub (evf_sub (fns := fns) n (max n m) (Nat.le_max_left n m)) (Nat.le_max_left n m) hn
  have a2 := core_sub (evf_sub (fns := fns) m (max n m) (Nat.le_max_right n m)) (Nat.le_max_right n m) hm
  exact fn_iff.mpr ⟨max n m + 1, by simp only [evf, hf, hb, cond_true, base, hs, isEmp, Bool.and_true, a1, a2, hv, if_true, hcl]⟩

/-- The same of a function that makes objects. -/
theorem fn_split_free {f : Nat} {fn : AFun} (hf : fns f = some fn) (hk : fn.kp ≠ .pure) {σ : List Ob} {lo tr : Nat} (hs : fn.split = true) {v : V} {σ1 σ2 : List Ob} (h1 : KF fns .pure fn [.c (.b .nils)] σ lo tr = some (v, σ1)) (h2 : KF fns .pure fn [.c (.b .emp)] σ lo tr = some (v, σ2)) (hv : v.same v = true) :
    Fn fns f [.c (.b (.d (.sl [])))] σ lo tr = some (v, σ1) := by
  have hb : blindOk fn [.c (.b (.d (.sl [])))] = false := by
    simp only [blindOk]
    cases h : fn.kp with
    | pure => exact absurd h hk
    | _ => rfl
  obtain ⟨n, hn⟩ := core_lim h1
  obtain ⟨m, hm⟩ := core_lim h2
  have a1 := core_sub (evf_sub (fns := fns) n (max n m) (Nat.le_max_left n m)) (Nat.le_max_left n m) hn
  have a2 := core_sub (evf_sub (fns := fns) m (max n m) (Nat.le_max_right n m)) (Nat.le_max_right n m) hm
  exact fn_iff.mpr ⟨max n m + 1, by simp only [evf, hf, hb, cond_false, base, hs, isEmp, Bool.and_true, cond_true, a1, a2, hv, if_true]⟩
end
end Go.Proofs.Ytjkhkblabhaimaa.Am
