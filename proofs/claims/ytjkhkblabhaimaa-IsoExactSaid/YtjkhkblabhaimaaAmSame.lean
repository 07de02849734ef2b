/- Instructions whose order does not count: what they read, what they write. -/
import Derived.Test.YtjkhkblabhaimaaAmCode
namespace Go.Proofs.Ytjkhkblabhaimaa.Am
open Go
set_option linter.unusedVariables false
set_option linter.unusedSimpArgs false

def Opd.tmps : Opd → List Nat
  | .t n => [n]
  | .k _ => []

def oTmps : Option Opd → List Nat
  | none => []
  | some x => x.tmps

/-- What it reads. -/
def AOp.reads : AOp → List Nat
  | .mov _ x => x.tmps
  | .pick c a b => c.tmps ++ a.tmps ++ b.tmps
  | .build _ ps => ps.flatMap fun p => p.2.2.tmps
  | .bsl _ _ _ _ ps => ps.flatMap fun p => p.2.tmps
  | .ld _ _ x => x.tmps
  | .bin _ x y => x.tmps ++ y.tmps
  | .eq _ _ _ x y => x.tmps ++ y.tmps
  | .un _ x => x.tmps
  | .conv _ x => x.tmps
  | .fa _ x => x.tmps
  | .fld _ _ x => x.tmps
  | .ia _ x i => x.tmps ++ i.tmps
  | .ixs x i => x.tmps ++ i.tmps
  | .slc _ _ x lo hi => x.tmps ++ oTmps lo ++ oTmps hi
  | .slcs x lo hi => x.tmps ++ oTmps lo ++ oTmps hi
  | .mks _ _ _ _ l c => l.tmps ++ c.tmps
  | .len _ x => x.tmps
  | .callp _ xs => xs.flatMap Opd.tmps
  | .callb _ xs => xs.flatMap Opd.tmps
  | _ => []

/-- From where it takes the right to grow. -/
def AOp.takes : AOp → List Nat
  | .mov .own x => x.tmps
  | _ => []

def notPtr : Opd → Bool
  | .k (.c (.b (.ptr _ _))) => false
  | _ => true

/-- May it stand in a head? -/
def headOp : AOp → Bool
  | .mov .cp _ | .mov .own _ | .pick .. | .build .. | .bsl .own .. | .bin .. | .eq .. | .un .. | .conv .. | .fa .. | .fld .. | .ia .. | .ixs .. | .slc .cp .. | .slcs .. | .mks .own .. | .len 0 _ | .len 1 _ | .callb .. => true
  | .ld .cp _ x => notPtr x
  | _ => false

/-- A call that leaves all that stands: it may make objects. -/
def headCall : AOp → Bool
  | .callp .. => true
  | _ => false

def AIns.writes (i : AIns) : List Nat := i.op.takes ++ i.dst.toList
def AIns.gtmp (i : AIns) : List Nat := match i.guard with | some (t, _) => [t] | none => []
def AIns.touch (i : AIns) : List Nat := i.op.reads ++ i.gtmp ++ i.dst.toList

section
variable {F : Oracle} {bd : Bd} {s s1 s2 s' : St}

theorem took_st (s : St) (x : Opd) : (s.took x).σ = s.σ := by cases x <;> rfl
theorem set_st (s : St) (d : Option Nat) (v : V) : (s.set d v).σ = s.σ := by cases d <;> rfl

theorem raw_same {x : Opd} (h : ∀ t ∈ x.tmps, s2.env.get t = s.env.get t) : s2.raw x = s.raw x := by
  cases x with
  | t n => exact h n (by simp [Opd.tmps])
  | k v => rfl

theorem rd_same {x : Opd} (h : ∀ t ∈ x.tmps, s2.env.get t = s.env.get t) : s2.rd x = s.rd x := by rw [St.rd, raw_same h, St.rd]

theorem opt_same {x : Option Opd} {d : Int} (h : ∀ t ∈ oTmps x, s2.env.get t = s.env.get t) : optInt s2 x d = optInt s x d := by
  cases x with
  | none => rfl
  | some x => simp only [optInt, rd_same (x := x) h]

theorem parts_same : ∀ {ps : List (Nat × Nat × Opd)} {zs : List C}, (∀ t ∈ ps.flatMap (fun p => p.2.2.tmps), s2.env.get t = s.env.get t) → partsIn s2 ps zs = partsIn s ps zs
  | [], zs, h => rfl
  | (off, n, x) :: ps, zs, h => by
    simp only [partsIn]
    rw [rd_same (x := x) (fun t ht => h t (by simp [ht]))]
    have := fun zs => parts_same (ps := ps) (zs := zs) (fun t ht => h t (by simp only [List.flatMap_cons, List.mem_append]; exact .inr ht))
    simp only [this]

theorem args_same {xs : List Opd} (h : ∀ t ∈ xs.flatMap Opd.tmps, s2.env.get t = s.env.get t) : xs.map s2.rd = xs.map s.rd :=
  List.map_congr_left fun x hx => rd_same fun t ht => h t (List.mem_flatMap.2 ⟨x, hx, ht⟩)

theorem map_pair {α β : Type} {o : Option (α × β)} {a : α} {b : β} (h : o = some (a, b)) {γ : Type} (c : γ) : o.map (fun p => (p.1, c)) = some (a, c) := by rw [h]; rfl

/-- An operation of a head, in two states that agree on what it reads. -/
theorem step_same {op : AOp} {v : V} (hh : headOp op = true) (hσ : ∀ t l o ob, t ∈ op.reads → (s2.env.get t).down = .c (.b (.ptr l o)) → s.σ[l]? = some ob → s2.σ[l]? = some ob) (he : ∀ t ∈ op.reads, s2.env.get t = s.env.get t) (h : stepOp F bd s op = some (v, s1)) :
    s1.σ = s.σ ∧ (∀ t, t ∉ op.takes → s1.env.get t = s.env.get t) ∧ ∃ s3, stepOp F bd s2 op = some (v, s3) ∧ s3.σ = s2.σ ∧ (∀ t ∈ op.takes, s3.env.get t = s1.env.get t) ∧ (∀ t, t ∉ op.takes → s3.env.get t = s2.env.get t) := by
  have plain : ∀ {o : Option (V × St)}, op.takes = [] → stepOp F bd s op = o → stepOp F bd s2 op = o.map (fun p => (p.1, s2)) → (∀ p, o = some p → p.2 = s) →
      s1.σ = s.σ ∧ (∀ t, t ∉ op.takes → s1.env.get t = s.env.get t) ∧ ∃ s3, stepOp F bd s2 op = some (v, s3) ∧ s3.σ = s2.σ ∧ (∀ t ∈ op.takes, s3.env.get t = s1.env.get t) ∧ (∀ t, t ∉ op.takes → s3.env.get t = s2.env.get t) := by
    intro o ht h1 h2 h3
    have h4 : o = some (v, s1) := h1.symm.trans h
    have h5 : s1 = s := h3 _ h4
    subst h5
    refine ⟨rfl, fun _ _ => rfl, s2, by rw [h2, h4]; rfl, rfl, ?_, fun _ _ => rfl⟩
    rw [ht]; simp
  have one : ∀ {x : Opd}, (∀ t ∈ x.tmps, t ∈ op.reads) → s2.rd x = s.rd x := fun hx => rd_same fun t ht => he t (hx t ht)
  cases op with
  | mov m x =>
    cases m with
    | cp =>
      refine plain rfl rfl ?_ ?_
      · simp only [stepOp, one (x := x) (fun t ht => by simpa [AOp.reads] using ht), Option.map]
      · intro p hp; simp only [stepOp, Option.some.injEq] at hp; rw [← hp]
    | own =>
      simp only [stepOp, Option.some.injEq, Prod.mk.injEq] at h
      obtain ⟨rfl, rfl⟩ := h
      have hraw : s2.raw x = s.raw x := raw_same he
      refine ⟨took_st s x, ?_, s2.took x, by simp only [stepOp, hraw], took_st s2 x, ?_, ?_⟩
      · intro t ht
        cases x with
        | t n => simp only [AOp.takes, Opd.tmps, List.mem_singleton] at ht; simp only [St.took]; rw [env_get_cons, if_neg (fun e => ht e.symm)]
        | k v => rfl
      · intro t ht
        cases x with
        | t n =>
          simp only [AOp.takes, Opd.tmps, List.mem_singleton] at ht
          subst ht
          simp only [St.took]
          rw [env_get_cons, env_get_cons, he t (by simp [AOp.reads, Opd.tmps])]
        | k v => simp [AOp.takes, Opd.tmps] at ht
      · intro t ht
        cases x with
        | t n => simp only [AOp.takes, Opd.tmps, List.mem_singleton] at ht; simp only [St.took]; rw [env_get_cons, if_neg (fun e => ht e.symm)]
        | k v => rfl
    | _ => simp [headOp] at hh
  | pick c a b =>
    refine plain rfl rfl ?_ ?_
    · simp only [stepOp, one (x := c) (fun t ht => by simp [AOp.reads, ht]), one (x := a) (fun t ht => by simp [AOp.reads, ht]), one (x := b) (fun t ht => by simp [AOp.reads, ht])]
      split <;> rfl
    · intro p hp; simp only [stepOp] at hp; split at hp <;> cases hp; rfl
  | build zs ps =>
    refine plain rfl rfl ?_ ?_
    · simp only [stepOp, parts_same (s := s) (s2 := s2) (ps := ps) (zs := zs) he]
      split <;> rfl
    · intro p hp; simp only [stepOp] at hp; split at hp <;> cases hp; rfl
  | bsl m k n zs ps =>
    cases m with
    | own =>
      have : ∀ t ∈ (ps.map fun p => (p.1 * k, k, p.2)).flatMap (fun p => p.2.2.tmps), s2.env.get t = s.env.get t := by
        intro t ht
        refine he t ?_
        simpa [AOp.reads, List.flatMap_map] using ht
      refine plain rfl rfl ?_ ?_
      · simp only [stepOp, parts_same (s := s) (s2 := s2) this]
        split
        · split <;> rfl
        · rfl
      · intro p hp; simp only [stepOp] at hp; split at hp
        · split at hp <;> cases hp; rfl
        · cases hp
    | _ => simp [headOp] at hh
  | ld m n x =>
    cases m with
    | cp =>
      have hx : s2.rd x = s.rd x := one (x := x) (fun t ht => by simpa [AOp.reads] using ht)
      have hg : ∀ l o, s.rd x = .c (.b (.ptr l o)) → getCells s2.σ l = getCells s.σ l := by
        intro l o hl
        cases hgc : getCells s.σ l with
        | none => simp only [stepOp, hl, hgc] at h; cases h
        | some cs =>
          have hsome : s.σ[l]? = some (.cells cs) := by
            unfold getCells at hgc
            split at hgc
            · rename_i h'; cases hgc; exact h'
            · cases hgc
          cases x with
          | t n => simp only [getCells, hσ n l o _ (by simp [AOp.reads, Opd.tmps]) (by rw [← hl, ← hx]; rfl) hsome]
          | k u =>
            simp only [headOp] at hh
            cases u with
            | c c => cases c with
              | b b => cases b with
                | ptr => simp [notPtr] at hh
                | _ => simp [St.rd, St.raw, V.down, C.down] at hl
              | _ => simp [St.rd, St.raw, V.down, C.down] at hl
            | _ => simp [St.rd, St.raw, V.down] at hl
      refine plain rfl rfl ?_ ?_
      · simp only [stepOp, hx]
        split
        · rename_i l off hl
          simp only [hg l off hl]
          repeat' split
          all_goals first | rfl | simp_all
        all_goals
          repeat' split
          all_goals first | rfl | simp_all
      · intro p hp; simp only [stepOp] at hp
        repeat' split at hp
        all_goals cases hp
        all_goals rfl
    | _ => simp [headOp] at hh
  | bin op x y =>
    refine plain rfl rfl ?_ ?_
    · simp only [stepOp, one (x := x) (fun t ht => by simp [AOp.reads, ht]), one (x := y) (fun t ht => by simp [AOp.reads, ht])]
      split <;> rfl
    · intro p hp; simp only [stepOp] at hp; split at hp <;> cases hp; rfl
  | eq neg kd ks x y =>
    refine plain rfl rfl ?_ ?_
    · simp only [stepOp, one (x := x) (fun t ht => by simp [AOp.reads, ht]), one (x := y) (fun t ht => by simp [AOp.reads, ht])]
      split <;> rfl
    · intro p hp; simp only [stepOp] at hp; split at hp <;> cases hp; rfl
  | un op x =>
    refine plain rfl rfl ?_ ?_
    · simp only [stepOp, one (x := x) (fun t ht => by simp [AOp.reads, ht])]
      split <;> rfl
    · intro p hp; simp only [stepOp] at hp; split at hp <;> cases hp; rfl
  | conv k x =>
    refine plain rfl rfl ?_ ?_
    · simp only [stepOp, one (x := x) (fun t ht => by simp [AOp.reads, ht])]
      split <;> rfl
    · intro p hp; simp only [stepOp] at hp; split at hp <;> cases hp; rfl
  | fa off x =>
    refine plain rfl rfl ?_ ?_
    · simp only [stepOp, one (x := x) (fun t ht => by simp [AOp.reads, ht])]
      split <;> rfl
    · intro p hp; simp only [stepOp] at hp; split at hp <;> cases hp <;> rfl
  | fld off n x =>
    refine plain rfl rfl ?_ ?_
    · simp only [stepOp, one (x := x) (fun t ht => by simp [AOp.reads, ht])]
      repeat' split
      all_goals first | rfl | simp_all
    · intro p hp; simp only [stepOp] at hp
      repeat' split at hp
      all_goals cases hp
      all_goals rfl
  | ia k x i =>
    refine plain rfl rfl ?_ ?_
    · simp only [stepOp, one (x := x) (fun t ht => by simp [AOp.reads, ht]), one (x := i) (fun t ht => by simp [AOp.reads, ht])]
      repeat' split
      all_goals first | rfl | simp_all
    · intro p hp; simp only [stepOp] at hp
      repeat' split at hp
      all_goals cases hp
      all_goals rfl
  | ixs x i =>
    refine plain rfl rfl ?_ ?_
    · simp only [stepOp, one (x := x) (fun t ht => by simp [AOp.reads, ht]), one (x := i) (fun t ht => by simp [AOp.reads, ht])]
      repeat' split
      all_goals first | rfl | simp_all
    · intro p hp; simp only [stepOp] at hp
      repeat' split at hp
      all_goals cases hp
      all_goals rfl
  | slc m k x lo hi =>
    cases m with
    | cp =>
      have h1 : ∀ d, optInt s2 lo d = optInt s lo d := fun d => opt_same fun t ht => he t (by simp [AOp.reads, ht])
      have h2 : ∀ d, optInt s2 hi d = optInt s hi d := fun d => opt_same fun t ht => he t (by simp [AOp.reads, ht])
      refine plain rfl rfl ?_ ?_
      · simp only [stepOp, one (x := x) (fun t ht => by simp [AOp.reads, ht]), h1, h2]
        repeat' split
        all_goals first | rfl | simp_all
      · intro p hp; simp only [stepOp] at hp
        repeat' split at hp
        all_goals cases hp
        all_goals rfl
    | _ => simp [headOp] at hh
  | slcs x lo hi =>
    have h1 : ∀ d, optInt s2 lo d = optInt s lo d := fun d => opt_same fun t ht => he t (by simp [AOp.reads, ht])
    have h2 : ∀ d, optInt s2 hi d = optInt s hi d := fun d => opt_same fun t ht => he t (by simp [AOp.reads, ht])
    refine plain rfl rfl ?_ ?_
    · simp only [stepOp, one (x := x) (fun t ht => by simp [AOp.reads, ht]), h1, h2]
      repeat' split
      all_goals first | rfl | simp_all
    · intro p hp; simp only [stepOp] at hp
      repeat' split at hp
      all_goals cases hp
      all_goals rfl
  | mks m k b zs l c =>
    cases m with
    | own =>
      refine plain rfl rfl ?_ ?_
      · simp only [stepOp, one (x := l) (fun t ht => by simp [AOp.reads, ht]), one (x := c) (fun t ht => by simp [AOp.reads, ht])]
        repeat' split
        all_goals first | rfl | simp_all
      · intro p hp; simp only [stepOp] at hp
        repeat' split at hp
        all_goals cases hp
        all_goals rfl
    | _ => simp [headOp] at hh
  | len kd x =>
    have hkd : kd ≠ 2 := by rintro rfl; simp [headOp] at hh
    refine plain rfl rfl ?_ ?_
    · simp only [stepOp, one (x := x) (fun t ht => by simp [AOp.reads, ht])]
      repeat' split
      all_goals first | rfl | simp_all
    · intro p hp; simp only [stepOp] at hp
      repeat' split at hp
      all_goals cases hp
      all_goals rfl
  | callb f xs =>
    refine plain rfl rfl ?_ ?_
    · simp only [stepOp, args_same (s := s) (s2 := s2) he]
      repeat' split
      all_goals first | rfl | simp_all
    · intro p hp; simp only [stepOp] at hp
      repeat' split at hp
      all_goals cases hp
      all_goals rfl
  | _ => simp [headOp] at hh

/-- An instruction of a head, in two states that agree on what it touches. -/
theorem ins_same {i : AIns} (hh : headOp i.op = true) (hσ : ∀ t l o ob, t ∈ i.op.reads → (s2.env.get t).down = .c (.b (.ptr l o)) → s.σ[l]? = some ob → s2.σ[l]? = some ob) (he : ∀ t ∈ i.touch, s2.env.get t = s.env.get t) (h : stepIns F bd s i = some s1) :
    s1.σ = s.σ ∧ (∀ t, t ∉ i.writes → s1.env.get t = s.env.get t) ∧ ∃ s3, stepIns F bd s2 i = some s3 ∧ s3.σ = s2.σ ∧ (∀ t ∈ i.writes, s3.env.get t = s1.env.get t) ∧ (∀ t, t ∉ i.writes → s3.env.get t = s2.env.get t) := by
  have hr : ∀ t ∈ i.op.reads, s2.env.get t = s.env.get t := fun t ht => he t (by simp [AIns.touch, ht])
  have htk : ∀ t ∈ i.op.takes, t ∈ i.op.reads := by
    intro t ht
    cases hop : i.op <;> simp only [hop, AOp.takes, List.not_mem_nil] at ht
    rename_i m x
    cases m <;> simp_all [AOp.reads]
  have sget : ∀ (s : St) (v : V) (t : Nat), (s.set i.dst v).env.get t = if i.dst = some t then v else s.env.get t := by
    intro s v t
    cases hd : i.dst with
    | none => simp [St.set]
    | some d => simp only [St.set]; rw [env_get_cons]; simp
  have go : ∀ {v : V} {s0 : St}, stepOp F bd s i.op = some (v, s0) → s1 = s0.set i.dst v →
      s1.σ = s.σ ∧ (∀ t, t ∉ i.writes → s1.env.get t = s.env.get t) ∧ ∃ s3, stepOp F bd s2 i.op = some (v, s3) ∧ (s3.set i.dst v).σ = s2.σ ∧ (∀ t ∈ i.writes, (s3.set i.dst v).env.get t = s1.env.get t) ∧ (∀ t, t ∉ i.writes → (s3.set i.dst v).env.get t = s2.env.get t) := by
    intro v s0 h0 h1
    obtain ⟨k1, k2, s3, k3, k4, k5, k6⟩ := step_same hh hσ hr h0
    subst h1
    refine ⟨by rw [set_st]; exact k1, fun t ht => ?_, s3, k3, by rw [set_st]; exact k4, fun t ht => ?_, fun t ht => ?_⟩
    · simp only [AIns.writes, List.mem_append, Option.mem_toList, not_or] at ht
      rw [sget, if_neg ht.2]; exact k2 t ht.1
    · simp only [AIns.writes, List.mem_append, Option.mem_toList] at ht
      rw [sget, sget]
      split
      · rfl
      · rename_i hne; exact k5 t (ht.resolve_right hne)
    · simp only [AIns.writes, List.mem_append, Option.mem_toList, not_or] at ht
      rw [sget, if_neg ht.2]; exact k6 t ht.1
  unfold stepIns at h ⊢
  split at h
  · rename_i hg
    split at h
    case h_2 => cases h
    rename_i v s0 h0
    simp only [Option.some.injEq] at h
    obtain ⟨k1, k2, s3, k3, k4, k5, k6⟩ := go h0 h.symm
    exact ⟨k1, k2, _, by rw [k3], k4, k5, k6⟩
  · rename_i gt want hg
    have hgt : s2.env.get gt = s.env.get gt := he gt (by simp [AIns.touch, AIns.gtmp, hg])
    rw [hgt]
    split at h
    case h_2 => cases h
    rename_i b hb
    cases hw : b == want with
    | true =>
      rw [hw] at h
      simp only [cond_true] at h ⊢
      split at h
      case h_2 => cases h
      rename_i v s0 h0
      simp only [Option.some.injEq] at h
      obtain ⟨k1, k2, s3, k3, k4, k5, k6⟩ := go h0 h.symm
      exact ⟨k1, k2, _, by rw [k3], k4, k5, k6⟩
    | false =>
      rw [hw] at h
      simp only [cond_false, Option.some.injEq] at h ⊢
      subst h
      refine ⟨set_st _ _ _, fun t ht => ?_, _, rfl, set_st _ _ _, fun t ht => ?_, fun t ht => ?_⟩
      · simp only [AIns.writes, List.mem_append, Option.mem_toList, not_or] at ht
        rw [sget, if_neg ht.2]
      · simp only [AIns.writes, List.mem_append, Option.mem_toList] at ht
        rw [sget, sget]
        split
        · rfl
        · rename_i hne; exact hr t (htk t (ht.resolve_right hne))
      · simp only [AIns.writes, List.mem_append, Option.mem_toList, not_or] at ht
        rw [sget, if_neg ht.2]

/-- A call that leaves what stands, in two states with the same objects that agree on what it touches. -/
theorem call_same {i : AIns} (hK : KeepF F) (hh : headCall i.op = true) (hσ : s2.σ = s.σ) (he : ∀ t ∈ i.touch, s2.env.get t = s.env.get t) (h : stepIns F bd s i = some s1) :
    s.σ.length ≤ s1.σ.length ∧ (∀ l, l < s.σ.length → s1.σ[l]? = s.σ[l]?) ∧ (∀ t, t ∉ i.writes → s1.env.get t = s.env.get t) ∧
      ∃ s3, stepIns F bd s2 i = some s3 ∧ s3.σ = s1.σ ∧ (∀ t ∈ i.writes, s3.env.get t = s1.env.get t) ∧ (∀ t, t ∉ i.writes → s3.env.get t = s2.env.get t) := by
  obtain ⟨d, op, gd⟩ := i
  cases op with
  | callp f xs =>
    have hw : (⟨d, .callp f xs, gd⟩ : AIns).writes = d.toList := rfl
    have sget : ∀ (s : St) (v : V) (t : Nat), (s.set d v).env.get t = if d = some t then v else s.env.get t := by
      intro s v t
      cases hd : d with
      | none => simp [St.set]
      | some d => simp only [St.set]; rw [env_get_cons]; simp
    have hargs : xs.map s2.rd = xs.map s.rd := args_same fun t ht => he t (by simp only [AIns.touch, AOp.reads, List.mem_append]; exact .inl (.inl ht))
    have go : ∀ {v : V} {s0 : St}, stepOp F bd s (.callp f xs) = some (v, s0) → s0.env = s.env ∧ s.σ.length ≤ s0.σ.length ∧ (∀ l, l < s.σ.length → s0.σ[l]? = s.σ[l]?) ∧ stepOp F bd s2 (.callp f xs) = some (v, { s2 with σ := s0.σ }) := by
      intro v s0 h0
      simp only [stepOp] at h0 ⊢
      rw [hargs, hσ]
      split at h0
      case h_2 => cases h0
      rename_i v1 σ1 hF
      split at h0
      case isFalse => cases h0
      rename_i hlen
      cases h0
      refine ⟨rfl, hlen, fun l hl => hK _ _ _ _ _ _ _ hF l (by omega) hl, ?_⟩
      simp only [hF, if_pos hlen]
    have fin : ∀ (v : V) (s0 : St), s0.env = s.env → (∀ t, t ∉ d.toList → (s0.set d v).env.get t = s.env.get t) ∧ (∀ t ∈ d.toList, (St.set { s2 with σ := s0.σ } d v).env.get t = (s0.set d v).env.get t) ∧ (∀ t, t ∉ d.toList → (St.set { s2 with σ := s0.σ } d v).env.get t = s2.env.get t) := by
      intro v s0 h0
      refine ⟨fun t ht => ?_, fun t ht => ?_, fun t ht => ?_⟩ <;> simp only [Option.mem_toList] at ht
      · rw [sget, if_neg ht, h0]
      · rw [sget, sget, if_pos ht, if_pos ht]
      · rw [sget, if_neg ht]
    rw [hw]
    unfold stepIns at h ⊢
    split at h
    · rename_i hg
      simp only at hg
      split at h
      case h_2 => cases h
      rename_i v s0 h0
      cases h
      obtain ⟨k1, k2, k3, k4⟩ := go h0
      obtain ⟨f1, f2, f3⟩ := fin v s0 k1
      refine ⟨by rw [set_st]; exact k2, fun l hl => by rw [set_st]; exact k3 l hl, f1, _, ?_, ?_, f2, f3⟩
      · simp only [k4]
      · rw [set_st, set_st]
    · rename_i gt want hg
      simp only at hg
      have hgt : s2.env.get gt = s.env.get gt := he gt (by simp [AIns.touch, AIns.gtmp, hg])
      simp only [hgt]
      split at h
      case h_2 => cases h
      rename_i b hb
      cases hwn : b == want with
      | true =>
        rw [hwn] at h
        simp only [cond_true] at h ⊢
        split at h
        case h_2 => cases h
        rename_i v s0 h0
        simp only [Option.some.injEq] at h
        subst h
        obtain ⟨k1, k2, k3, k4⟩ := go h0
        obtain ⟨f1, f2, f3⟩ := fin v s0 k1
        refine ⟨by rw [set_st]; exact k2, fun l hl => by rw [set_st]; exact k3 l hl, f1, _, by simp only [k4], ?_, f2, f3⟩
        rw [set_st, set_st]
      | false =>
        rw [hwn] at h
        simp only [cond_false, Option.some.injEq] at h ⊢
        subst h
        refine ⟨by rw [set_st]; exact Nat.le_refl _, fun l _ => by rw [set_st], fun t ht => ?_, _, rfl, by rw [set_st, set_st, hσ], fun t ht => ?_, fun t ht => ?_⟩ <;> simp only [Option.mem_toList] at ht
        · rw [sget, if_neg ht]
        · rw [sget, sget, if_pos ht, if_pos ht]
        · rw [sget, if_neg ht]
  | _ => simp [headCall] at hh
end
end Go.Proofs.Ytjkhkblabhaimaa.Am
