/- Blocks that are drawn before their time: they are nobody's, and later an object's. -/
import Derived.Test.YtjkhkblabhaimaaAmDraw
namespace Go.Proofs.Ytjkhkblabhaimaa.Am
open Go
set_option linter.unusedVariables false
set_option linter.unusedSimpArgs false

section
variable {g g' : G} {w w' : World} {Pr Pr2 : Nat → Prop} {s s' : St} {a a' : Act}

theorem RepC.pw (hp : ∀ b, g.kind b ≠ .free → Pr2 b → Pr b) {p : Place} {x : C} {v : Value} (h : RepC g w Pr p x v) : RepC g w Pr2 p x v := by
  cases x with
  | b x => exact h
  | osl k rows =>
    obtain ⟨h1, h2, h3⟩ := h
    refine ⟨h1, h2, h3.imp id ?_⟩
    rintro ⟨a, cap, h4, h5⟩
    refine ⟨a, cap, h4, h5.imp id ?_⟩
    rintro ⟨s1, s2, s3, s4, s5, s6⟩
    exact ⟨s1, s2, s3, s4, fun h => s5 (hp _ (by rw [s3]; simp) h), s6⟩
  | fn f fst cap => exact h
  | nilf => exact h

theorem RepV1.pw (hp : ∀ b, g.kind b ≠ .free → Pr2 b → Pr b) {r : Root} {path : List Nat} {x : V} {v : Value} (h : RepV1 g w Pr r path x v) : RepV1 g w Pr2 r path x v := by
  cases x with
  | c x => exact RepC.pw hp h
  | agg cs =>
    obtain ⟨arr, h1, h2, h3⟩ := h
    refine ⟨arr, h1, h2, fun i c hi => ?_⟩
    obtain ⟨u, k1, k2, k3⟩ := h3 i c hi
    exact ⟨u, k1, k2, RepC.pw hp k3⟩
  | tup vs => exact h

theorem RepV.pw (hp : ∀ b, g.kind b ≠ .free → Pr2 b → Pr b) {r : Root} {x : V} {v : Value} (h : RepV g w Pr r x v) : RepV g w Pr2 r x v := by
  cases x with
  | c x => exact RepV1.pw (x := .c x) (path := []) hp h
  | agg cs => exact RepV1.pw (x := .agg cs) (path := []) hp h
  | tup vs =>
    obtain ⟨arr, h1, h2⟩ := h
    refine ⟨arr, h1, fun i x hi => ?_⟩
    obtain ⟨u, k1, k2⟩ := h2 i x hi
    exact ⟨u, k1, RepV1.pw hp k2⟩

theorem RepOb.pw (hp : ∀ b, g.kind b ≠ .free → Pr2 b → Pr b) {l : Nat} {x : Ob} (h : RepOb g w Pr l x) : RepOb g w Pr2 l x := by
  cases x with
  | cells cs =>
    obtain ⟨b, o, arr, ty, h1, h2, h3, h4, h5⟩ := h
    refine ⟨b, o, arr, ty, h1, h2, h3, h4, fun i c hi => ?_⟩
    obtain ⟨u, k1, k2, k3⟩ := h5 i c hi
    exact ⟨u, k1, k2, RepC.pw hp k3⟩
  | map es =>
    obtain ⟨b, o, mes, clock, h1, h2, h3, h4, h5⟩ := h
    refine ⟨b, o, mes, clock, h1, h2, h3, h4, fun i k v hi => ?_⟩
    obtain ⟨m, k1, k2, k3⟩ := h5 i k v hi
    exact ⟨m, k1, RepV1.pw hp k2, RepV1.pw hp k3⟩
  | dead => trivial

theorem EnvOk.pw (hp : ∀ b, g.kind b ≠ .free → Pr2 b → Pr b) {env : Env} (h : EnvOk g w Pr env a) : EnvOk g w Pr2 env a := fun t => RepV.pw hp (h t)

theorem Inv.pr' {σ : List Ob} (hI : Inv g w Pr σ) (hp : ∀ b, g.kind b ≠ .free → Pr2 b → Pr b) (hq : ∀ b, Pr2 b → b < w.heap.size ∧ (∀ l, g.kind b ≠ .obj l) ∧ ∀ l i, g.own b ≠ some (.cell l, i)) : Inv g w Pr2 σ where
  len := hI.len
  ob l o h := RepOb.pw hp (hI.ob l o h)
  lt := hI.lt
  pr := hq

theorem InvA.less {N : Nat} (hA : InvA N g w Pr s a) (hp : ∀ b, Pr2 b → Pr b) : InvA N g w Pr2 s a :=
  ⟨hA.inv.pr' (fun b _ h => hp b h) (fun b h => hA.inv.pr b (hp b h)), hA.env.pw (fun b _ h => hp b h), hA.size, hA.defers⟩

/-- A block that is nobody's. -/
def G.noOwn (g : G) (b : Nat) : G := { g with own := fun x => if x = b then none else g.own x }

theorem lone_kind (hI : Inv g w Pr s.σ) : g.kind w.heap.size = .free := by
  cases h : g.kind w.heap.size with
  | free => rfl
  | _ => exact absurd (hI.lt _ (by rw [h]; simp)) (by omega)

theorem lone_ext (hI : Inv g w Pr s.σ) (o : Obj) : Ext g w (g.noOwn w.heap.size) (w.alloc o) where
  st x v h := by
    obtain ⟨h1, h2, h3⟩ := h
    have hlt : x.block < w.heap.size := hI.lt _ (by rcases h3 with h3 | ⟨n, h3, _⟩ <;> rw [h3] <;> simp)
    exact ⟨h1, by rw [alloc_cell hlt]; exact h2, h3⟩
  loc l x h := h
  size := by simp
  shape b arr ty fz h := ⟨arr, by rw [alloc_get b (Array.getElem?_eq_some_iff.mp h).1]; exact h, rfl⟩
  os := rfl
  tape := rfl
  output := rfl

theorem lone_keep (hI : Inv g w Pr s.σ) (p : Place) : Keep g (g.noOwn w.heap.size) p := by
  intro b n h1 h2
  have hlt : b < w.heap.size := hI.lt _ (by rw [h2]; simp)
  have hne : b ≠ w.heap.size := by omega
  exact ⟨by simpa [G.noOwn, hne] using h1, h2⟩

theorem lone_fr (hI : Inv g w Pr s.σ) (o : Obj) : Fr Pr g w (g.noOwn w.heap.size) (w.alloc o) := by
  intro b hb
  have hlt := (hI.pr b hb).1
  have hne : b ≠ w.heap.size := by omega
  exact ⟨alloc_get b hlt, rfl, by simp [G.noOwn, hne]⟩

/-- A new block that is nobody's, and is to stay so. -/
theorem lone {N : Nat} (hA : InvA N g w Pr s a) (o : Obj) : InvA N (g.noOwn w.heap.size) (w.alloc o) (fun b => Pr b ∨ b = w.heap.size) s a := by
  have hI := hA.inv
  have hE := lone_ext hI o
  have hinv : Inv (g.noOwn w.heap.size) (w.alloc o) Pr s.σ := by
    refine ⟨hI.len, fun l x hx => ?_, fun b hb => ?_, fun b hb => ?_⟩
    · refine RepOb.frame hE (fun i => lone_keep hI _) ?_ (hI.ob l x hx)
      intro b hb
      have hlt : b < w.heap.size := hI.lt _ (by rw [hb]; simp)
      exact ⟨alloc_get b hlt, hb⟩
    · have := hI.lt b hb
      simp; omega
    · obtain ⟨h1, h2, h3⟩ := hI.pr b hb
      have hne : b ≠ w.heap.size := by omega
      exact ⟨by simp; omega, h2, by simpa [G.noOwn, hne] using h3⟩
  have hk : (g.noOwn w.heap.size).kind w.heap.size = .free := lone_kind (g := g) (s := s) hI
  have hpr : ∀ b, (g.noOwn w.heap.size).kind b ≠ .free → (Pr b ∨ b = w.heap.size) → Pr b := by
    rintro b h1 (h2 | rfl)
    · exact h2
    · exact absurd hk h1
  refine ⟨hinv.pr' hpr ?_, EnvOk.pw hpr (hA.env.ext hE (fun _ _ => lone_keep hI _)), hA.size, hA.defers⟩
  rintro b (hb | rfl)
  · exact hinv.pr b hb
  · exact ⟨by simp, by rw [hk]; simp, by simp [G.noOwn]⟩

/-- Such a block becomes an object. -/
def G.adopt (g : G) (b l : Nat) : G := (g.withKind b (.obj l)).withLoc (b, 0)

theorem adopt_ext {b l : Nat} (hk : g.kind b = .free) : Ext g w (g.adopt b l) w where
  st x v h := by
    obtain ⟨h1, h2, h3⟩ := h
    have hne : x.block ≠ b := by rintro rfl; rcases h3 with h3 | ⟨n, h3, _⟩ <;> rw [hk] at h3 <;> cases h3
    exact ⟨h1, h2, by simpa [G.adopt, G.withKind, G.withLoc, hne] using h3⟩
  loc l x h := loc_old h
  size := Nat.le_refl _
  shape b arr ty fz h := ⟨arr, h, rfl⟩
  os := rfl
  tape := rfl
  output := rfl

theorem adopt_keep {b l : Nat} (hk : g.kind b = .free) (p : Place) : Keep g (g.adopt b l) p := by
  intro x n h1 h2
  have hne : x ≠ b := by rintro rfl; rw [hk] at h2; cases h2
  exact ⟨h1, by simpa [G.adopt, G.withKind, G.withLoc, hne] using h2⟩

theorem adopt_inv {N : Nat} (hA : InvA N g w Pr s a) {b : Nat} {arr : Array Value} {ty : TypeId} {zs : List C} (hk : g.kind b = .free) (hb : w.heap[b]? = some (.cells arr ty (0, 0))) (hl : zs.length ≤ arr.size)
    (hc : ∀ (i : Nat) (c : C), zs[i]? = some c → ∃ u, arr[i]? = some u ∧ u.oneCell' = true ∧ ∀ p, RepC g w Pr p c u) {d : Nat} (hd : a.tmps.getD d undef = .pointer (some ⟨b, 0, none⟩)) :
    InvA N (g.adopt b s.σ.length) w (fun x => Pr x ∧ x ≠ b) ⟨(d, .c (.b (.ptr s.σ.length 0))) :: s.env, s.σ ++ [.cells zs]⟩ a := by
  have hI := hA.inv
  have hE : Ext g w (g.adopt b s.σ.length) w := adopt_ext hk
  have hpr : ∀ x, (g.adopt b s.σ.length).kind x ≠ .free → (Pr x ∧ x ≠ b) → Pr x := fun x _ h => h.1
  have hloc : (g.adopt b s.σ.length).loc[s.σ.length]? = some (b, 0) := by simp [G.adopt, G.withLoc, G.withKind, ← hI.len]
  refine ⟨⟨by simp [G.adopt, G.withLoc, G.withKind, hI.len], fun l x hx => ?_, fun x hx => ?_, fun x hx => ?_⟩, fun t => ?_, hA.size, hA.defers⟩
  · by_cases hlt : l < s.σ.length
    · rw [List.getElem?_append_left hlt] at hx
      refine RepOb.pw hpr (RepOb.frame hE (fun i => adopt_keep hk _) ?_ (hI.ob l x hx))
      intro y hy
      have hne : y ≠ b := by rintro rfl; rw [hk] at hy; cases hy
      exact ⟨rfl, by simpa [G.adopt, G.withKind, G.withLoc, hne] using hy⟩
    · rw [List.getElem?_append_right (by omega)] at hx
      have : l = s.σ.length := by
        have := (List.getElem?_eq_some_iff.mp hx).1
        simp at this; omega
      subst this
      simp at hx
      subst hx
      refine ⟨b, 0, arr, ty, hloc, by simp [G.adopt, G.withKind, G.withLoc], hb, by omega, fun i c hi => ?_⟩
      obtain ⟨u, k1, k2, k3⟩ := hc i c hi
      exact ⟨u, by simpa using k1, k2, RepC.pw hpr (RepC.ext hE (adopt_keep hk _) (k3 _))⟩
  · by_cases he : x = b
    · subst he; exact (Array.getElem?_eq_some_iff.1 hb).1
    · exact hI.lt x (by simpa [G.adopt, G.withKind, G.withLoc, he] using hx)
  · obtain ⟨h1, h2, h3⟩ := hI.pr x hx.1
    exact ⟨h1, by simpa [G.adopt, G.withKind, G.withLoc, hx.2] using h2, h3⟩
  · show RepV _ _ _ _ (Env.get ((d, _) :: s.env) t) _
    rw [env_get_cons]
    split
    · rename_i e; subst e; rw [hd]; exact ⟨b, 0, hloc, by simp⟩
    · exact RepV.pw hpr (RepV.ext hE (fun _ => adopt_keep hk _) (hA.env t))
end
end Go.Proofs.Ytjkhkblabhaimaa.Am
