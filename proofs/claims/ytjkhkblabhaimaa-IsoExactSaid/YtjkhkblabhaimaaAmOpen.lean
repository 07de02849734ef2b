/- Arguments: from what a row hands in to plain typed data. -/
import Derived.Test.YtjkhkblabhaimaaAmTy
import Derived.Test.YtjkhkblabhaimaaAmRow
import Derived.WalkKit
import Derived.ProofKit
import Derived.OpenShut
import Derived.ShutString
import Derived.ChangeOld
import Derived.Below
import Derived.Carry
import Derived.SizedLaws
namespace Go.Proofs.Ytjkhkblabhaimaa.Am
set_option linter.unusedSimpArgs false
set_option linter.unusedVariables false
open Go Go.RowKit Go.ChangeShapes Go.WideShapes
set_option linter.unusedVariables false

/-- Values that hold plain data, cell by cell, from a place on. -/
def Holds (st : Addr → Value → Prop) (ds : List D) (cs : List Value) (off : Nat) : Prop := ∀ i d, ds[i]? = some d → ∃ v, cs[off + i]? = some v ∧ RepD st d v

def Cells (w : World) (st : Addr → Value → Prop) : Prop := ∀ ad v, w.cell? ad = some v → st ad v

section
variable {P : Program}

/-- What is read as a type is a value of its own. -/
structure Opn (P : Program) (t : TypeId) (k : Nat) {β : Type} (f : β → List D) : Prop where
  pos : 0 < k
  size : P.cellsOf t = k
  len : ∀ b, (f b).length = k
  get : ∀ {H : Type} {enc : TypeId × Value → H} {w : World} {base : Nat} {spare : Nat → Bool} {held : Bool} {fuel : Nat} {cs : List Value} {x : DataW H × List MemPlace}, DataW.trod enc P w base spare held fuel t cs = some x →
    ∃ b, cs.length = k ∧ ∀ st, Cells w st → Holds st (f b) cs 0

/-- A struct's fields: their types, where they stand. -/
def fieldsOf (P : Program) (t : TypeId) : Option (List (TypeId × Nat)) := match P.underlying t with
  | some (.struct fs) => some (fs.toList.map fun f => (f.type, f.offset))
  | _ => none
theorem fieldsOf_some {P : Program} {t : TypeId} {l : List (TypeId × Nat)} (h : fieldsOf P t = some l) : ∃ fs : Array Field, P.underlying t = some (.struct fs) ∧ l = fs.toList.map fun f => (f.type, f.offset) := by
  unfold fieldsOf at h
  split at h
  · rename_i fs hu; cases h; exact ⟨fs, hu, rfl⟩
  · cases h

structure OpnFs (P : Program) (fs : List (TypeId × Nat)) (off k : Nat) {β : Type} (f : β → List D) : Prop where
  len : ∀ b, (f b).length = k
  get : ∀ {H : Type} {enc : TypeId × Value → H} {w : World} {base : Nat} {spare : Nat → Bool} {held : Bool} {n : Nat} {cs : List Value} {xs : List (DataW H × List MemPlace)}, xs.length = fs.length → cs.length = off + k →
    (∀ (i : Nat) (g : TypeId × Nat), fs[i]? = some g → DataW.trod enc P w base spare held n g.1 ((cs.drop g.2).take (P.cellsOf g.1)) = xs[i]?) → ∃ b, ∀ st, Cells w st → Holds st (f b) cs off

theorem Opn.map {t : TypeId} {k : Nat} {β γ : Type} {f : β → List D} {g : γ → List D} (h : Opn P t k f) (φ : β → γ) (e : ∀ b, f b = g (φ b)) (hl : ∀ c, (g c).length = k) : Opn P t k g where
  pos := h.pos
  size := h.size
  len := hl
  get hx := by
    obtain ⟨b, h1, h2⟩ := h.get hx
    exact ⟨φ b, h1, fun st hst => by rw [← e]; exact h2 st hst⟩

theorem Opn.bool {t : TypeId} (ht : P.underlying t = some .bool) (hc : P.cellsOf t = 1) : Opn P t 1 (fun b : Bool => [.bool b]) where
  pos := by omega
  size := hc
  len _ := rfl
  get hx := by
    obtain ⟨b, rfl, _⟩ := DataW.trod_bool ht hx
    refine ⟨b, rfl, fun st _ i d hi => ?_⟩
    cases i with
    | zero => cases hi; exact ⟨_, rfl, .bool b⟩
    | succ i => simp at hi

theorem Opn.int {t : TypeId} (ht : P.underlying t = some (.int .i64)) (hc : P.cellsOf t = 1) : Opn P t 1 (fun n : Int => [.int .i64 n]) where
  pos := by omega
  size := hc
  len _ := rfl
  get hx := by
    obtain ⟨n, rfl, _⟩ := DataW.trod_int ht hx
    refine ⟨n, rfl, fun st _ i d hi => ?_⟩
    cases i with
    | zero => cases hi; exact ⟨_, rfl, .int .i64 n⟩
    | succ i => simp at hi

theorem Opn.str {t : TypeId} (ht : P.underlying t = some .string) (hc : P.cellsOf t = 1) : Opn P t 1 (fun s : ByteArray => [.str s]) where
  pos := by omega
  size := hc
  len _ := rfl
  get hx := by
    obtain ⟨s, rfl, _⟩ := DataW.trod_string ht hx
    refine ⟨s, rfl, fun st _ i d hi => ?_⟩
    cases i with
    | zero => cases hi; exact ⟨_, rfl, .str s⟩
    | succ i => simp at hi

theorem Opn.slice {t e : TypeId} {α : Type} [Rec α] [Inhabited α] (ht : P.underlying t = some (.slice e)) (hc : P.cellsOf t = 1) (h : Opn P e (Rec.k α) (fun x : α => Rec.row x)) : Opn P t 1 (fun l : List α => [.sl (rows l)]) where
  pos := by omega
  size := hc
  len _ := rfl
  get {H enc w base spare held fuel cs x} hx := by
    rcases DataW.trod_slice ht hx with ⟨rfl, _⟩ | ⟨a, len, cap, elems, rest, n, _, rfl, _, hb, hl, hm, hlen, hel, _, _⟩
    · refine ⟨[], rfl, fun st _ i d hi => ?_⟩
      cases i with
      | zero => cases hi; exact ⟨_, rfl, .nil⟩
      | succ i => simp at hi
    · have each : ∀ i, i < len → ∃ (a' : α) (cs' : List Value), (w.cells? base (a.add (i * Rec.k α)) (Rec.k α)) = some cs' ∧ cs'.length = Rec.k α ∧ ∀ st, Cells w st → Holds st (Rec.row a') cs' 0 := by
        intro i hi
        have h1 := hel i hi
        rw [h.size] at h1
        obtain ⟨y, hy⟩ : ∃ y, elems[i]? = some y := ⟨elems[i], by simp [hlen, hi]⟩
        rw [hy] at h1
        obtain ⟨cs', h3, h4⟩ := Option.bind_eq_some_iff.mp h1
        obtain ⟨a', h5, h6⟩ := h.get h4
        exact ⟨a', cs', h3, h5, h6⟩
      have each' : ∀ i, ∃ p : α × List Value, i < len → (w.cells? base (a.add (i * Rec.k α)) (Rec.k α)) = some p.2 ∧ p.2.length = Rec.k α ∧ ∀ st, Cells w st → Holds st (Rec.row p.1) p.2 0 := by
        intro i
        by_cases hi : i < len
        · obtain ⟨a', cs', h1⟩ := each i hi; exact ⟨(a', cs'), fun _ => h1⟩
        · exact ⟨(default, []), fun h => absurd h hi⟩
      obtain ⟨f, hf⟩ := Classical.axiomOfChoice each'
      have hspot : 0 < len → a.spot = none := by
        intro h0
        obtain ⟨g1, g2, g3⟩ := hf 0 h0
        obtain ⟨_, _, g4⟩ := World.cells?_some g1
        have := g4 0 h.pos
        obtain ⟨v, hv⟩ : ∃ v, (f 0).2[0]? = some v := ⟨(f 0).2[0]'(by have := h.pos; omega), by simp⟩
        rw [hv] at this
        have := World.cell?_spot this
        simpa [Addr.add] using this
      let l : List α := (List.range len).map fun i => (f i).1
      have hll : (rows l).length = len := by rw [rs_len]; simp [l]
      have hrow : ∀ (i : Nat) (row : List D), (rows l)[i]? = some row → i < len ∧ row = Rec.row (f i).1 := by
        intro i row hi
        have hlt : i < len := by have := (List.getElem?_eq_some_iff.mp hi).1; omega
        refine ⟨hlt, ?_⟩
        rw [rs_get?] at hi
        simp [l, hlt] at hi
        exact hi.symm
      refine ⟨l, rfl, fun st hst i d hi => ?_⟩
      cases i with
      | succ i => simp at hi
      | zero =>
      cases hi
      refine ⟨_, rfl, ?_⟩
      have key : ∀ (i : Nat) (row : List D) (j : Nat) (d : D), (rows l)[i]? = some row → row[j]? = some d → st ⟨a.block, a.off + i * Rec.k α + j, none⟩ (((f i).2[j]?).getD (.bool false)) ∧ RepD st d (((f i).2[j]?).getD (.bool false)) := by
        intro i row j d hi hj
        obtain ⟨hlt, rfl⟩ := hrow i row hi
        obtain ⟨g1, g2, g3⟩ := hf i hlt
        obtain ⟨v, hv, hr⟩ := g3 st hst j d hj
        rw [Nat.zero_add] at hv
        have hjk : j < Rec.k α := by have := (List.getElem?_eq_some_iff.mp hv).1; omega
        obtain ⟨_, _, g4⟩ := World.cells?_some g1
        have hc := g4 j hjk
        rw [hv] at hc ⊢
        have hs := hspot (by omega)
        obtain ⟨ab, ao, asp⟩ := a
        simp only at hs
        subst hs
        rw [add_plain, add_plain] at hc
        exact ⟨hst _ _ hc, hr⟩
      have := RepD.sl (st := st) (rows l) a (Rec.k α) cap (fun i j => ((f i).2[j]?).getD (.bool false)) (fun hne => hspot (by
          have : rows l ≠ [] := hne
          have := List.length_pos_iff.mpr this
          omega)) (by omega) (fun r hr => by
          obtain ⟨x, _, rfl⟩ := List.mem_map.mp hr
          exact Rec.len x) (fun i row j d hi hj => (key i row j d hi hj).1) (fun i row j d hi hj => (key i row j d hi hj).2)
      rw [hll] at this
      exact this

theorem OpnFs.nil {off : Nat} : OpnFs P [] off 0 (fun _ : Unit => []) where
  len _ := rfl
  get _ _ _ := ⟨(), fun st _ i d hi => by simp at hi⟩

theorem OpnFs.cons {t : TypeId} {fs : List (TypeId × Nat)} {off k1 k2 : Nat} {β γ : Type} {f : β → List D} {g : γ → List D} (h1 : Opn P t k1 f) (h2 : OpnFs P fs (off + k1) k2 g) : OpnFs P ((t, off) :: fs) off (k1 + k2) (fun b : β × γ => f b.1 ++ g b.2) where
  len b := by simp [h1.len, h2.len]
  get {H enc w base spare held n cs xs} hl hcs hx := by
    cases xs with
    | nil => simp at hl
    | cons x xs =>
      have h0 := hx 0 (t, off) rfl
      simp only [List.getElem?_cons_zero] at h0
      obtain ⟨b, b1, b2⟩ := h1.get h0
      obtain ⟨c, c2⟩ := h2.get (cs := cs) (xs := xs) (by simpa using hl) (by omega) (fun i g hg => by
        have := hx (i + 1) g (by simpa using hg)
        simpa using this)
      refine ⟨(b, c), fun st hst i d hi => ?_⟩
      by_cases hi1 : i < k1
      · rw [List.getElem?_append_left (by rw [h1.len]; exact hi1)] at hi
        obtain ⟨v, hv, hr⟩ := b2 st hst i d hi
        refine ⟨v, ?_, hr⟩
        rw [Nat.zero_add, List.getElem?_take, h1.size, if_pos hi1, List.getElem?_drop] at hv
        exact hv
      · rw [List.getElem?_append_right (by rw [h1.len]; omega), h1.len] at hi
        obtain ⟨v, hv, hr⟩ := c2 st hst _ d hi
        refine ⟨v, ?_, hr⟩
        rw [show off + i = off + k1 + (i - k1) by omega]
        exact hv

theorem Opn.struct {t : TypeId} {fs : List (TypeId × Nat)} {k : Nat} {β : Type} {f : β → List D} (ht : fieldsOf P t = some fs) (hc : P.cellsOf t = k) (hp : 0 < k) (h : OpnFs P fs 0 k f) : Opn P t k f where
  pos := hp
  size := hc
  len := h.len
  get {H enc w base spare held fuel cs x} hx := by
    obtain ⟨gs, hu, rfl⟩ := fieldsOf_some ht
    obtain ⟨xs, n, _, _, h1, h2, h3⟩ := DataW.trod_struct hu hx
    obtain ⟨b, hb⟩ := h.get (xs := xs) (cs := cs) (by simpa using h2) (by omega) (fun i g hg => by
      rw [List.getElem?_map, Option.map_eq_some_iff] at hg
      obtain ⟨g0, hg0, rfl⟩ := hg
      exact h3 i g0 (by simpa using hg0))
    exact ⟨b, by omega, hb⟩
end

-- a law's row

theorem g0_cells (w : World) : Cells w ((g0 w).st w) := by
  intro ad v h
  refine ⟨World.cell?_spot h, ?_, .inl ?_⟩
  · exact h
  · have : ad.block < w.heap.size := Classical.byContradiction fun hlt => by
      have e : w.heap[ad.block]? = none := by simp; omega
      simp [World.cell?, e] at h
    simp [g0, this]

theorem trodAll_stays {H : Type} {enc : TypeId × Value → H} {P : Program} (hl : laidOutB P = true) {W W' : World} (hb : Below W.heap.size W W') : ∀ {ts : List TypeId} {vs : List Value} {ds : List (DataW H)} {ps : List MemPlace},
    ts.all (fun t => P.readableRec t && decide (t < P.types.size)) = true → DataW.TrodAll enc P W 0 (fun _ => true) true ts vs ds ps → DataW.TrodAll enc P W' 0 (fun b => decide (b < W.heap.size)) true ts vs ds ps
  | [], vs, ds, ps, _, h => by
    obtain ⟨rfl, rfl, rfl⟩ := trodAll_nil h
    exact trodAll_mk0
  | t :: ts, vs, ds, ps, ht, h => by
    have hlt := DataW.TrodAll.lt h
    obtain ⟨v, vs', d, ds', p, q, rfl, rfl, rfl, h1, h2⟩ := trodAll_cons h
    simp only [List.all_cons, Bool.and_eq_true, decide_eq_true_eq] at ht
    exact trodAll_cons_mk (Below.trod hl ht.1.1 ht.1.2 h1 hb (fun x hx => hlt x (by simp [hx]))) (trodAll_stays hl hb ht.2 h2)

section
variable {P : Program} {H : Type} {enc : TypeId × Value → H} {W : World}

/-- An argument of a struct. -/
theorem arg_agg {t : TypeId} {fs : List (TypeId × Nat)} {α : Type} [Rec α] {base : Nat} {v : Value} {d : DataW H} {ps : List MemPlace} (ht : fieldsOf P t = some fs) (h : Opn P t (Rec.k α) (fun x : α => Rec.row x))
    (hval : Value.okWide P W .any base t v) (hd : DataW.Trod enc P W 0 (fun _ => true) true t v d ps) : ∃ x : α, ∀ r, RepV (g0 W) W (Old W) r (vagg x) v := by
  obtain ⟨gs, hu, rfl⟩ := fieldsOf_some ht
  obtain ⟨arr, rfl, hsz⟩ := okWide_struct hu hval
  obtain ⟨fuel, hf⟩ := hd
  obtain ⟨x, h1, h2⟩ := h.get hf
  simp only [Value.cells] at h1 h2
  refine ⟨x, fun r => ⟨arr, rfl, by simp only [List.length_map, Rec.len]; simpa using h1, fun i c hi => ?_⟩⟩
  rw [List.getElem?_map, Option.map_eq_some_iff] at hi
  obtain ⟨d0, hd0, rfl⟩ := hi
  obtain ⟨u, hu, hr⟩ := h2 _ (g0_cells W) i d0 hd0
  rw [Nat.zero_add] at hu
  exact ⟨u, by simpa using hu, RepD.scalar hr, hr⟩

theorem arg_one {t : TypeId} {β : Type} {f : β → D} {v : Value} {d : DataW H} {ps : List MemPlace} (h : Opn P t 1 (fun b => [f b])) (h1 : v.oneCell' = true) (hd : DataW.Trod enc P W 0 (fun _ => true) true t v d ps) :
    ∃ b, ∀ r, RepV (g0 W) W (Old W) r (.c (.b (.d (f b)))) v := by
  obtain ⟨fuel, hf⟩ := hd
  obtain ⟨b, _, h2⟩ := h.get hf
  obtain ⟨u, hu, hr⟩ := h2 _ (g0_cells W) 0 _ rfl
  rw [one_cells h1] at hu
  simp at hu
  subst hu
  exact ⟨b, fun r => hr⟩

theorem arg_int {t : TypeId} {base : Nat} {v : Value} {d : DataW H} {ps : List MemPlace} (ht : P.underlying t = some (.int .i64)) (hc : P.cellsOf t = 1) (hval : Value.okWide P W .any base t v) (hd : DataW.Trod enc P W 0 (fun _ => true) true t v d ps) :
    ∃ n : Int, ∀ r, RepV (g0 W) W (Old W) r (vint n) v := by
  obtain ⟨n, rfl⟩ := okWide_int ht hval
  exact arg_one (Opn.int ht hc) rfl hd
theorem arg_bool {t : TypeId} {base : Nat} {v : Value} {d : DataW H} {ps : List MemPlace} (ht : P.underlying t = some .bool) (hc : P.cellsOf t = 1) (hval : Value.okWide P W .any base t v) (hd : DataW.Trod enc P W 0 (fun _ => true) true t v d ps) :
    ∃ n : Bool, ∀ r, RepV (g0 W) W (Old W) r (vbool n) v := by
  obtain ⟨n, rfl⟩ := okWide_bool ht hval
  exact arg_one (Opn.bool ht hc) rfl hd
theorem arg_str {t : TypeId} {base : Nat} {v : Value} {d : DataW H} {ps : List MemPlace} (ht : P.underlying t = some .string) (hc : P.cellsOf t = 1) (hval : Value.okWide P W .any base t v) (hd : DataW.Trod enc P W 0 (fun _ => true) true t v d ps) :
    ∃ n : ByteArray, ∀ r, RepV (g0 W) W (Old W) r (vstr n) v := by
  obtain ⟨n, rfl⟩ := okWide_string ht hval
  exact arg_one (Opn.str ht hc) rfl hd
theorem arg_sl {t e : TypeId} {α : Type} [Rec α] [Inhabited α] {base : Nat} {v : Value} {d : DataW H} {ps : List MemPlace} (ht : P.underlying t = some (.slice e)) (hc : P.cellsOf t = 1) (h : Opn P e (Rec.k α) (fun x : α => Rec.row x)) (hval : Value.okWide P W .any base t v) (hd : DataW.Trod enc P W 0 (fun _ => true) true t v d ps) :
    ∃ l : List α, ∀ r, RepV (g0 W) W (Old W) r (vsl l) v := by
  obtain ⟨a, len, cap, rfl⟩ := okWide_slice ht hval
  exact arg_one (Opn.slice ht hc h) rfl hd

/-- The arguments, whole. -/
theorem args_of {xs : List V} {vs : Array Value} (hl : vs.size = xs.length) (h : ∀ (i : Nat) (x : V) (v : Value), xs[i]? = some x → vs[i]? = some v → x.down = x ∧ ∀ r, RepV (g0 W) W (Old W) r x v) : Args (g0 W) W (Old W) xs vs := by
  refine ⟨hl, fun i x hi => ?_⟩
  have hlt : i < vs.size := by have := (List.getElem?_eq_some_iff.mp hi).1; omega
  obtain ⟨h1, h2⟩ := h i x vs[i] hi (by simp [hlt])
  exact ⟨h1, vs[i], by simp [hlt], h2 _⟩
end
end Go.Proofs.Ytjkhkblabhaimaa.Am
