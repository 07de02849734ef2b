/- Append. -/
import Derived.Test.YtjkhkblabhaimaaAmMem6
namespace Go.Proofs.Ytjkhkblabhaimaa.Am
set_option linter.unusedSimpArgs false
set_option linter.unusedVariables false
open Go
set_option linter.unusedVariables false

section
variable {P : Program} {g g' : G} {w w' : World} {Pr : Nat → Prop} {s s' : St} {a : Act} {F : Oracle} {bd : Bd}

/-- What an append reads of its second argument. -/
theorem read_rows (hI : Inv g w Pr s.σ) (hE : EnvOk g w Pr s.env a) {y : Operand} {y' : Opd} (hy : chkOpd y y' = true) {k : Nat} {ys : List (List D)} (hr : rowsOf s.σ (s.rd y') = some ys) (hk : ∀ r ∈ ys, r.length = k) :
    ∃ (bs : Option Addr) (cap : Nat) (us : List Value), a.eval y = .slice bs ys.length cap ∧ us.length = ys.length * k ∧ (∀ u ∈ us, u.oneCell' = true) ∧ RowsIn g w k ys us.toArray ∧
      ∀ w' : World, w'.heap = w.heap → (Builtin.firstCells k ys.length (.slice bs ys.length cap)).run P w' = .ok us.toArray w' := by
  have h1 := opd_rd hE hy (.tmp 0)
  -- from cells that stand there
  have fin : ∀ (b o cap : Nat) (f : Nat → Value), a.eval y = .slice (some ⟨b, o, none⟩) ys.length cap → (∀ (i : Nat) (row : List D) (j : Nat) (d : D), ys[i]? = some row → row[j]? = some d → w.cell? ⟨b, o + (i * k + j), none⟩ = some (f (i * k + j)) ∧ RepD (g.st w) d (f (i * k + j))) →
      ∃ (bs : Option Addr) (cap : Nat) (us : List Value), a.eval y = .slice bs ys.length cap ∧ us.length = ys.length * k ∧ (∀ u ∈ us, u.oneCell' = true) ∧ RowsIn g w k ys us.toArray ∧
      ∀ w' : World, w'.heap = w.heap → (Builtin.firstCells k ys.length (.slice bs ys.length cap)).run P w' = .ok us.toArray w' := by
    intro b o cap f he hf
    have hidx : ∀ m, m < ys.length * k → ∃ i row j d, ys[i]? = some row ∧ row[j]? = some d ∧ m = i * k + j := by
      intro m hm
      have hkp : 0 < k := by rcases Nat.eq_zero_or_pos k with h | h; · subst h; simp at hm
                             · exact h
      have hi : m / k < ys.length := Nat.div_lt_of_lt_mul (by rw [Nat.mul_comm]; exact hm)
      have hj : m % k < k := Nat.mod_lt _ hkp
      have hrow : (ys[m / k]).length = k := hk _ (List.getElem_mem hi)
      exact ⟨m / k, ys[m / k], m % k, (ys[m / k])[m % k], by simp [hi], by simp [hrow, hj], by rw [Nat.mul_comm]; exact (Nat.div_add_mod m k).symm⟩
    refine ⟨_, cap, (List.range (ys.length * k)).map f, he, by simp, ?_, ?_, ?_⟩
    · intro u hu
      simp only [List.mem_map, List.mem_range] at hu
      obtain ⟨m, hm, rfl⟩ := hu
      obtain ⟨i, row, j, d, e1, e2, rfl⟩ := hidx m hm
      exact RepD.scalar (hf i row j d e1 e2).2
    · intro i row j d hi hj
      have h1 := (List.getElem?_eq_some_iff.mp hi).1
      have h2 := (List.getElem?_eq_some_iff.mp hj).1
      rw [hk row (List.mem_of_getElem? hi)] at h2
      exact ⟨f (i * k + j), by simp [row_idx h1 h2], (hf i row j d hi hj).2⟩
    · intro w' hw'
      refine run_firstCells_some (P := P) w' k ys.length ⟨b, o, none⟩ _ cap _ (by simp) (fun m v hm => ?_)
      simp only [List.getElem?_map, Option.map_eq_some_iff] at hm
      obtain ⟨m', hm', rfl⟩ := hm
      obtain ⟨rfl, hlt⟩ := range_get hm'
      obtain ⟨i, row, j, d, e1, e2, rfl⟩ := hidx m hlt
      rw [addr_add]
      simp only [World.cell?, hw']
      exact (hf i row j d e1 e2).1
  have none_ : a.eval y = .slice none 0 0 → ys = [] → ∃ (bs : Option Addr) (cap : Nat) (us : List Value), a.eval y = .slice bs ys.length cap ∧ us.length = ys.length * k ∧ (∀ u ∈ us, u.oneCell' = true) ∧ RowsIn g w k ys us.toArray ∧
      ∀ w' : World, w'.heap = w.heap → (Builtin.firstCells k ys.length (.slice bs ys.length cap)).run P w' = .ok us.toArray w' := by
    intro he hys
    subst hys
    exact ⟨none, 0, [], he, by simp, by simp, fun i row j d hi => by simp at hi, fun w' _ => run_firstCells_none (P := P) w' _ _ _ _⟩
  have sl_ : RepD (g.st w) (.sl ys) (a.eval y) → ∃ (bs : Option Addr) (cap : Nat) (us : List Value), a.eval y = .slice bs ys.length cap ∧ us.length = ys.length * k ∧ (∀ u ∈ us, u.oneCell' = true) ∧ RowsIn g w k ys us.toArray ∧
      ∀ w' : World, w'.heap = w.heap → (Builtin.firstCells k ys.length (.slice bs ys.length cap)).run P w' = .ok us.toArray w' := by
    intro h
    generalize hu : a.eval y = u at h
    cases h with
    | nil => rw [hu] at none_; exact none_ rfl rfl
    | sl _ ad k0 cap vs q1 q2 q3 q4 q5 =>
      by_cases hem : ys = []
      · subst hem
        exact ⟨_, cap, [], rfl, by simp, by simp, fun i row j d hi => by simp at hi, fun w' _ => by simp [Builtin.firstCells, loadCells, loadCellsFrom]⟩
      · have hsp := q1 hem
        have hk0 : k0 = k := by
          obtain ⟨r0, hr0⟩ := List.exists_mem_of_ne_nil _ hem
          rw [← q3 _ hr0, hk _ hr0]
        subst hk0
        obtain ⟨ab, ao, sp⟩ := ad
        cases hsp
        rw [hu] at fin
        have hpos : ∀ (i : Nat) (row : List D) (j : Nat) (d : D), ys[i]? = some row → row[j]? = some d → j < k0 := fun i row j d hi hj => by
          rw [← hk row (List.mem_of_getElem? hi)]; exact (List.getElem?_eq_some_iff.mp hj).1
        refine fin ab ao cap (fun m => vs (m / k0) (m % k0)) rfl (fun i row j d hi hj => ?_)
        have hj' := hpos i row j d hi hj
        have e1 : (i * k0 + j) / k0 = i := by rw [Nat.mul_comm, Nat.mul_add_div (by omega), Nat.div_eq_of_lt hj']; omega
        have e2 : (i * k0 + j) % k0 = j := by rw [Nat.mul_comm, Nat.mul_add_mod, Nat.mod_eq_of_lt hj']
        simp only [e1, e2]
        have := q4 i row j d hi hj
        rw [← Nat.add_assoc]
        exact ⟨this.2.1, q5 i row j d hi hj⟩
  unfold rowsOf at hr
  split at hr
  · rename_i k' rows hrd
    cases hr
    rw [hrd] at h1
    exact sl_ h1.1
  · rename_i rows hrd
    cases hr
    rw [hrd] at h1
    exact sl_ h1
  · rename_i k' l off len hrd
    rw [hrd] at h1
    obtain ⟨b, q, cap, arr, ty, hl, e1, e2, e3, e4⟩ := h1
    split at hr
    case h_2 => cases hr
    rename_i cs hcs
    obtain ⟨b', q', arr', ty', h3, h4, h5, h6, h7⟩ := hI.ob _ _ (getCells_eq hcs)
    rw [hl] at h3
    cases h3
    rw [e3] at h5
    cases h5
    obtain ⟨r1, r2, r3⟩ := chunk_get hr
    rw [← r1] at e1
    have hkk : ys ≠ [] → k' = k := by
      intro hne
      obtain ⟨r0, hr0⟩ := List.exists_mem_of_ne_nil _ hne
      rw [← r2 _ hr0, hk _ hr0]
    refine fin b (q + off) cap (fun m => arr.getD (q + off + m) undef) e1 (fun i row j d hi hj => ?_)
    have hne : ys ≠ [] := by rintro rfl; simp at hi
    obtain ⟨c, c1, c2⟩ := r3 i row j d hi hj
    rw [hkk hne, List.getElem?_drop] at c1
    obtain ⟨u, u1, u2, u3⟩ := h7 _ _ c1
    rw [← Nat.add_assoc] at u1
    exact ⟨by rw [cell_of e3]; simp [Array.getD_eq_getD_getElem?, u1], by simpa [Array.getD_eq_getD_getElem?, u1] using data_rep c2 u3⟩
  · rename_i hrd
    cases hr
    rw [hrd] at h1
    exact none_ h1 rfl
  · rename_i hrd
    cases hr
    rw [hrd] at h1
    obtain ⟨ad, cap, he⟩ := h1
    exact ⟨_, cap, [], he, by simp, by simp, fun i row j d hi => by simp at hi, fun w' _ => by simp [Builtin.firstCells, loadCells, loadCellsFrom]⟩
  · cases hr

theorem run_app_grow {t t2 ty e e2 : TypeId} {i : TypeInfo} {z x : Value} {bs : Option Addr} {sLen sCap n : Nat} {old new : Array Value} (ht : P.underlying t = some (.slice e)) (hd : P.underlying t2 = some (.slice e2))
    (hi : P.info? e = some i) (hz : i.zero = some z) (hx : ∃ b c, x = .slice b n c) (hg : sCap < sLen + n) (h63 : sLen + n ≤ 70368744177664) (hfit : (sLen + n) * i.bytes ≤ 70368744177664) (hby : i.bytes ≠ 0)
    (ho : (Builtin.firstCells i.size sLen (.slice bs sLen sCap)).run P w.drew = .ok old w.drew) (hn : (Builtin.firstCells i.size n x).run P w.drew = .ok new w.drew) :
    (Builtin.append_ #[t, t2] ty #[.slice bs sLen sCap, x]).run P w =
      .ok (.slice (some ⟨w.heap.size, 0, none⟩) (sLen + n) (grownCap w (sLen + n) sCap e)) (w.drew.alloc (.cells (old ++ new ++ Builtin.zeroCells z.cells (grownCap w (sLen + n) sCap e - (sLen + n))) e)) := by
  obtain ⟨b, c, rfl⟩ := hx
  have hn' : ¬ (sLen + n ≤ sCap) := by omega
  have h63' : ¬ (9223372036854775807 < ((sLen : Int) + (n : Int))) := by omega
  have hf := growslice_fits (bytes := i.bytes) hg (by omega)
  have h48' : ¬ (281474976710656 < Builtin.nextslicecap (sLen + n) sCap * i.bytes) := by omega
  simp [Builtin.append_, run_underlying ht, run_underlying hd, sizeOf, typeInfo, zeroValue, hi, hz, Builtin.lenOf, hn', h63', h48', Question.forced, ho, hn, newRow, grownCap]

theorem run_app_room {t t2 ty e e2 : TypeId} {i : TypeInfo} {bs : Option Addr} {b o sLen sCap n c : Nat} {us : List Value} {cur : Array Value} {te : TypeId} (ht : P.underlying t = some (.slice e)) (hd : P.underlying t2 = some (.slice e2))
    (hi : P.info? e = some i) (hg : sLen + n ≤ sCap) (hb : w.heap[b]? = some (.cells cur te (0, 0))) (hn : (Builtin.firstCells i.size n (.slice bs n c)).run P w = .ok us.toArray w)
    (h1 : ∀ u ∈ us, u.oneCell' = true) (hfit : o + sLen * i.size + us.length ≤ cur.size) :
    (Builtin.append_ #[t, t2] ty #[.slice (some ⟨b, o, none⟩) sLen sCap, .slice bs n c]).run P w =
      .ok (.slice (some ⟨b, o, none⟩) (sLen + n) sCap) (w.setRow b (cur.toList.take (o + sLen * i.size) ++ us ++ cur.toList.drop (o + sLen * i.size + us.length)).toArray) := by
  have hst := run_storeCells_at (P := P) b (o + sLen * i.size) te us 0 cur w hb (by simpa using hfit) h1
  simp only [Nat.add_zero] at hst
  simp [Builtin.append_, run_underlying ht, run_underlying hd, sizeOf, typeInfo, hi, Builtin.lenOf, hg, hn, addr_add, hst]

theorem run_app_none {t t2 ty e e2 : TypeId} {i : TypeInfo} {bs : Option Addr} {c : Nat} (ht : P.underlying t = some (.slice e)) (hd : P.underlying t2 = some (.slice e2)) (hi : P.info? e = some i) (ad : Option Addr) (sLen sCap : Nat) (hle : sLen ≤ sCap)
    (hn : (Builtin.firstCells i.size 0 (.slice bs 0 c)).run P w = .ok #[] w) :
    (Builtin.append_ #[t, t2] ty #[.slice ad sLen sCap, .slice bs 0 c]).run P w = .ok (.slice ad sLen sCap) w := by
  cases ad <;> simp [Builtin.append_, run_underlying ht, run_underlying hd, sizeOf, typeInfo, hi, Builtin.lenOf, hle, hn, storeCells]

theorem OpOk.trans {o : Oper} {v : V} {g1 : G} (h1 : Ext g w g1 w) (h2 : Fr Pr g w g1 w) (h : OpOk P o a g1 w Pr s v) : OpOk P o a g w Pr s v := by
  obtain ⟨u, w', g', q, r, x1, x2, x3, x4, x5⟩ := h
  exact ⟨u, w', g', q, r, h1.trans x1, h2.trans x2, x3, x4, x5⟩

/-- What was read without its right stays, whoever owns. -/
theorem RepV.ext_down (e : Ext g w g' w') {r r' : Root} {x : V} {v : Value} (h : RepV g w Pr r x.down v) (hx : x.down = x) : RepV g' w' Pr r' x v := by
  have hc : ∀ (c : C) (p q : Place) (u : Value), c.down = c → RepC g w Pr p c u → RepC g' w' Pr q c u := by
    intro c p q u hd hc
    cases c with
    | b y => exact RepB.ext e hc
    | osl k rows => simp [C.down] at hd
    | fn f p q =>
      obtain ⟨xs, ys, h1, h2, h3, h4, h5⟩ := hc
      refine ⟨xs, ys, h1, h2, h3, fun i b hi => ?_, fun i b hi => ?_⟩
      · obtain ⟨u, k1, k2, k3⟩ := h4 i b hi; exact ⟨u, k1, k2, RepB.ext e k3⟩
      · obtain ⟨u, k1, k2, k3⟩ := h5 i b hi; exact ⟨u, k1, k2, RepB.ext e k3⟩
    | nilf => exact hc
  rw [hx] at h
  cases x with
  | c y => exact hc y (r, []) (r', []) v (by simpa [V.down] using hx) h
  | agg cs =>
    obtain ⟨arr, h1, h2, h3⟩ := h
    refine ⟨arr, h1, h2, fun i c hi => ?_⟩
    obtain ⟨u, k1, k2, k3⟩ := h3 i c hi
    have : c.down = c := by
      have hm : cs.map C.down = cs := by simpa [V.down] using hx
      have := congrArg (·[i]?) hm
      simp only [List.getElem?_map, hi, Option.map_some, Option.some.injEq] at this
      exact this
    exact ⟨u, k1, k2, hc c _ _ u this k3⟩
  | tup vs => simp [V.down] at hx

theorem down_down (x : V) : x.down.down = x.down := by
  cases x with
  | c y => cases y <;> rfl
  | agg cs =>
    simp only [V.down, V.agg.injEq, List.map_map]
    apply List.map_congr_left
    intro c _
    cases c <;> rfl
  | tup vs => rfl

theorem rows_app {k : Nat} {xs ys : List (List D)} {u v z : Array Value} (hx : RowsIn g w k xs u) (hy : RowsIn g w k ys v) (hu : u.size = xs.length * k) : RowsIn g w k (xs ++ ys) (u ++ v ++ z) := by
  intro i row j d hi hj
  by_cases h : i < xs.length
  · rw [List.getElem?_append_left h] at hi
    obtain ⟨q, q1, q2⟩ := hx i row j d hi hj
    have := (Array.getElem?_eq_some_iff.mp q1).1
    exact ⟨q, by rw [Array.append_assoc, Array.getElem?_append_left this]; exact q1, q2⟩
  · rw [List.getElem?_append_right (by omega)] at hi
    obtain ⟨q, q1, q2⟩ := hy _ row j d hi hj
    have h2 := (Array.getElem?_eq_some_iff.mp q1).1
    have e : i * k = xs.length * k + (i - xs.length) * k := by rw [← Nat.add_mul]; congr 1; omega
    refine ⟨q, ?_, q2⟩
    rw [Array.append_assoc, Array.getElem?_append_right (by omega), Array.getElem?_append_left (by omega)]
    rw [show i * k + j - u.size = (i - xs.length) * k + j by omega]
    exact q1

/-- An append that finds room in its own block. -/
theorem app_room (hI : Inv g w Pr s.σ) (hE : EnvOk g w Pr s.env a) {m k cap : Nat} {ad : Addr} {rows ys : List (List D)} {us : List Value} {arr : Array Value} {ty : TypeId} (hsp : ad.spot = none)
    (hrep : RepD (g.st w) (.sl rows) (.slice (some ad) rows.length cap)) (hk : ∀ r ∈ rows, r.length = k) (hky : ∀ r ∈ ys, r.length = k) (hkind : g.kind ad.block = .grow (ad.off + rows.length * k)) (hown : g.own ad.block = some (.tmp m, [])) (hpr : ¬ Pr ad.block)
    (harr : w.heap[ad.block]? = some (.cells arr ty (0, 0))) (hsz : ad.off + cap * k ≤ arr.size) (hroom : rows.length + ys.length ≤ cap) (hus : us.length = ys.length * k) (hyr : RowsIn g w k ys us.toArray) (d : Nat) :
    let w1 := w.setRow ad.block (arr.toList.take (ad.off + rows.length * k) ++ us ++ arr.toList.drop (ad.off + rows.length * k + us.length)).toArray
    ∃ g', Ext g w g' w1 ∧ Fr Pr g w g' w1 ∧ Inv g' w1 Pr s.σ ∧ EnvOk g' w1 Pr (s.took (.t m)).env a ∧ RepC g' w1 Pr (.tmp d, []) (.osl k (rows ++ ys)) (.slice (some ad) (rows.length + ys.length) cap) := by
  intro w1
  obtain ⟨b, o, sp⟩ := ad
  cases hsp
  simp only at *
  have hm : rows.length * k + ys.length * k ≤ cap * k := by rw [← Nat.add_mul]; exact Nat.mul_le_mul_right _ hroom
  have hsize : (arr.toList.take (o + rows.length * k) ++ us ++ arr.toList.drop (o + rows.length * k + us.length)).toArray.size = arr.size := by simp; omega
  have hget : w1.heap[b]? = some (.cells (arr.toList.take (o + rows.length * k) ++ us ++ arr.toList.drop (o + rows.length * k + us.length)).toArray ty (0, 0)) := setRow_get _ _ harr
  have hother : ∀ c, c ≠ b → w1.heap[c]? = w.heap[c]? := fun c hc => setRow_other _ _ hc
  have hcell : ∀ x, w1.cell? ⟨b, x, none⟩ = if x < o + rows.length * k then arr[x]? else if x < o + rows.length * k + us.length then us[x - (o + rows.length * k)]? else arr[x]? := by
    intro x
    rw [cell_of hget]
    simp only [List.getElem?_toArray]
    split
    · rw [List.append_assoc, List.getElem?_append_left (by simp; omega), List.getElem?_take, if_pos (by assumption)]; simp
    · have e1 : (arr.toList.take (o + rows.length * k)).length = o + rows.length * k := by simp; omega
      split
      · rw [List.append_assoc, List.getElem?_append_right (by omega), List.getElem?_append_left (by omega), e1]
      · rw [List.append_assoc, List.getElem?_append_right (by omega), List.getElem?_append_right (by omega), List.getElem?_drop, e1]
        simp only [Array.getElem?_toList]
        congr 1
        omega
  let g1 := g.withKind b (.grow (o + (rows.length + ys.length) * k))
  have hmul : (rows.length + ys.length) * k = rows.length * k + ys.length * k := Nat.add_mul _ _ _
  have hext : Ext g w g1 w1 := by
    refine ⟨fun x v hx => ?_, fun l x h => h, by simp [w1], fun c ar t fz hc => ?_, rfl, rfl, rfl⟩
    · obtain ⟨h1, h2, h3⟩ := hx
      by_cases hb : x.block = b
      · obtain ⟨xb, xo, xs⟩ := x
        simp only at hb h1
        subst hb; subst h1
        rw [hkind] at h3
        rcases h3 with h3 | ⟨n, h3, h4⟩
        · cases h3
        · cases h3
          refine ⟨rfl, ?_, .inr ⟨_, by simp [g1, G.withKind]; rfl, by simp only at h4 ⊢; omega⟩⟩
          rw [hcell, if_pos h4, ← cell_of harr]
          exact h2
      · refine ⟨h1, ?_, by simpa [g1, G.withKind, hb] using h3⟩
        simp only [World.cell?, hother _ hb]
        exact h2
    · by_cases hb : c = b
      · subst hb
        rw [harr] at hc
        cases hc
        exact ⟨_, hget, hsize⟩
      · exact ⟨ar, by rw [hother _ hb]; exact hc, rfl⟩
  have hkeep : ∀ p, p ≠ (.tmp m, []) → Keep g g1 p := by
    intro p hp c n h1 h2
    have hc : c ≠ b := by rintro rfl; rw [hown] at h1; exact hp (by simpa using h1.symm)
    exact ⟨h1, by simpa [g1, G.withKind, hc] using h2⟩
  have hfr : Fr Pr g w g1 w1 := by
    intro c hc
    have hb : c ≠ b := by rintro rfl; exact hpr hc
    exact ⟨hother _ hb, by simp [g1, G.withKind, hb], rfl⟩
  have hinv : Inv g1 w1 Pr s.σ := by
    refine ⟨hI.len, fun l x hx => ?_, fun c hc => ?_, fun c hc => ?_⟩
    · refine RepOb.frame hext (fun i => hkeep _ (by simp)) (fun c hc => ?_) (hI.ob l x hx)
      have hb : c ≠ b := by rintro rfl; rw [hkind] at hc; cases hc
      exact ⟨hother _ hb, by simpa [g1, G.withKind, hb] using hc⟩
    · by_cases hb : c = b
      · subst hb; simpa [w1] using hI.lt _ (by rw [hkind]; simp)
      · simpa [w1] using hI.lt c (by simpa [g1, G.withKind, hb] using hc)
    · obtain ⟨p1, p2, p3⟩ := hI.pr c hc
      have hb : c ≠ b := by rintro rfl; exact hpr hc
      exact ⟨by simpa [w1] using p1, by simpa [g1, G.withKind, hb] using p2, p3⟩
  let φ : Place → Place := fun p => if p.1 = .tmp m then (.tmp d, p.2) else p
  have henv : EnvOk (g1.ren Pr φ) w1 Pr (s.took (.t m)).env a := by
    intro t
    simp only [St.took]
    rw [env_get_cons]
    split
    · subst_vars
      have := RepV.down (r' := .tmp t) (hE t)
      exact RepV.ext_down (hext.trans (Ext.ren φ)) (r := .tmp t) (by rw [down_down]; exact this) (down_down _)
    · rename_i hne
      refine RepV.ren φ (fun p => by simp only [φ]; rw [if_neg]; intro h; exact hne (by cases h; rfl)) ?_
      exact RepV.ext hext (fun i => hkeep _ (by intro h; exact hne (by cases h; rfl))) (hE t)
  refine ⟨g1.ren Pr φ, hext.trans (Ext.ren φ), hfr.trans (Fr.ren φ), Inv.ren φ (fun l i => by simp [φ]) hinv, henv, RepC.ren φ (p := (.tmp m, [])) (by simp [φ]) ?_⟩
  have hcells : ∀ (i : Nat) (row : List D) (j : Nat) (x : D), (rows ++ ys)[i]? = some row → row[j]? = some x → ∃ u, g1.st w1 ⟨b, o + i * k + j, none⟩ u ∧ RepD (g1.st w1) x u := by
    intro i row j x hi hj
    by_cases h : i < rows.length
    · rw [List.getElem?_append_left h] at hi
      obtain ⟨ad', cap', k', e1, e2, e3, e4, vs, e5⟩ := rows_get hrep hi
      cases e1
      rw [hk row (List.mem_of_getElem? hi)] at e4
      subst e4
      obtain ⟨q1, q2⟩ := e5 j x hj
      exact ⟨vs j, hext.st _ _ q1, RepD.mono hext.st q2⟩
    · rw [List.getElem?_append_right (by omega)] at hi
      obtain ⟨u, u1, u2⟩ := hyr _ row j x hi hj
      have hj' : j < k := by rw [← hky row (List.mem_of_getElem? hi)]; exact (List.getElem?_eq_some_iff.mp hj).1
      have hi' := (List.getElem?_eq_some_iff.mp hi).1
      have hix := row_idx hi' hj'
      have e : i * k = rows.length * k + (i - rows.length) * k := by rw [← Nat.add_mul]; congr 1; omega
      refine ⟨u, ⟨rfl, ?_, .inr ⟨_, by simp [g1, G.withKind]; rfl, by simp only; omega⟩⟩, RepD.mono hext.st u2⟩
      rw [hcell, if_neg (by omega), if_pos (by omega)]
      rw [show o + i * k + j - (o + rows.length * k) = (i - rows.length) * k + j by omega]
      simpa using u1
  have hall : ∀ r ∈ rows ++ ys, r.length = k := by
    intro r hr
    rcases List.mem_append.mp hr with h | h
    · exact hk r h
    · exact hky r h
  have hl : (rows ++ ys).length = rows.length + ys.length := List.length_append
  rw [← hl]
  refine ⟨RepD.sl (rows ++ ys) _ k cap (fun i j => (w1.cell? ⟨b, o + i * k + j, none⟩).getD undef) (fun _ => rfl) (by omega) hall ?_ ?_, hall, .inr ⟨_, cap, rfl, .inr ⟨rfl, by omega, ?_, ?_, hpr, _, ty, hget, by rw [hsize]; exact hsz⟩⟩⟩
  · intro i row j x hi hj
    obtain ⟨u, u1, u2⟩ := hcells i row j x hi hj
    simp only [u1.2.1, Option.getD_some]
    exact u1
  · intro i row j x hi hj
    obtain ⟨u, u1, u2⟩ := hcells i row j x hi hj
    simp only [u1.2.1, Option.getD_some]
    exact u2
  · rw [hl]; simp [g1, G.withKind]
  · exact hown
end
end Go.Proofs.Ytjkhkblabhaimaa.Am
