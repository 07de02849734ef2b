/- Regions that draw their order: what the text's order computes every order computes. -/
import Derived.Test.YtjkhkblabhaimaaAmSame
namespace Go.Proofs.Ytjkhkblabhaimaa.Am
open Go
set_option linter.unusedVariables false
set_option linter.unusedSimpArgs false

inductive Waits (ops : Array Oper) : Nat → Nat → Prop where
  | edge {k : Nat} {o : Oper} {e : Edge} : ops[k]? = some o → e ∈ o.after → Region.binds .any e = true → Waits ops k e.on
  | step {k j : Nat} {o : Oper} {e : Edge} : ops[k]? = some o → e ∈ o.after → Region.binds .any e = true → Waits ops e.on j → Waits ops k j

def maskOf (acc : List Nat) : List Edge → Nat
  | [] => 0
  | e :: es => bif Region.binds .any e then 2 ^ e.on ||| acc.getD e.on 0 ||| maskOf acc es else maskOf acc es

def masks : List Oper → List Nat → List Nat
  | [], acc => acc
  | o :: os, acc => masks os (acc ++ [maskOf acc o.after.toList])

def AIns.isAlloc (i : AIns) : Bool := match i with
  | ⟨some _, .alloc _, none⟩ => true
  | _ => false

def meets (xs ys : List Nat) : Bool := xs.any fun x => ys.any fun y => Nat.beq x y

def headLen : List Nat → Nat → Nat → Nat
  | [], _, h => h
  | m :: ms, k, h => headLen ms (k + 1) (bif m == 2 ^ k - 1 then h else k + 1)

def pairsOk (ms : List Nat) (i : AIns) (k : Nat) : Nat → List AIns → Bool
  | _, [] => true
  | j, i' :: is => (!(meets i'.writes i.touch || meets i.writes i'.touch) || (if j < k then (ms.getD k 0).testBit j else if k < j then (ms.getD j 0).testBit k else true)) && pairsOk ms i k (j + 1) is

def freshOk (d k : Nat) : Nat → List AIns → Bool
  | _, [] => true
  | j, i :: is => (Nat.beq j k || !(i.touch.any fun t => Nat.beq t d)) && freshOk d k (j + 1) is

def idx (n : Nat) : List AIns → List (Nat × AIns)
  | [] => []
  | i :: is => (n, i) :: idx (n + 1) is

/-- Operations that may as well come first: moves that nothing else bears on. -/
def preOk (ops : Array Oper) (is : List AIns) : Nat → Nat → Array Bool → Bool
  | 0, _, _ => true
  | n + 1, i, listed => (match ops[i]?, is[i]? with
      | some o, some ⟨_, .mov .cp _, none⟩ => (match o.op with | .move _ => true | _ => false) && o.guard.isNone
      | _, _ => false) && Region.free .any ops listed i && (Region.ready .any ops listed).contains i && preOk ops is n (i + 1) (listed.setIfInBounds i true)

def drawTry (p : Nat) (ops : Array Oper) (is : List AIns) : Bool :=
  let ms := masks ops.toList []
  let h2 := headLen (ms.map (· ||| (2 ^ p - 1))) 0 0
  let h1 := h2 - ((is.take h2).reverse.takeWhile AIns.isAlloc).length
  let hd := is.take h1
  let c := hd.findIdx fun i => headCall i.op
  (decide (p ≤ h1) && Region.noSelect ops && preOk ops is p 0 (Array.replicate ops.size false)) &&
  decide (h2 ≤ ops.size) &&
  ((List.range ops.size).all fun k => match ops[k]? with | some o => o.after.all (fun e => !Region.binds .any e || decide (e.on < k)) | none => true) &&
  ((idx 0 hd).all fun q => headOp q.2.op || (headCall q.2.op && Nat.beq q.1 c)) &&
  ((idx 0 hd).all fun q => decide (q.1 < p) || pairsOk ms q.2 q.1 p (hd.drop p)) &&
  ((idx 0 (is.take h2)).all fun p => decide (p.1 < h1) || (p.2.isAlloc && match p.2.dst with | some d => freshOk d p.1 0 (is.take h2) | none => false)) &&
  ((List.range ops.size).all fun k => decide (k < h2) || (ms.getD k 0 ||| (2 ^ p - 1)) == 2 ^ k - 1)

def drawOk (ops : Array Oper) (is : List AIns) : Bool := drawTry 0 ops is || drawTry 1 ops is

/-- What such a check says. -/
structure Dr (ops : Array Oper) (is : List AIns) (p h1 h2 c : Nat) : Prop where
  le0 : p ≤ h1
  le1 : h1 ≤ h2
  le2 : h2 ≤ ops.size
  back : ∀ (k : Nat) (o : Oper) (e : Edge), ops[k]? = some o → e ∈ o.after → Region.binds .any e = true → e.on < k
  head : ∀ (k : Nat) (i : AIns), k < h1 → is[k]? = some i → headOp i.op = true ∨ (k = c ∧ headCall i.op = true)
  fresh : ∀ (k : Nat) (i : AIns), h1 ≤ k → k < h2 → is[k]? = some i → ∃ d zs, i = ⟨some d, .alloc zs, none⟩ ∧ ∀ (j : Nat) (i' : AIns), j < h2 → j ≠ k → is[j]? = some i' → d ∉ i'.touch
  order : ∀ (j k : Nat) (i i' : AIns), p ≤ j → j < k → k < h1 → is[j]? = some i → is[k]? = some i' → ((∃ t ∈ i.writes, t ∈ i'.touch) ∨ (∃ t ∈ i'.writes, t ∈ i.touch)) → Waits ops k j
  tail : ∀ (k j : Nat), p ≤ j → h2 ≤ k → k < ops.size → j < k → Waits ops k j

theorem maskOf_waits {ops : Array Oper} {k : Nat} {o : Oper} {acc : List Nat} (ho : ops[k]? = some o) (hacc : ∀ (i m j : Nat), acc[i]? = some m → m.testBit j = true → Waits ops i j) :
    ∀ (es : List Edge), (∀ e ∈ es, e ∈ o.after) → ∀ j, (maskOf acc es).testBit j = true → Waits ops k j
  | [], _, j, h => by simp [maskOf] at h
  | e :: es, hes, j, h => by
    have ih := maskOf_waits ho hacc es (fun e he => hes e (List.mem_cons_of_mem _ he)) j
    have he := hes e List.mem_cons_self
    simp only [maskOf] at h
    cases hb : Region.binds .any e with
    | false => rw [hb] at h; exact ih h
    | true =>
      rw [hb] at h
      simp only [cond_true, Nat.testBit_or, Bool.or_eq_true] at h
      rcases h with (h | h) | h
      · rw [Nat.testBit_two_pow] at h
        have := of_decide_eq_true h
        subst this
        exact .edge ho he hb
      · rw [List.getD_eq_getElem?_getD] at h
        cases hm : acc[e.on]? with
        | none => rw [hm] at h; simp at h
        | some m => rw [hm] at h; exact .step ho he hb (hacc _ _ _ hm h)
      · exact ih h

theorem masks_waits {ops : Array Oper} : ∀ (os : List Oper) (acc : List Nat), (∀ j, os[j]? = ops[acc.length + j]?) → (∀ (i m j : Nat), acc[i]? = some m → m.testBit j = true → Waits ops i j) →
    ∀ (i m j : Nat), (masks os acc)[i]? = some m → m.testBit j = true → Waits ops i j
  | [], acc, _, h => h
  | o :: os, acc, hk, h => by
    have ho : ops[acc.length]? = some o := by have := hk 0; simpa using this.symm
    refine masks_waits os _ (fun j => ?_) ?_
    · have := hk (j + 1)
      simpa [Nat.add_assoc, Nat.add_comm 1 j] using this
    · intro i m j hi hj
      by_cases hlt : i < acc.length
      · rw [List.getElem?_append_left hlt] at hi; exact h i m j hi hj
      · rw [List.getElem?_append_right (by omega)] at hi
        have : i = acc.length := by
          have := (List.getElem?_eq_some_iff.mp hi).1
          simp at this; omega
        subst this
        simp only [Nat.sub_self, List.getElem?_cons_zero, Option.some.injEq] at hi
        subst hi
        exact maskOf_waits ho h _ (fun e he => Array.mem_toList_iff.1 he) j hj

theorem meets_true {xs ys : List Nat} {t : Nat} (hx : t ∈ xs) (hy : t ∈ ys) : meets xs ys = true := by
  simp only [meets, List.any_eq_true]
  exact ⟨t, hx, t, hy, by simp⟩

theorem idx_get : ∀ (is : List AIns) (n k : Nat) (i : AIns), is[k]? = some i → (n + k, i) ∈ idx n is
  | [], n, k, i, h => by simp at h
  | x :: xs, n, 0, i, h => by simp at h; subst h; simp [idx]
  | x :: xs, n, k + 1, i, h => by
    have := idx_get xs (n + 1) k i (by simpa using h)
    simp only [idx, List.mem_cons]
    right
    rw [show n + (k + 1) = n + 1 + k by omega]
    exact this

theorem pairsOk_get {ms : List Nat} {i : AIns} {k : Nat} : ∀ {is : List AIns} {n : Nat}, pairsOk ms i k n is = true → ∀ (j : Nat) (i' : AIns), is[j]? = some i' → (meets i'.writes i.touch = true ∨ meets i.writes i'.touch = true) →
    (n + j < k → (ms.getD k 0).testBit (n + j) = true) ∧ (k < n + j → (ms.getD (n + j) 0).testBit k = true)
  | [], n, h, j, i', hj, hm => by simp at hj
  | x :: xs, n, h, j, i', hj, hm => by
    simp only [pairsOk, Bool.and_eq_true] at h
    cases j with
    | zero =>
      simp only [List.getElem?_cons_zero, Option.some.injEq] at hj
      subst hj
      have h0 := h.1
      rw [show (meets x.writes i.touch || meets i.writes x.touch) = true by rcases hm with hm | hm <;> simp [hm]] at h0
      simp only [Bool.not_true, Bool.false_or] at h0
      refine ⟨fun hlt => ?_, fun hlt => ?_⟩
      · simp only [Nat.add_zero] at hlt ⊢; rw [if_pos hlt] at h0; exact h0
      · simp only [Nat.add_zero] at hlt ⊢; rw [if_neg (by omega), if_pos hlt] at h0; exact h0
    | succ j =>
      have := pairsOk_get h.2 j i' (by simpa using hj) hm
      rw [show n + 1 + j = n + (j + 1) by omega] at this
      exact this

theorem freshOk_get {d k : Nat} : ∀ {is : List AIns} {n : Nat}, freshOk d k n is = true → ∀ (j : Nat) (i' : AIns), is[j]? = some i' → n + j ≠ k → d ∉ i'.touch
  | [], n, h, j, i', hj, hm => by simp at hj
  | x :: xs, n, h, j, i', hj, hm => by
    simp only [freshOk, Bool.and_eq_true] at h
    cases j with
    | zero =>
      simp only [List.getElem?_cons_zero, Option.some.injEq] at hj
      subst hj
      have h0 := h.1
      simp only [Bool.or_eq_true, Nat.beq_eq_true_eq] at h0
      rcases h0 with h0 | h0
      · exact absurd h0 (by simpa using hm)
      · intro hd
        simp only [Bool.not_eq_true', List.any_eq_false, Nat.beq_eq_true_eq] at h0
        exact h0 d hd (by simp)
    | succ j => exact freshOk_get h.2 j i' (by simpa using hj) (by omega)

theorem two_pow_bit {k j : Nat} (h : j < k) : (2 ^ k - 1).testBit j = true := by
  rw [Nat.testBit_two_pow_sub_one]; simpa using h

theorem drawTry_dr {p : Nat} {ops : Array Oper} {is : List AIns} (h : drawTry p ops is = true) : Region.noSelect ops = true ∧ preOk ops is p 0 (Array.replicate ops.size false) = true ∧ ∃ h1 h2 c, Dr ops is p h1 h2 c := by
  simp only [drawTry, Bool.and_eq_true, decide_eq_true_eq, List.all_eq_true, List.mem_range] at h
  generalize hms : masks ops.toList [] = ms at h
  generalize headLen (ms.map (· ||| (2 ^ p - 1))) 0 0 = h2 at h
  have hw : ∀ (i m j : Nat), ms[i]? = some m → m.testBit j = true → Waits ops i j := by
    rw [← hms]
    exact masks_waits ops.toList [] (fun j => by simp) (fun i m j hi => by simp at hi)
  have hw' : ∀ (i j : Nat), (ms.getD i 0).testBit j = true → Waits ops i j := by
    intro i j hj
    rw [List.getD_eq_getElem?_getD] at hj
    cases hm : ms[i]? with
    | none => rw [hm] at hj; simp at hj
    | some m => rw [hm] at hj; exact hw _ _ _ hm hj
  have hle : h2 - ((is.take h2).reverse.takeWhile AIns.isAlloc).length ≤ h2 := Nat.sub_le _ _
  generalize h2 - ((is.take h2).reverse.takeWhile AIns.isAlloc).length = h1 at h hle
  generalize (is.take h1).findIdx (fun i => headCall i.op) = c at h
  obtain ⟨⟨⟨⟨⟨⟨⟨⟨a01, a02⟩, a03⟩, a1⟩, a2⟩, a3⟩, a4⟩, a5⟩, a6⟩ := h
  have tk : ∀ {n k : Nat} {i : AIns}, k < n → is[k]? = some i → (is.take n)[k]? = some i := by
    intro n k i hk hi
    rw [List.getElem?_take, if_pos hk]; exact hi
  refine ⟨a02, a03, h1, h2, c, a01, hle, a1, ?_, ?_, ?_, ?_, ?_⟩
  · intro k o e ho he hb
    have := a2 k (Array.getElem?_eq_some_iff.1 ho).1
    rw [ho] at this
    simp only [Array.all_eq_true_iff_forall_mem, Bool.or_eq_true, Bool.not_eq_true', decide_eq_true_eq] at this
    exact (this e he).resolve_left (by rw [hb]; simp)
  · intro k i hk hi
    have := a3 (k, i) (by have := idx_get _ 0 k i (tk hk hi); simpa using this)
    simp only [Bool.or_eq_true, Bool.and_eq_true, Nat.beq_eq_true_eq] at this
    exact this.imp id fun h => ⟨Nat.eq_of_beq_eq_true h.2, h.1⟩
  · intro k i hk1 hk2 hi
    have := a5 (k, i) (by have := idx_get _ 0 k i (tk hk2 hi); simpa using this)
    simp only [Bool.or_eq_true, decide_eq_true_eq, Bool.and_eq_true] at this
    obtain ⟨b1, b2⟩ := this.resolve_left (by omega)
    obtain ⟨d, op, gd⟩ := i
    unfold AIns.isAlloc at b1
    split at b1
    · rename_i d' zs heq
      cases heq
      simp only at b2
      refine ⟨d', zs, rfl, fun j i' hj hne hi' => ?_⟩
      exact freshOk_get b2 j i' (tk hj hi') (by simpa using hne)
    · cases b1
  · intro j k i i' hpj hjk hk hi hi' hm
    have hmm : meets i.writes i'.touch = true ∨ meets i'.writes i.touch = true := by
      rcases hm with ⟨t, x, y⟩ | ⟨t, x, y⟩
      · exact .inl (meets_true x y)
      · exact .inr (meets_true x y)
    have := a4 (k, i') (by have := idx_get _ 0 k i' (tk hk hi'); simpa using this)
    simp only [Bool.or_eq_true, decide_eq_true_eq] at this
    have := (pairsOk_get (this.resolve_left (by omega)) (j - p) i (by rw [List.getElem?_drop, show p + (j - p) = j by omega]; exact tk (by omega) hi) hmm).1
    rw [show p + (j - p) = j by omega] at this
    exact hw' _ _ (this hjk)
  · intro k j hpj hk hks hj
    have := a6 k hks
    simp only [Bool.or_eq_true, decide_eq_true_eq, beq_iff_eq] at this
    have := this.resolve_left (by omega)
    have hb := two_pow_bit hj
    rw [← this, Nat.testBit_or, Bool.or_eq_true] at hb
    refine hw' _ _ (hb.resolve_right ?_)
    rw [Nat.testBit_two_pow_sub_one]
    simp; omega
end Go.Proofs.Ytjkhkblabhaimaa.Am
