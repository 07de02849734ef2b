/- The law IsoRows: from any two numbers to two below eight. -/
import Derived.Test.YtjkhkblabhaimaaFns
import Derived.Test.YtjkhkblabhaimaaAmRow
import Derived.KernelRfl
namespace Go.Proofs.Ytjkhkblabhaimaa.Am
open Go

def i64 (n : Int) : V := .c (.b (.d (.int .i64 n)))
def isT : Option (V × List Ob) → Bool
  | some (.c (.b (.d (.bool b))), []) => b
  | _ => false
theorem isT_eq {x : Option (V × List Ob)} (h : isT x = true) : x = some (.c (.b (.d (.bool true))), []) := by
  unfold isT at h
  split at h
  · subst h; rfl
  · cases h

theorem wakes199 : evf fns 199 21 [] [] 0 0 = some (.c (.b (.d (.bool true))), []) := isT_eq (by kernel_rfl)

def rest7 : ACode := match f7.body with | .seq _ (.seq _ r) => r | _ => .skip
def F7 : Oracle := fun f args σ lo tr => match f, args, σ, lo, tr with
  | 21, [], [], 0, 0 => some (.c (.b (.d (.bool true))), [])
  | f, args, σ, lo, tr => evf fns 199 f args σ lo tr
theorem F7_eq : F7 = evf fns 199 := by
  funext f args σ lo tr
  unfold F7
  split
  · exact wakes199.symm
  · rfl
def low8 (n : Int) : Int := IntKind.i64.wrap ((IntKind.u64.wrap n).tmod 8)
def K7 (F : Oracle) (a b : Int) : Option (V × List Ob) := match ev F ⟨0, 0⟩ 197 rest7 ⟨[(0, i64 a), (1, i64 b)], []⟩ with
  | some (.exit _, _) => none
  | some (_, s) => match resOf s 0 f7.results with
    | some v => if v.closed 0 then some (v, s.σ.take 0) else none
    | none => none
  | none => none
theorem f7_eq (n m : Int) : evf fns 200 7 [i64 n, i64 m] [] 0 0 = K7 (evf fns 199) (low8 n) (low8 m) := by kernel_rfl

theorem low8_lt (n : Int) : ∃ k : Nat, k < 8 ∧ low8 n = k := by
  have h0 : 0 ≤ IntKind.u64.wrap n := by simp [IntKind.wrap, IntKind.signed, IntKind.bits]; omega
  have h1 : (IntKind.u64.wrap n).tmod 8 = (IntKind.u64.wrap n) % 8 := Int.tmod_eq_emod_of_nonneg h0
  refine ⟨((IntKind.u64.wrap n) % 8).toNat, by omega, ?_⟩
  unfold low8
  rw [h1]
  generalize IntKind.u64.wrap n = x
  simp [IntKind.wrap, IntKind.signed, IntKind.bits]
  omega
end Go.Proofs.Ytjkhkblabhaimaa.Am
