/-
  No cell of these rows narrows 'for every input' (looked for: loops, veiled, ifaces, maps, wideKeys, modest, calm, conditions, laid).
  DERIVED. THE GIVEN ROWS OF THIS SEAT. 6 by the template 'for every input the law returns true; each argument reads behind the call as it read before'; 0 by the template 'total and deterministic' (their statements: YtjkhkblabhaimaaTotals.lean).
  GIVEN WITH THE SEED: the statements are not yours to turn. If you find one false, say at which input.
  Laid BY PROGRAM, IN A SANDBOX (cutbox-rows.mjs): the forced cells as the released guide's own fill.sh prints them over the translation 211051283c9ee0a8… (all of the seat's roots in one cut). By AI agents, Wed Nov 11 2026. No macro, syntax, notation, axiom, sorry.
-/
import Derived.Test.YtjkhkblabhaimaaChecked
import GoSem.Claim
import GoSem.ClaimJoined
import GoSem.ClaimMapViews
import Derived.JoinedTies
import Derived.KernelRfl
namespace Go.Proofs.Ytjkhkblabhaimaa
/- THE CELL 'sum', in the pinned program and in every row, IS THE sha256 OF THE DUMP (.gsa) THAT YtjkhkblabhaimaaProg.lean LOADS. Nothing in Lean hashes anything: it is a label: what it is worth is what the hold of that sum in a sandbox is worth. -/
noncomputable def Try.pinned : Pinned := { name := "ytjkhkblabhaimaa", sum := "211051283c9ee0a8c8468ec58a74346b629db4bc4a4e6682ca8e64b7b2e86974", checked := Try.checked }
namespace Rows
def none {H : Type} : Left H := { results := [], args := [] }

/-- 'delverlaw12.IsoExact': WHATEVER THE INPUT: true; the input reads as it did. -/
def isoExactSpec : ChangeSpec := { name := "isoExact", fn := fun _ => fun
  | [d1, d2] => { results := [.lit (.bool true)], args := [d1, d2] }
  | _ => none }
def isoExactRow : OpenClaim := { program := "ytjkhkblabhaimaa", sum := "211051283c9ee0a8c8468ec58a74346b629db4bc4a4e6682ca8e64b7b2e86974", func := "delver/delverlaw12.IsoExact", spec := "isoExact", unfollowed := true, recurses := true, apart := false }
def IsoExactSaid : Prop := isoExactRow.holds Try.pinned (OpenSpec.ofChange isoExactSpec)

/-- ITS FALSE NEIGHBOUR: 'it returns false'. Refute it at one input. -/
def isoExactWrong : ChangeSpec := { name := "isoExact", fn := fun _ => fun
  | [d1, d2] => { results := [.lit (.bool false)], args := [d1, d2] }
  | _ => none }
def IsoExactWrongFalsely : Prop := isoExactRow.holds Try.pinned (OpenSpec.ofChange isoExactWrong)

/-- 'delverlaw12.IsoTurned': WHATEVER THE INPUT: true; the input reads as it did. -/
def isoTurnedSpec : ChangeSpec := { name := "isoTurned", fn := fun _ => fun
  | [d1, d2, d3] => { results := [.lit (.bool true)], args := [d1, d2, d3] }
  | _ => none }
def isoTurnedRow : OpenClaim := { program := "ytjkhkblabhaimaa", sum := "211051283c9ee0a8c8468ec58a74346b629db4bc4a4e6682ca8e64b7b2e86974", func := "delver/delverlaw12.IsoTurned", spec := "isoTurned", unfollowed := true, recurses := true, apart := false }
def IsoTurnedSaid : Prop := isoTurnedRow.holds Try.pinned (OpenSpec.ofChange isoTurnedSpec)

/-- ITS FALSE NEIGHBOUR: 'it returns false'. Refute it at one input. -/
def isoTurnedWrong : ChangeSpec := { name := "isoTurned", fn := fun _ => fun
  | [d1, d2, d3] => { results := [.lit (.bool false)], args := [d1, d2, d3] }
  | _ => none }
def IsoTurnedWrongFalsely : Prop := isoTurnedRow.holds Try.pinned (OpenSpec.ofChange isoTurnedWrong)

/-- 'delverlaw12.IsoCanon': WHATEVER THE INPUT: true; the input reads as it did. -/
def isoCanonSpec : ChangeSpec := { name := "isoCanon", fn := fun _ => fun
  | [d] => { results := [.lit (.bool true)], args := [d] }
  | _ => none }
def isoCanonRow : OpenClaim := { program := "ytjkhkblabhaimaa", sum := "211051283c9ee0a8c8468ec58a74346b629db4bc4a4e6682ca8e64b7b2e86974", func := "delver/delverlaw12.IsoCanon", spec := "isoCanon", unfollowed := true, recurses := true, apart := false }
def IsoCanonSaid : Prop := isoCanonRow.holds Try.pinned (OpenSpec.ofChange isoCanonSpec)

/-- ITS FALSE NEIGHBOUR: 'it returns false'. Refute it at one input. -/
def isoCanonWrong : ChangeSpec := { name := "isoCanon", fn := fun _ => fun
  | [d] => { results := [.lit (.bool false)], args := [d] }
  | _ => none }
def IsoCanonWrongFalsely : Prop := isoCanonRow.holds Try.pinned (OpenSpec.ofChange isoCanonWrong)

/-- 'delverlaw12.IsoSame': WHATEVER THE INPUT: true; the input reads as it did. -/
def isoSameSpec : ChangeSpec := { name := "isoSame", fn := fun _ => fun
  | [d1, d2, d3, d4] => { results := [.lit (.bool true)], args := [d1, d2, d3, d4] }
  | _ => none }
def isoSameRow : OpenClaim := { program := "ytjkhkblabhaimaa", sum := "211051283c9ee0a8c8468ec58a74346b629db4bc4a4e6682ca8e64b7b2e86974", func := "delver/delverlaw12.IsoSame", spec := "isoSame", unfollowed := true, recurses := true, apart := false }
def IsoSameSaid : Prop := isoSameRow.holds Try.pinned (OpenSpec.ofChange isoSameSpec)

/-- ITS FALSE NEIGHBOUR: 'it returns false'. Refute it at one input. -/
def isoSameWrong : ChangeSpec := { name := "isoSame", fn := fun _ => fun
  | [d1, d2, d3, d4] => { results := [.lit (.bool false)], args := [d1, d2, d3, d4] }
  | _ => none }
def IsoSameWrongFalsely : Prop := isoSameRow.holds Try.pinned (OpenSpec.ofChange isoSameWrong)

/-- 'delverlaw12.IsoRows': WHATEVER THE INPUT: true; the input reads as it did. -/
def isoRowsSpec : ChangeSpec := { name := "isoRows", fn := fun _ => fun
  | [d1, d2] => { results := [.lit (.bool true)], args := [d1, d2] }
  | _ => none }
def isoRowsRow : OpenClaim := { program := "ytjkhkblabhaimaa", sum := "211051283c9ee0a8c8468ec58a74346b629db4bc4a4e6682ca8e64b7b2e86974", func := "delver/delverlaw12.IsoRows", spec := "isoRows", unfollowed := true, recurses := true, apart := false }
def IsoRowsSaid : Prop := isoRowsRow.holds Try.pinned (OpenSpec.ofChange isoRowsSpec)

/-- ITS FALSE NEIGHBOUR: 'it returns false'. Refute it at one input. -/
def isoRowsWrong : ChangeSpec := { name := "isoRows", fn := fun _ => fun
  | [d1, d2] => { results := [.lit (.bool false)], args := [d1, d2] }
  | _ => none }
def IsoRowsWrongFalsely : Prop := isoRowsRow.holds Try.pinned (OpenSpec.ofChange isoRowsWrong)

/-- 'delverlaw12.IsoRoots': WHATEVER THE INPUT: true; the input reads as it did. -/
def isoRootsSpec : ChangeSpec := { name := "isoRoots", fn := fun _ => fun
  | [d1, d2] => { results := [.lit (.bool true)], args := [d1, d2] }
  | _ => none }
def isoRootsRow : OpenClaim := { program := "ytjkhkblabhaimaa", sum := "211051283c9ee0a8c8468ec58a74346b629db4bc4a4e6682ca8e64b7b2e86974", func := "delver/delverlaw12.IsoRoots", spec := "isoRoots", unfollowed := true, recurses := true, apart := false }
def IsoRootsSaid : Prop := isoRootsRow.holds Try.pinned (OpenSpec.ofChange isoRootsSpec)

/-- ITS FALSE NEIGHBOUR: 'it returns false'. Refute it at one input. -/
def isoRootsWrong : ChangeSpec := { name := "isoRoots", fn := fun _ => fun
  | [d1, d2] => { results := [.lit (.bool false)], args := [d1, d2] }
  | _ => none }
def IsoRootsWrongFalsely : Prop := isoRootsRow.holds Try.pinned (OpenSpec.ofChange isoRootsWrong)

/- THE SECOND FORM. 'bulk': how many values and letters a reading holds, each counted each time it is reached (what is shared counts as often as it is met; a slice's spare places count too). A statement '..UptoSaid' is the law's where the arguments, and the package variables that the reading takes, are together of bulk at most 1048576: NARROWER than '..Said'. Prove '..Said' where nothing that the law and all that it calls make is longer than what came in: it says more and counts as full. Else prove '..UptoSaid'. A law counts once. -/
mutual
def uptoBulk {H : Type} : DataW H → Nat
  | .lit (.string bytes) => bytes.length + 1
  | .lit _ => 1
  | .nil => 1
  | .ptr d => uptoBulk d + 1
  | .slice elems spare => uptoBulkAll elems + uptoBulkAll spare + 1
  | .agg parts => uptoBulkAll parts + 1
  | .iface _ d => uptoBulk d + 1
  | .map entries => uptoBulkEntries entries + 1
  | .held _ => 1
def uptoBulkAll {H : Type} : List (DataW H) → Nat
  | [] => 0
  | d :: r => uptoBulk d + uptoBulkAll r
def uptoBulkEntries {H : Type} : List (Lit × DataW H) → Nat
  | [] => 0
  | x :: r => uptoBulkEntry x + uptoBulkEntries r
def uptoBulkEntry {H : Type} : Lit × DataW H → Nat
  | (.string bytes, d) => bytes.length + uptoBulk d + 1
  | (_, d) => uptoBulk d + 1
 end
def uptoSmall : (H : Type) → List (DataW H) → Bool := fun _ ds => decide (uptoBulkAll ds ≤ 1048576)
def OpenSpec.upto (s : _root_.Go.ChangeSpec) : _root_.Go.OpenSpec := { _root_.Go.OpenSpec.ofChange s with cond := some uptoSmall }

/-- 'delverlaw12.IsoExact', WHERE WHAT IT READS IS OF BULK AT MOST 1048576: true; the input reads as it did. -/
def isoExactUptoRow : OpenClaim := { program := "ytjkhkblabhaimaa", sum := "211051283c9ee0a8c8468ec58a74346b629db4bc4a4e6682ca8e64b7b2e86974", func := "delver/delverlaw12.IsoExact", spec := "isoExact", unfollowed := true, recurses := true, apart := false, narrowed := true }
def IsoExactUptoSaid : Prop := isoExactUptoRow.holds Try.pinned (OpenSpec.upto isoExactSpec)

/-- 'delverlaw12.IsoTurned', WHERE WHAT IT READS IS OF BULK AT MOST 1048576: true; the input reads as it did. -/
def isoTurnedUptoRow : OpenClaim := { program := "ytjkhkblabhaimaa", sum := "211051283c9ee0a8c8468ec58a74346b629db4bc4a4e6682ca8e64b7b2e86974", func := "delver/delverlaw12.IsoTurned", spec := "isoTurned", unfollowed := true, recurses := true, apart := false, narrowed := true }
def IsoTurnedUptoSaid : Prop := isoTurnedUptoRow.holds Try.pinned (OpenSpec.upto isoTurnedSpec)

/-- 'delverlaw12.IsoCanon', WHERE WHAT IT READS IS OF BULK AT MOST 1048576: true; the input reads as it did. -/
def isoCanonUptoRow : OpenClaim := { program := "ytjkhkblabhaimaa", sum := "211051283c9ee0a8c8468ec58a74346b629db4bc4a4e6682ca8e64b7b2e86974", func := "delver/delverlaw12.IsoCanon", spec := "isoCanon", unfollowed := true, recurses := true, apart := false, narrowed := true }
def IsoCanonUptoSaid : Prop := isoCanonUptoRow.holds Try.pinned (OpenSpec.upto isoCanonSpec)

/-- 'delverlaw12.IsoSame', WHERE WHAT IT READS IS OF BULK AT MOST 1048576: true; the input reads as it did. -/
def isoSameUptoRow : OpenClaim := { program := "ytjkhkblabhaimaa", sum := "211051283c9ee0a8c8468ec58a74346b629db4bc4a4e6682ca8e64b7b2e86974", func := "delver/delverlaw12.IsoSame", spec := "isoSame", unfollowed := true, recurses := true, apart := false, narrowed := true }
def IsoSameUptoSaid : Prop := isoSameUptoRow.holds Try.pinned (OpenSpec.upto isoSameSpec)

/-- 'delverlaw12.IsoRows', WHERE WHAT IT READS IS OF BULK AT MOST 1048576: true; the input reads as it did. -/
def isoRowsUptoRow : OpenClaim := { program := "ytjkhkblabhaimaa", sum := "211051283c9ee0a8c8468ec58a74346b629db4bc4a4e6682ca8e64b7b2e86974", func := "delver/delverlaw12.IsoRows", spec := "isoRows", unfollowed := true, recurses := true, apart := false, narrowed := true }
def IsoRowsUptoSaid : Prop := isoRowsUptoRow.holds Try.pinned (OpenSpec.upto isoRowsSpec)

/-- 'delverlaw12.IsoRoots', WHERE WHAT IT READS IS OF BULK AT MOST 1048576: true; the input reads as it did. -/
def isoRootsUptoRow : OpenClaim := { program := "ytjkhkblabhaimaa", sum := "211051283c9ee0a8c8468ec58a74346b629db4bc4a4e6682ca8e64b7b2e86974", func := "delver/delverlaw12.IsoRoots", spec := "isoRoots", unfollowed := true, recurses := true, apart := false, narrowed := true }
def IsoRootsUptoSaid : Prop := isoRootsUptoRow.holds Try.pinned (OpenSpec.upto isoRootsSpec)

end Rows
end Go.Proofs.Ytjkhkblabhaimaa
