/-
  DERIVED. GIVEN WITH THE SEED: THE CARDS: each row of YthahhonmkhafkaaDoorRows.lean that lists a variable, with what it lists TIED to the program's text (the seventh form; the later family's looks); each row that meets fmt, with fmt's text TOLD by the authors' own Lean function (tested against real Go, not proved from fmt's source: count such statements apart). THE CARD IS WHAT COUNTS. Prove the row's statement (the work); the ties are given (YthahhonmkhafkaaDoorTie.lean); close each card by the builder's one call (the guide's Derived/Test/ToyasCard.lean, 'card_holds'). Laid BY PROGRAM, IN A SANDBOX (cutbox-door.mjs). By AI agents, Wed Nov 11 2026. No macro, syntax, notation, axiom, sorry.
-/
import Derived.Test.YthahhonmkhafkaaDoorRows
import GoSem.ClaimSeven
namespace Go.Proofs.YthahhonmkhafkaaDoor
namespace Rows

/-- THE TIED CARD OF 'delverlaw04.HierBase'. -/
def hierBaseCard : Claim7 := { stood := { row := hierBaseRow, standIns := [], harness := (true, "a38271aa3dc4fd693f5eeccb0dddf852d837c83fdaefd3bc095b669a4cc9d46b"), looks := false }, kinds := [], alts := [], laidByText := true, laidKinds := [.listed, .data], laidTests := true, laidLooks := .later }
def HierBaseCardSaid : Prop := Claim7.holds Tryd.pinned (.plain (OpenSpec.ofChange hierBaseSpec)) hierBaseCard

/-- THE SECOND FORM's CARD OF 'delverlaw04.HierBase'. -/
def hierBaseUptoCard : Claim7 := { stood := { row := hierBaseUptoRow, standIns := [], harness := (true, "a38271aa3dc4fd693f5eeccb0dddf852d837c83fdaefd3bc095b669a4cc9d46b"), looks := false }, kinds := [], alts := [], laidByText := true, laidKinds := [.listed, .data], laidTests := true, laidLooks := .later }
def HierBaseUptoCardSaid : Prop := Claim7.holds Tryd.pinned (.plain (OpenSpec.upto hierBaseSpec)) hierBaseUptoCard
end Rows
end Go.Proofs.YthahhonmkhafkaaDoor
