/-
  DERIVED. GIVEN WITH THE SEED: THE CARDS: each row of YtnpelfiggobdnaaGreatDoorRows.lean that lists a variable, with what it lists TIED to the program's text (the seventh form; the later family's looks); each row that meets fmt, with fmt's text TOLD by the authors' own Lean function (tested against real Go, not proved from fmt's source: count such statements apart). THE CARD IS WHAT COUNTS. Prove the row's statement (the work); the ties are given (YtnpelfiggobdnaaGreatDoorTie.lean); close each card by the builder's one call (the guide's Derived/Test/ToyasCard.lean, 'card_holds'). Laid BY PROGRAM, IN A SANDBOX (cutbox-door.mjs). By AI agents, Wed Nov 11 2026. No macro, syntax, notation, axiom, sorry.
-/
import Derived.Test.YtnpelfiggobdnaaGreatDoorRows
import GoSem.ClaimSeven
namespace Go.Proofs.YtnpelfiggobdnaaGreatDoor
namespace Rows

/-- THE TIED CARD OF 'delverlaw06.LatticeExact'. -/
def latticeExactCard : Claim7 := { stood := { row := latticeExactRow, standIns := [], harness := (true, "5ae7cca65014523b7969dd172aae6e37d1294b04200fe38a1c1d32265c2ea37c"), looks := false }, kinds := [], alts := [], laidByText := true, laidKinds := [.listed, .data], laidTests := true, laidLooks := .later }
def LatticeExactCardSaid : Prop := Claim7.holds Tryz.pinned (.plain (OpenSpec.ofChange latticeExactSpec)) latticeExactCard

/-- THE TIED CARD OF 'delverlaw06.LatticeFits'. -/
def latticeFitsCard : Claim7 := { stood := { row := latticeFitsRow, standIns := [], harness := (true, "5ae7cca65014523b7969dd172aae6e37d1294b04200fe38a1c1d32265c2ea37c"), looks := false }, kinds := [], alts := [], laidByText := true, laidKinds := [.listed, .data], laidTests := true, laidLooks := .later }
def LatticeFitsCardSaid : Prop := Claim7.holds Tryz.pinned (.plain (OpenSpec.ofChange latticeFitsSpec)) latticeFitsCard

/-- THE TIED CARD OF 'delverlaw06.LatticeMeets'. -/
def latticeMeetsCard : Claim7 := { stood := { row := latticeMeetsRow, standIns := [], harness := (true, "5ae7cca65014523b7969dd172aae6e37d1294b04200fe38a1c1d32265c2ea37c"), looks := false }, kinds := [], alts := [], laidByText := true, laidKinds := [.listed, .data], laidTests := true, laidLooks := .later }
def LatticeMeetsCardSaid : Prop := Claim7.holds Tryz.pinned (.plain (OpenSpec.ofChange latticeMeetsSpec)) latticeMeetsCard

/-- THE TIED CARD OF 'delverlaw06.LatticeKinds'. -/
def latticeKindsCard : Claim7 := { stood := { row := latticeKindsRow, standIns := [], harness := (true, "5ae7cca65014523b7969dd172aae6e37d1294b04200fe38a1c1d32265c2ea37c"), looks := false }, kinds := [], alts := [], laidByText := true, laidKinds := [.listed, .data], laidTests := true, laidLooks := .later }
def LatticeKindsCardSaid : Prop := Claim7.holds Tryz.pinned (.plain (OpenSpec.ofChange latticeKindsSpec)) latticeKindsCard

/-- THE TIED CARD OF 'delverlaw06.LatticeLeast'. -/
def latticeLeastCard : Claim7 := { stood := { row := latticeLeastRow, standIns := [], harness := (true, "5ae7cca65014523b7969dd172aae6e37d1294b04200fe38a1c1d32265c2ea37c"), looks := false }, kinds := [], alts := [], laidByText := true, laidKinds := [.listed, .data], laidTests := true, laidLooks := .later }
def LatticeLeastCardSaid : Prop := Claim7.holds Tryz.pinned (.plain (OpenSpec.ofChange latticeLeastSpec)) latticeLeastCard

/-- THE TIED CARD OF 'delverlaw06.LatticeUnder'. -/
def latticeUnderCard : Claim7 := { stood := { row := latticeUnderRow, standIns := [], harness := (true, "5ae7cca65014523b7969dd172aae6e37d1294b04200fe38a1c1d32265c2ea37c"), looks := false }, kinds := [], alts := [], laidByText := true, laidKinds := [.listed, .data], laidTests := true, laidLooks := .later }
def LatticeUnderCardSaid : Prop := Claim7.holds Tryz.pinned (.plain (OpenSpec.ofChange latticeUnderSpec)) latticeUnderCard

/-- THE TIED CARD OF 'delverlaw06.LatticeRights'. -/
def latticeRightsCard : Claim7 := { stood := { row := latticeRightsRow, standIns := [], harness := (true, "5ae7cca65014523b7969dd172aae6e37d1294b04200fe38a1c1d32265c2ea37c"), looks := false }, kinds := [], alts := [], laidByText := true, laidKinds := [.listed, .data], laidTests := true, laidLooks := .later }
def LatticeRightsCardSaid : Prop := Claim7.holds Tryz.pinned (.plain (OpenSpec.ofChange latticeRightsSpec)) latticeRightsCard

/-- THE SECOND FORM's CARD OF 'delverlaw06.LatticeExact'. -/
def latticeExactUptoCard : Claim7 := { stood := { row := latticeExactUptoRow, standIns := [], harness := (true, "5ae7cca65014523b7969dd172aae6e37d1294b04200fe38a1c1d32265c2ea37c"), looks := false }, kinds := [], alts := [], laidByText := true, laidKinds := [.listed, .data], laidTests := true, laidLooks := .later }
def LatticeExactUptoCardSaid : Prop := Claim7.holds Tryz.pinned (.plain (OpenSpec.upto latticeExactSpec)) latticeExactUptoCard

/-- THE SECOND FORM's CARD OF 'delverlaw06.LatticeFits'. -/
def latticeFitsUptoCard : Claim7 := { stood := { row := latticeFitsUptoRow, standIns := [], harness := (true, "5ae7cca65014523b7969dd172aae6e37d1294b04200fe38a1c1d32265c2ea37c"), looks := false }, kinds := [], alts := [], laidByText := true, laidKinds := [.listed, .data], laidTests := true, laidLooks := .later }
def LatticeFitsUptoCardSaid : Prop := Claim7.holds Tryz.pinned (.plain (OpenSpec.upto latticeFitsSpec)) latticeFitsUptoCard

/-- THE SECOND FORM's CARD OF 'delverlaw06.LatticeMeets'. -/
def latticeMeetsUptoCard : Claim7 := { stood := { row := latticeMeetsUptoRow, standIns := [], harness := (true, "5ae7cca65014523b7969dd172aae6e37d1294b04200fe38a1c1d32265c2ea37c"), looks := false }, kinds := [], alts := [], laidByText := true, laidKinds := [.listed, .data], laidTests := true, laidLooks := .later }
def LatticeMeetsUptoCardSaid : Prop := Claim7.holds Tryz.pinned (.plain (OpenSpec.upto latticeMeetsSpec)) latticeMeetsUptoCard

/-- THE SECOND FORM's CARD OF 'delverlaw06.LatticeKinds'. -/
def latticeKindsUptoCard : Claim7 := { stood := { row := latticeKindsUptoRow, standIns := [], harness := (true, "5ae7cca65014523b7969dd172aae6e37d1294b04200fe38a1c1d32265c2ea37c"), looks := false }, kinds := [], alts := [], laidByText := true, laidKinds := [.listed, .data], laidTests := true, laidLooks := .later }
def LatticeKindsUptoCardSaid : Prop := Claim7.holds Tryz.pinned (.plain (OpenSpec.upto latticeKindsSpec)) latticeKindsUptoCard

/-- THE SECOND FORM's CARD OF 'delverlaw06.LatticeLeast'. -/
def latticeLeastUptoCard : Claim7 := { stood := { row := latticeLeastUptoRow, standIns := [], harness := (true, "5ae7cca65014523b7969dd172aae6e37d1294b04200fe38a1c1d32265c2ea37c"), looks := false }, kinds := [], alts := [], laidByText := true, laidKinds := [.listed, .data], laidTests := true, laidLooks := .later }
def LatticeLeastUptoCardSaid : Prop := Claim7.holds Tryz.pinned (.plain (OpenSpec.upto latticeLeastSpec)) latticeLeastUptoCard

/-- THE SECOND FORM's CARD OF 'delverlaw06.LatticeUnder'. -/
def latticeUnderUptoCard : Claim7 := { stood := { row := latticeUnderUptoRow, standIns := [], harness := (true, "5ae7cca65014523b7969dd172aae6e37d1294b04200fe38a1c1d32265c2ea37c"), looks := false }, kinds := [], alts := [], laidByText := true, laidKinds := [.listed, .data], laidTests := true, laidLooks := .later }
def LatticeUnderUptoCardSaid : Prop := Claim7.holds Tryz.pinned (.plain (OpenSpec.upto latticeUnderSpec)) latticeUnderUptoCard

/-- THE SECOND FORM's CARD OF 'delverlaw06.LatticeRights'. -/
def latticeRightsUptoCard : Claim7 := { stood := { row := latticeRightsUptoRow, standIns := [], harness := (true, "5ae7cca65014523b7969dd172aae6e37d1294b04200fe38a1c1d32265c2ea37c"), looks := false }, kinds := [], alts := [], laidByText := true, laidKinds := [.listed, .data], laidTests := true, laidLooks := .later }
def LatticeRightsUptoCardSaid : Prop := Claim7.holds Tryz.pinned (.plain (OpenSpec.upto latticeRightsSpec)) latticeRightsUptoCard
end Rows
end Go.Proofs.YtnpelfiggobdnaaGreatDoor
