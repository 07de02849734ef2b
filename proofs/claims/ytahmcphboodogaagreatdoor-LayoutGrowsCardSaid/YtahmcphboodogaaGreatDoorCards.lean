/-
  DERIVED. GIVEN WITH THE SEED: THE CARDS: each row of YtahmcphboodogaaGreatDoorRows.lean that lists a variable, with what it lists TIED to the program's text (the seventh form; the later family's looks); each row that meets fmt, with fmt's text TOLD by the authors' own Lean function (tested against real Go, not proved from fmt's source: count such statements apart). THE CARD IS WHAT COUNTS. Prove the row's statement (the work); the ties are given (YtahmcphboodogaaGreatDoorTie.lean); close each card by the builder's one call (the guide's Derived/Test/ToyasCard.lean, 'card_holds'). Laid BY PROGRAM, IN A SANDBOX (cutbox-door.mjs). By AI agents, Wed Nov 11 2026. No macro, syntax, notation, axiom, sorry.
-/
import Derived.Test.YtahmcphboodogaaGreatDoorRows
import GoSem.ClaimSeven
namespace Go.Proofs.YtahmcphboodogaaGreatDoor
namespace Rows

/-- THE TIED CARD OF 'delverlaw05.LayoutExact'. -/
def layoutExactCard : Claim7 := { stood := { row := layoutExactRow, standIns := [], harness := (true, "e93445371c82ecdb764c03dee6cb1f0d7a4540d1faa5583a55d30817d476c006"), looks := false }, kinds := [], alts := [], laidByText := true, laidKinds := [.listed, .data], laidTests := true, laidLooks := .later }
def LayoutExactCardSaid : Prop := Claim7.holds Tryz.pinned (.plain (OpenSpec.ofChange layoutExactSpec)) layoutExactCard

/-- THE TIED CARD OF 'delverlaw05.LayoutBent'. -/
def layoutBentCard : Claim7 := { stood := { row := layoutBentRow, standIns := [], harness := (true, "e93445371c82ecdb764c03dee6cb1f0d7a4540d1faa5583a55d30817d476c006"), looks := false }, kinds := [], alts := [], laidByText := true, laidKinds := [.listed, .data], laidTests := true, laidLooks := .later }
def LayoutBentCardSaid : Prop := Claim7.holds Tryz.pinned (.plain (OpenSpec.ofChange layoutBentSpec)) layoutBentCard

/-- THE TIED CARD OF 'delverlaw05.LayoutStatics'. -/
def layoutStaticsCard : Claim7 := { stood := { row := layoutStaticsRow, standIns := [], harness := (true, "e93445371c82ecdb764c03dee6cb1f0d7a4540d1faa5583a55d30817d476c006"), looks := false }, kinds := [], alts := [], laidByText := true, laidKinds := [.listed, .data], laidTests := true, laidLooks := .later }
def LayoutStaticsCardSaid : Prop := Claim7.holds Tryz.pinned (.plain (OpenSpec.ofChange layoutStaticsSpec)) layoutStaticsCard

/-- THE TIED CARD OF 'delverlaw05.LayoutOver'. -/
def layoutOverCard : Claim7 := { stood := { row := layoutOverRow, standIns := [], harness := (true, "e93445371c82ecdb764c03dee6cb1f0d7a4540d1faa5583a55d30817d476c006"), looks := false }, kinds := [], alts := [], laidByText := true, laidKinds := [.listed, .data], laidTests := true, laidLooks := .later }
def LayoutOverCardSaid : Prop := Claim7.holds Tryz.pinned (.plain (OpenSpec.ofChange layoutOverSpec)) layoutOverCard

/-- THE TIED CARD OF 'delverlaw05.LayoutMethods'. -/
def layoutMethodsCard : Claim7 := { stood := { row := layoutMethodsRow, standIns := [], harness := (true, "e93445371c82ecdb764c03dee6cb1f0d7a4540d1faa5583a55d30817d476c006"), looks := false }, kinds := [], alts := [], laidByText := true, laidKinds := [.listed, .data], laidTests := true, laidLooks := .later }
def LayoutMethodsCardSaid : Prop := Claim7.holds Tryz.pinned (.plain (OpenSpec.ofChange layoutMethodsSpec)) layoutMethodsCard

/-- THE TIED CARD OF 'delverlaw05.LayoutFaces'. -/
def layoutFacesCard : Claim7 := { stood := { row := layoutFacesRow, standIns := [], harness := (true, "e93445371c82ecdb764c03dee6cb1f0d7a4540d1faa5583a55d30817d476c006"), looks := false }, kinds := [], alts := [], laidByText := true, laidKinds := [.listed, .data], laidTests := true, laidLooks := .later }
def LayoutFacesCardSaid : Prop := Claim7.holds Tryz.pinned (.plain (OpenSpec.ofChange layoutFacesSpec)) layoutFacesCard

/-- THE TIED CARD OF 'delverlaw05.LayoutGrows'. -/
def layoutGrowsCard : Claim7 := { stood := { row := layoutGrowsRow, standIns := [], harness := (true, "e93445371c82ecdb764c03dee6cb1f0d7a4540d1faa5583a55d30817d476c006"), looks := false }, kinds := [], alts := [], laidByText := true, laidKinds := [.listed, .data], laidTests := true, laidLooks := .later }
def LayoutGrowsCardSaid : Prop := Claim7.holds Tryz.pinned (.plain (OpenSpec.ofChange layoutGrowsSpec)) layoutGrowsCard

/-- THE SECOND FORM's CARD OF 'delverlaw05.LayoutExact'. -/
def layoutExactUptoCard : Claim7 := { stood := { row := layoutExactUptoRow, standIns := [], harness := (true, "e93445371c82ecdb764c03dee6cb1f0d7a4540d1faa5583a55d30817d476c006"), looks := false }, kinds := [], alts := [], laidByText := true, laidKinds := [.listed, .data], laidTests := true, laidLooks := .later }
def LayoutExactUptoCardSaid : Prop := Claim7.holds Tryz.pinned (.plain (OpenSpec.upto layoutExactSpec)) layoutExactUptoCard

/-- THE SECOND FORM's CARD OF 'delverlaw05.LayoutBent'. -/
def layoutBentUptoCard : Claim7 := { stood := { row := layoutBentUptoRow, standIns := [], harness := (true, "e93445371c82ecdb764c03dee6cb1f0d7a4540d1faa5583a55d30817d476c006"), looks := false }, kinds := [], alts := [], laidByText := true, laidKinds := [.listed, .data], laidTests := true, laidLooks := .later }
def LayoutBentUptoCardSaid : Prop := Claim7.holds Tryz.pinned (.plain (OpenSpec.upto layoutBentSpec)) layoutBentUptoCard

/-- THE SECOND FORM's CARD OF 'delverlaw05.LayoutStatics'. -/
def layoutStaticsUptoCard : Claim7 := { stood := { row := layoutStaticsUptoRow, standIns := [], harness := (true, "e93445371c82ecdb764c03dee6cb1f0d7a4540d1faa5583a55d30817d476c006"), looks := false }, kinds := [], alts := [], laidByText := true, laidKinds := [.listed, .data], laidTests := true, laidLooks := .later }
def LayoutStaticsUptoCardSaid : Prop := Claim7.holds Tryz.pinned (.plain (OpenSpec.upto layoutStaticsSpec)) layoutStaticsUptoCard

/-- THE SECOND FORM's CARD OF 'delverlaw05.LayoutOver'. -/
def layoutOverUptoCard : Claim7 := { stood := { row := layoutOverUptoRow, standIns := [], harness := (true, "e93445371c82ecdb764c03dee6cb1f0d7a4540d1faa5583a55d30817d476c006"), looks := false }, kinds := [], alts := [], laidByText := true, laidKinds := [.listed, .data], laidTests := true, laidLooks := .later }
def LayoutOverUptoCardSaid : Prop := Claim7.holds Tryz.pinned (.plain (OpenSpec.upto layoutOverSpec)) layoutOverUptoCard

/-- THE SECOND FORM's CARD OF 'delverlaw05.LayoutMethods'. -/
def layoutMethodsUptoCard : Claim7 := { stood := { row := layoutMethodsUptoRow, standIns := [], harness := (true, "e93445371c82ecdb764c03dee6cb1f0d7a4540d1faa5583a55d30817d476c006"), looks := false }, kinds := [], alts := [], laidByText := true, laidKinds := [.listed, .data], laidTests := true, laidLooks := .later }
def LayoutMethodsUptoCardSaid : Prop := Claim7.holds Tryz.pinned (.plain (OpenSpec.upto layoutMethodsSpec)) layoutMethodsUptoCard

/-- THE SECOND FORM's CARD OF 'delverlaw05.LayoutFaces'. -/
def layoutFacesUptoCard : Claim7 := { stood := { row := layoutFacesUptoRow, standIns := [], harness := (true, "e93445371c82ecdb764c03dee6cb1f0d7a4540d1faa5583a55d30817d476c006"), looks := false }, kinds := [], alts := [], laidByText := true, laidKinds := [.listed, .data], laidTests := true, laidLooks := .later }
def LayoutFacesUptoCardSaid : Prop := Claim7.holds Tryz.pinned (.plain (OpenSpec.upto layoutFacesSpec)) layoutFacesUptoCard

/-- THE SECOND FORM's CARD OF 'delverlaw05.LayoutGrows'. -/
def layoutGrowsUptoCard : Claim7 := { stood := { row := layoutGrowsUptoRow, standIns := [], harness := (true, "e93445371c82ecdb764c03dee6cb1f0d7a4540d1faa5583a55d30817d476c006"), looks := false }, kinds := [], alts := [], laidByText := true, laidKinds := [.listed, .data], laidTests := true, laidLooks := .later }
def LayoutGrowsUptoCardSaid : Prop := Claim7.holds Tryz.pinned (.plain (OpenSpec.upto layoutGrowsSpec)) layoutGrowsUptoCard
end Rows
end Go.Proofs.YtahmcphboodogaaGreatDoor
