/-
  DERIVED. GIVEN WITH THE SEED: THE CARDS: each row of YthahhonmkhafkaaGreatDoorRows.lean that lists a variable, with what it lists TIED to the program's text (the seventh form; the later family's looks); each row that meets fmt, with fmt's text TOLD by the authors' own Lean function (tested against real Go, not proved from fmt's source: count such statements apart). THE CARD IS WHAT COUNTS. Prove the row's statement (the work); the ties are given (YthahhonmkhafkaaGreatDoorTie.lean); close each card by the builder's one call (the guide's Derived/Test/ToyasCard.lean, 'card_holds'). Laid BY PROGRAM, IN A SANDBOX (cutbox-door.mjs). By AI agents, Wed Nov 11 2026. No macro, syntax, notation, axiom, sorry.
-/
import Derived.Test.YthahhonmkhafkaaGreatDoorRows
import GoSem.ClaimSeven
namespace Go.Proofs.YthahhonmkhafkaaGreatDoor
namespace Rows

/-- THE TIED CARD OF 'delverlaw04.HierOrder'. -/
def hierOrderCard : Claim7 := { stood := { row := hierOrderRow, standIns := [], harness := (true, "96c29c497d4d13c39e7f23fa5ea11db8aac50d4a32a1d01cd58d9239341abf7c"), looks := false }, kinds := [], alts := [], laidByText := true, laidKinds := [.listed, .data], laidTests := true, laidLooks := .later }
def HierOrderCardSaid : Prop := Claim7.holds Tryz.pinned (.plain (OpenSpec.ofChange hierOrderSpec)) hierOrderCard

/-- THE TIED CARD OF 'delverlaw04.HierKinds'. -/
def hierKindsCard : Claim7 := { stood := { row := hierKindsRow, standIns := [], harness := (true, "96c29c497d4d13c39e7f23fa5ea11db8aac50d4a32a1d01cd58d9239341abf7c"), looks := false }, kinds := [], alts := [], laidByText := true, laidKinds := [.listed, .data], laidTests := true, laidLooks := .later }
def HierKindsCardSaid : Prop := Claim7.holds Tryz.pinned (.plain (OpenSpec.ofChange hierKindsSpec)) hierKindsCard

/-- THE TIED CARD OF 'delverlaw04.HierMore'. -/
def hierMoreCard : Claim7 := { stood := { row := hierMoreRow, standIns := [], harness := (true, "96c29c497d4d13c39e7f23fa5ea11db8aac50d4a32a1d01cd58d9239341abf7c"), looks := false }, kinds := [], alts := [], laidByText := true, laidKinds := [.listed, .data], laidTests := true, laidLooks := .later }
def HierMoreCardSaid : Prop := Claim7.holds Tryz.pinned (.plain (OpenSpec.ofChange hierMoreSpec)) hierMoreCard

/-- THE TIED CARD OF 'delverlaw04.HierExact'. -/
def hierExactCard : Claim7 := { stood := { row := hierExactRow, standIns := [], harness := (true, "96c29c497d4d13c39e7f23fa5ea11db8aac50d4a32a1d01cd58d9239341abf7c"), looks := false }, kinds := [], alts := [], laidByText := true, laidKinds := [.listed, .data], laidTests := true, laidLooks := .later }
def HierExactCardSaid : Prop := Claim7.holds Tryz.pinned (.plain (OpenSpec.ofChange hierExactSpec)) hierExactCard

/-- THE TIED CARD OF 'delverlaw04.HierSupers'. -/
def hierSupersCard : Claim7 := { stood := { row := hierSupersRow, standIns := [], harness := (true, "96c29c497d4d13c39e7f23fa5ea11db8aac50d4a32a1d01cd58d9239341abf7c"), looks := false }, kinds := [], alts := [], laidByText := true, laidKinds := [.listed, .data], laidTests := true, laidLooks := .later }
def HierSupersCardSaid : Prop := Claim7.holds Tryz.pinned (.plain (OpenSpec.ofChange hierSupersSpec)) hierSupersCard

/-- THE TIED CARD OF 'delverlaw04.HierBent'. -/
def hierBentCard : Claim7 := { stood := { row := hierBentRow, standIns := [], harness := (true, "96c29c497d4d13c39e7f23fa5ea11db8aac50d4a32a1d01cd58d9239341abf7c"), looks := false }, kinds := [], alts := [], laidByText := true, laidKinds := [.listed, .data], laidTests := true, laidLooks := .later }
def HierBentCardSaid : Prop := Claim7.holds Tryz.pinned (.plain (OpenSpec.ofChange hierBentSpec)) hierBentCard

/-- THE SECOND FORM's CARD OF 'delverlaw04.HierOrder'. -/
def hierOrderUptoCard : Claim7 := { stood := { row := hierOrderUptoRow, standIns := [], harness := (true, "96c29c497d4d13c39e7f23fa5ea11db8aac50d4a32a1d01cd58d9239341abf7c"), looks := false }, kinds := [], alts := [], laidByText := true, laidKinds := [.listed, .data], laidTests := true, laidLooks := .later }
def HierOrderUptoCardSaid : Prop := Claim7.holds Tryz.pinned (.plain (OpenSpec.upto hierOrderSpec)) hierOrderUptoCard

/-- THE SECOND FORM's CARD OF 'delverlaw04.HierKinds'. -/
def hierKindsUptoCard : Claim7 := { stood := { row := hierKindsUptoRow, standIns := [], harness := (true, "96c29c497d4d13c39e7f23fa5ea11db8aac50d4a32a1d01cd58d9239341abf7c"), looks := false }, kinds := [], alts := [], laidByText := true, laidKinds := [.listed, .data], laidTests := true, laidLooks := .later }
def HierKindsUptoCardSaid : Prop := Claim7.holds Tryz.pinned (.plain (OpenSpec.upto hierKindsSpec)) hierKindsUptoCard

/-- THE SECOND FORM's CARD OF 'delverlaw04.HierMore'. -/
def hierMoreUptoCard : Claim7 := { stood := { row := hierMoreUptoRow, standIns := [], harness := (true, "96c29c497d4d13c39e7f23fa5ea11db8aac50d4a32a1d01cd58d9239341abf7c"), looks := false }, kinds := [], alts := [], laidByText := true, laidKinds := [.listed, .data], laidTests := true, laidLooks := .later }
def HierMoreUptoCardSaid : Prop := Claim7.holds Tryz.pinned (.plain (OpenSpec.upto hierMoreSpec)) hierMoreUptoCard

/-- THE SECOND FORM's CARD OF 'delverlaw04.HierExact'. -/
def hierExactUptoCard : Claim7 := { stood := { row := hierExactUptoRow, standIns := [], harness := (true, "96c29c497d4d13c39e7f23fa5ea11db8aac50d4a32a1d01cd58d9239341abf7c"), looks := false }, kinds := [], alts := [], laidByText := true, laidKinds := [.listed, .data], laidTests := true, laidLooks := .later }
def HierExactUptoCardSaid : Prop := Claim7.holds Tryz.pinned (.plain (OpenSpec.upto hierExactSpec)) hierExactUptoCard

/-- THE SECOND FORM's CARD OF 'delverlaw04.HierSupers'. -/
def hierSupersUptoCard : Claim7 := { stood := { row := hierSupersUptoRow, standIns := [], harness := (true, "96c29c497d4d13c39e7f23fa5ea11db8aac50d4a32a1d01cd58d9239341abf7c"), looks := false }, kinds := [], alts := [], laidByText := true, laidKinds := [.listed, .data], laidTests := true, laidLooks := .later }
def HierSupersUptoCardSaid : Prop := Claim7.holds Tryz.pinned (.plain (OpenSpec.upto hierSupersSpec)) hierSupersUptoCard

/-- THE SECOND FORM's CARD OF 'delverlaw04.HierBent'. -/
def hierBentUptoCard : Claim7 := { stood := { row := hierBentUptoRow, standIns := [], harness := (true, "96c29c497d4d13c39e7f23fa5ea11db8aac50d4a32a1d01cd58d9239341abf7c"), looks := false }, kinds := [], alts := [], laidByText := true, laidKinds := [.listed, .data], laidTests := true, laidLooks := .later }
def HierBentUptoCardSaid : Prop := Claim7.holds Tryz.pinned (.plain (OpenSpec.upto hierBentSpec)) hierBentUptoCard
end Rows
end Go.Proofs.YthahhonmkhafkaaGreatDoor
