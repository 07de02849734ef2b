/-
  DERIVED. GIVEN WITH THE SEED: THE CARDS: each row of YteeofkbhopioiaaGreatDoorRows.lean that lists a variable, with what it lists TIED to the program's text (the seventh form; the later family's looks); each row that meets fmt, with fmt's text TOLD by the authors' own Lean function (tested against real Go, not proved from fmt's source: count such statements apart). THE CARD IS WHAT COUNTS. Prove the row's statement (the work); the ties are given (YteeofkbhopioiaaGreatDoorTie.lean); close each card by the builder's one call (the guide's Derived/Test/ToyasCard.lean, 'card_holds'). Laid BY PROGRAM, IN A SANDBOX (cutbox-door.mjs). By AI agents, Wed Nov 11 2026. No macro, syntax, notation, axiom, sorry.
-/
import Derived.Test.YteeofkbhopioiaaGreatDoorRows
import GoSem.ClaimSeven
namespace Go.Proofs.YteeofkbhopioiaaGreatDoor
namespace Rows

/-- THE TIED CARD OF 'delverlaw18.LazyExact'. -/
def lazyExactCard : Claim7 := { stood := { row := lazyExactRow, standIns := [], harness := (true, "c87c44f41003e22e256316fabf253fc35e4c882916a236426b7764c118a61f47"), looks := false }, kinds := [], alts := [], laidByText := true, laidKinds := [.listed, .data], laidTests := true, laidLooks := .later }
def LazyExactCardSaid : Prop := Claim7.holds Tryz.pinned (.plain (OpenSpec.ofChange lazyExactSpec)) lazyExactCard

/-- THE TIED CARD OF 'delverlaw18.LazyUnder'. -/
def lazyUnderCard : Claim7 := { stood := { row := lazyUnderRow, standIns := [], harness := (true, "c87c44f41003e22e256316fabf253fc35e4c882916a236426b7764c118a61f47"), looks := false }, kinds := [], alts := [], laidByText := true, laidKinds := [.listed, .data], laidTests := true, laidLooks := .later }
def LazyUnderCardSaid : Prop := Claim7.holds Tryz.pinned (.plain (OpenSpec.ofChange lazyUnderSpec)) lazyUnderCard

/-- THE TIED CARD OF 'delverlaw18.LazyParts'. -/
def lazyPartsCard : Claim7 := { stood := { row := lazyPartsRow, standIns := [], harness := (true, "c87c44f41003e22e256316fabf253fc35e4c882916a236426b7764c118a61f47"), looks := false }, kinds := [], alts := [], laidByText := true, laidKinds := [.listed, .data], laidTests := true, laidLooks := .later }
def LazyPartsCardSaid : Prop := Claim7.holds Tryz.pinned (.plain (OpenSpec.ofChange lazyPartsSpec)) lazyPartsCard

/-- THE TIED CARD OF 'delverlaw18.LazyNone'. -/
def lazyNoneCard : Claim7 := { stood := { row := lazyNoneRow, standIns := [], harness := (true, "c87c44f41003e22e256316fabf253fc35e4c882916a236426b7764c118a61f47"), looks := false }, kinds := [], alts := [], laidByText := true, laidKinds := [.listed, .data], laidTests := true, laidLooks := .later }
def LazyNoneCardSaid : Prop := Claim7.holds Tryz.pinned (.plain (OpenSpec.ofChange lazyNoneSpec)) lazyNoneCard

/-- THE TIED CARD OF 'delverlaw18.LazyOrder'. -/
def lazyOrderCard : Claim7 := { stood := { row := lazyOrderRow, standIns := [], harness := (true, "c87c44f41003e22e256316fabf253fc35e4c882916a236426b7764c118a61f47"), looks := false }, kinds := [], alts := [], laidByText := true, laidKinds := [.listed, .data], laidTests := true, laidLooks := .later }
def LazyOrderCardSaid : Prop := Claim7.holds Tryz.pinned (.plain (OpenSpec.ofChange lazyOrderSpec)) lazyOrderCard

/-- THE TIED CARD OF 'delverlaw18.LazySlots'. -/
def lazySlotsCard : Claim7 := { stood := { row := lazySlotsRow, standIns := [], harness := (true, "c87c44f41003e22e256316fabf253fc35e4c882916a236426b7764c118a61f47"), looks := false }, kinds := [], alts := [], laidByText := true, laidKinds := [.listed, .data], laidTests := true, laidLooks := .later }
def LazySlotsCardSaid : Prop := Claim7.holds Tryz.pinned (.plain (OpenSpec.ofChange lazySlotsSpec)) lazySlotsCard

/-- THE SECOND FORM's CARD OF 'delverlaw18.LazyExact'. -/
def lazyExactUptoCard : Claim7 := { stood := { row := lazyExactUptoRow, standIns := [], harness := (true, "c87c44f41003e22e256316fabf253fc35e4c882916a236426b7764c118a61f47"), looks := false }, kinds := [], alts := [], laidByText := true, laidKinds := [.listed, .data], laidTests := true, laidLooks := .later }
def LazyExactUptoCardSaid : Prop := Claim7.holds Tryz.pinned (.plain (OpenSpec.upto lazyExactSpec)) lazyExactUptoCard

/-- THE SECOND FORM's CARD OF 'delverlaw18.LazyUnder'. -/
def lazyUnderUptoCard : Claim7 := { stood := { row := lazyUnderUptoRow, standIns := [], harness := (true, "c87c44f41003e22e256316fabf253fc35e4c882916a236426b7764c118a61f47"), looks := false }, kinds := [], alts := [], laidByText := true, laidKinds := [.listed, .data], laidTests := true, laidLooks := .later }
def LazyUnderUptoCardSaid : Prop := Claim7.holds Tryz.pinned (.plain (OpenSpec.upto lazyUnderSpec)) lazyUnderUptoCard

/-- THE SECOND FORM's CARD OF 'delverlaw18.LazyParts'. -/
def lazyPartsUptoCard : Claim7 := { stood := { row := lazyPartsUptoRow, standIns := [], harness := (true, "c87c44f41003e22e256316fabf253fc35e4c882916a236426b7764c118a61f47"), looks := false }, kinds := [], alts := [], laidByText := true, laidKinds := [.listed, .data], laidTests := true, laidLooks := .later }
def LazyPartsUptoCardSaid : Prop := Claim7.holds Tryz.pinned (.plain (OpenSpec.upto lazyPartsSpec)) lazyPartsUptoCard

/-- THE SECOND FORM's CARD OF 'delverlaw18.LazyNone'. -/
def lazyNoneUptoCard : Claim7 := { stood := { row := lazyNoneUptoRow, standIns := [], harness := (true, "c87c44f41003e22e256316fabf253fc35e4c882916a236426b7764c118a61f47"), looks := false }, kinds := [], alts := [], laidByText := true, laidKinds := [.listed, .data], laidTests := true, laidLooks := .later }
def LazyNoneUptoCardSaid : Prop := Claim7.holds Tryz.pinned (.plain (OpenSpec.upto lazyNoneSpec)) lazyNoneUptoCard

/-- THE SECOND FORM's CARD OF 'delverlaw18.LazyOrder'. -/
def lazyOrderUptoCard : Claim7 := { stood := { row := lazyOrderUptoRow, standIns := [], harness := (true, "c87c44f41003e22e256316fabf253fc35e4c882916a236426b7764c118a61f47"), looks := false }, kinds := [], alts := [], laidByText := true, laidKinds := [.listed, .data], laidTests := true, laidLooks := .later }
def LazyOrderUptoCardSaid : Prop := Claim7.holds Tryz.pinned (.plain (OpenSpec.upto lazyOrderSpec)) lazyOrderUptoCard

/-- THE SECOND FORM's CARD OF 'delverlaw18.LazySlots'. -/
def lazySlotsUptoCard : Claim7 := { stood := { row := lazySlotsUptoRow, standIns := [], harness := (true, "c87c44f41003e22e256316fabf253fc35e4c882916a236426b7764c118a61f47"), looks := false }, kinds := [], alts := [], laidByText := true, laidKinds := [.listed, .data], laidTests := true, laidLooks := .later }
def LazySlotsUptoCardSaid : Prop := Claim7.holds Tryz.pinned (.plain (OpenSpec.upto lazySlotsSpec)) lazySlotsUptoCard
end Rows
end Go.Proofs.YteeofkbhopioiaaGreatDoor
