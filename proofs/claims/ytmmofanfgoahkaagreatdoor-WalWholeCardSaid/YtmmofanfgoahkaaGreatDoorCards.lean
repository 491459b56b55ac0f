/-
  DERIVED. GIVEN WITH THE SEED: THE CARDS: each row of YtmmofanfgoahkaaGreatDoorRows.lean that lists a variable, with what it lists TIED to the program's text (the seventh form; the later family's looks); each row that meets fmt, with fmt's text TOLD by the authors' own Lean function (tested against real Go, not proved from fmt's source: count such statements apart). THE CARD IS WHAT COUNTS. Prove the row's statement (the work); the ties are given (YtmmofanfgoahkaaGreatDoorTie.lean); close each card by the builder's one call (the guide's Derived/Test/ToyasCard.lean, 'card_holds'). Laid BY PROGRAM, IN A SANDBOX (cutbox-door.mjs). By AI agents, Wed Nov 11 2026. No macro, syntax, notation, axiom, sorry.
-/
import Derived.Test.YtmmofanfgoahkaaGreatDoorRows
import GoSem.ClaimSeven
namespace Go.Proofs.YtmmofanfgoahkaaGreatDoor
namespace Rows

/-- THE TIED CARD OF 'revertlaw13.RegionPlays'. -/
def regionPlaysCard : Claim7 := { stood := { row := regionPlaysRow, standIns := [], harness := (true, "2a9cfc6c48f2ccd59e290307902c9261921ad98a6df730198afc36fbc8531942"), looks := false }, kinds := [], alts := [], laidByText := true, laidKinds := [.data, .pinned], laidTests := true, laidLooks := .later }
def RegionPlaysCardSaid : Prop := Claim7.holds Tryz.pinned (.plain (OpenSpec.ofChange regionPlaysSpec)) regionPlaysCard

/-- THE TIED CARD OF 'revertlaw14.WalWhole'. -/
def walWholeCard : Claim7 := { stood := { row := walWholeRow, standIns := [], harness := (true, "2a9cfc6c48f2ccd59e290307902c9261921ad98a6df730198afc36fbc8531942"), looks := false }, kinds := [], alts := [], laidByText := true, laidKinds := [.data, .pinned], laidTests := true, laidLooks := .later }
def WalWholeCardSaid : Prop := Claim7.holds Tryz.pinned (.plain (OpenSpec.ofChange walWholeSpec)) walWholeCard

/-- THE TIED CARD OF 'revertlaw14.WalKnown'. -/
def walKnownCard : Claim7 := { stood := { row := walKnownRow, standIns := [], harness := (true, "2a9cfc6c48f2ccd59e290307902c9261921ad98a6df730198afc36fbc8531942"), looks := false }, kinds := [], alts := [], laidByText := true, laidKinds := [.data, .pinned], laidTests := true, laidLooks := .later }
def WalKnownCardSaid : Prop := Claim7.holds Tryz.pinned (.plain (OpenSpec.ofChange walKnownSpec)) walKnownCard

/-- THE TIED CARD OF 'revertlaw14.WalFull'. -/
def walFullCard : Claim7 := { stood := { row := walFullRow, standIns := [], harness := (true, "2a9cfc6c48f2ccd59e290307902c9261921ad98a6df730198afc36fbc8531942"), looks := false }, kinds := [], alts := [], laidByText := true, laidKinds := [.data, .pinned], laidTests := true, laidLooks := .later }
def WalFullCardSaid : Prop := Claim7.holds Tryz.pinned (.plain (OpenSpec.ofChange walFullSpec)) walFullCard

/-- THE SECOND FORM's CARD OF 'revertlaw13.RegionPlays'. -/
def regionPlaysUptoCard : Claim7 := { stood := { row := regionPlaysUptoRow, standIns := [], harness := (true, "2a9cfc6c48f2ccd59e290307902c9261921ad98a6df730198afc36fbc8531942"), looks := false }, kinds := [], alts := [], laidByText := true, laidKinds := [.data, .pinned], laidTests := true, laidLooks := .later }
def RegionPlaysUptoCardSaid : Prop := Claim7.holds Tryz.pinned (.plain (OpenSpec.upto regionPlaysSpec)) regionPlaysUptoCard

/-- THE SECOND FORM's CARD OF 'revertlaw14.WalWhole'. -/
def walWholeUptoCard : Claim7 := { stood := { row := walWholeUptoRow, standIns := [], harness := (true, "2a9cfc6c48f2ccd59e290307902c9261921ad98a6df730198afc36fbc8531942"), looks := false }, kinds := [], alts := [], laidByText := true, laidKinds := [.data, .pinned], laidTests := true, laidLooks := .later }
def WalWholeUptoCardSaid : Prop := Claim7.holds Tryz.pinned (.plain (OpenSpec.upto walWholeSpec)) walWholeUptoCard

/-- THE SECOND FORM's CARD OF 'revertlaw14.WalKnown'. -/
def walKnownUptoCard : Claim7 := { stood := { row := walKnownUptoRow, standIns := [], harness := (true, "2a9cfc6c48f2ccd59e290307902c9261921ad98a6df730198afc36fbc8531942"), looks := false }, kinds := [], alts := [], laidByText := true, laidKinds := [.data, .pinned], laidTests := true, laidLooks := .later }
def WalKnownUptoCardSaid : Prop := Claim7.holds Tryz.pinned (.plain (OpenSpec.upto walKnownSpec)) walKnownUptoCard

/-- THE SECOND FORM's CARD OF 'revertlaw14.WalFull'. -/
def walFullUptoCard : Claim7 := { stood := { row := walFullUptoRow, standIns := [], harness := (true, "2a9cfc6c48f2ccd59e290307902c9261921ad98a6df730198afc36fbc8531942"), looks := false }, kinds := [], alts := [], laidByText := true, laidKinds := [.data, .pinned], laidTests := true, laidLooks := .later }
def WalFullUptoCardSaid : Prop := Claim7.holds Tryz.pinned (.plain (OpenSpec.upto walFullSpec)) walFullUptoCard
end Rows
end Go.Proofs.YtmmofanfgoahkaaGreatDoor
