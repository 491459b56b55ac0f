/-
  DERIVED. GIVEN WITH THE SEED: THE CARDS: each row of YtmmofanfgoahkaaDoorRows.lean that lists a variable, with what it lists TIED to the program's text (the seventh form; the later family's looks); each row that meets fmt, with fmt's text TOLD by the authors' own Lean function (tested against real Go, not proved from fmt's source: count such statements apart). THE CARD IS WHAT COUNTS. Prove the row's statement (the work); the ties are given (YtmmofanfgoahkaaDoorTie.lean); close each card by the builder's one call (the guide's Derived/Test/ToyasCard.lean, 'card_holds'). Laid BY PROGRAM, IN A SANDBOX (cutbox-door.mjs). By AI agents, Wed Nov 11 2026. No macro, syntax, notation, axiom, sorry.
-/
import Derived.Test.YtmmofanfgoahkaaDoorRows
import GoSem.ClaimSeven
namespace Go.Proofs.YtmmofanfgoahkaaDoor
namespace Rows

/-- THE TIED CARD OF 'revertlaw13.RegionKnown'. -/
def regionKnownCard : Claim7 := { stood := { row := regionKnownRow, standIns := [], harness := (true, "77972e1a16da3c3cf300a8af79c5d5d9e4b699340c2350780f08a7cab30d97d5"), looks := false }, kinds := [], alts := [], laidByText := true, laidKinds := [.data, .pinned], laidTests := true, laidLooks := .later }
def RegionKnownCardSaid : Prop := Claim7.holds Tryd.pinned (.plain (OpenSpec.ofChange regionKnownSpec)) regionKnownCard

/-- THE TIED CARD OF 'revertlaw13.RegionTorn'. -/
def regionTornCard : Claim7 := { stood := { row := regionTornRow, standIns := [], harness := (true, "77972e1a16da3c3cf300a8af79c5d5d9e4b699340c2350780f08a7cab30d97d5"), looks := false }, kinds := [], alts := [], laidByText := true, laidKinds := [.data, .pinned], laidTests := true, laidLooks := .later }
def RegionTornCardSaid : Prop := Claim7.holds Tryd.pinned (.plain (OpenSpec.ofChange regionTornSpec)) regionTornCard

/-- THE TIED CARD OF 'revertlaw13.RegionFresh'. -/
def regionFreshCard : Claim7 := { stood := { row := regionFreshRow, standIns := [], harness := (true, "77972e1a16da3c3cf300a8af79c5d5d9e4b699340c2350780f08a7cab30d97d5"), looks := false }, kinds := [], alts := [], laidByText := true, laidKinds := [.data, .pinned], laidTests := true, laidLooks := .later }
def RegionFreshCardSaid : Prop := Claim7.holds Tryd.pinned (.plain (OpenSpec.ofChange regionFreshSpec)) regionFreshCard

/-- THE TIED CARD OF 'revertlaw13.RegionOnce'. -/
def regionOnceCard : Claim7 := { stood := { row := regionOnceRow, standIns := [], harness := (true, "77972e1a16da3c3cf300a8af79c5d5d9e4b699340c2350780f08a7cab30d97d5"), looks := false }, kinds := [], alts := [], laidByText := true, laidKinds := [.data, .pinned], laidTests := true, laidLooks := .later }
def RegionOnceCardSaid : Prop := Claim7.holds Tryd.pinned (.plain (OpenSpec.ofChange regionOnceSpec)) regionOnceCard

/-- THE SECOND FORM's CARD OF 'revertlaw13.RegionKnown'. -/
def regionKnownUptoCard : Claim7 := { stood := { row := regionKnownUptoRow, standIns := [], harness := (true, "77972e1a16da3c3cf300a8af79c5d5d9e4b699340c2350780f08a7cab30d97d5"), looks := false }, kinds := [], alts := [], laidByText := true, laidKinds := [.data, .pinned], laidTests := true, laidLooks := .later }
def RegionKnownUptoCardSaid : Prop := Claim7.holds Tryd.pinned (.plain (OpenSpec.upto regionKnownSpec)) regionKnownUptoCard

/-- THE SECOND FORM's CARD OF 'revertlaw13.RegionTorn'. -/
def regionTornUptoCard : Claim7 := { stood := { row := regionTornUptoRow, standIns := [], harness := (true, "77972e1a16da3c3cf300a8af79c5d5d9e4b699340c2350780f08a7cab30d97d5"), looks := false }, kinds := [], alts := [], laidByText := true, laidKinds := [.data, .pinned], laidTests := true, laidLooks := .later }
def RegionTornUptoCardSaid : Prop := Claim7.holds Tryd.pinned (.plain (OpenSpec.upto regionTornSpec)) regionTornUptoCard

/-- THE SECOND FORM's CARD OF 'revertlaw13.RegionFresh'. -/
def regionFreshUptoCard : Claim7 := { stood := { row := regionFreshUptoRow, standIns := [], harness := (true, "77972e1a16da3c3cf300a8af79c5d5d9e4b699340c2350780f08a7cab30d97d5"), looks := false }, kinds := [], alts := [], laidByText := true, laidKinds := [.data, .pinned], laidTests := true, laidLooks := .later }
def RegionFreshUptoCardSaid : Prop := Claim7.holds Tryd.pinned (.plain (OpenSpec.upto regionFreshSpec)) regionFreshUptoCard

/-- THE SECOND FORM's CARD OF 'revertlaw13.RegionOnce'. -/
def regionOnceUptoCard : Claim7 := { stood := { row := regionOnceUptoRow, standIns := [], harness := (true, "77972e1a16da3c3cf300a8af79c5d5d9e4b699340c2350780f08a7cab30d97d5"), looks := false }, kinds := [], alts := [], laidByText := true, laidKinds := [.data, .pinned], laidTests := true, laidLooks := .later }
def RegionOnceUptoCardSaid : Prop := Claim7.holds Tryd.pinned (.plain (OpenSpec.upto regionOnceSpec)) regionOnceUptoCard
end Rows
end Go.Proofs.YtmmofanfgoahkaaDoor
