/-
  DERIVED. GIVEN WITH THE SEED: THE CARDS: each row of YtlogjgmfkjjhjaaGreatDoorRows.lean that lists a variable, with what it lists TIED to the program's text (the seventh form; the later family's looks); each row that meets fmt, with fmt's text TOLD by the authors' own Lean function (tested against real Go, not proved from fmt's source: count such statements apart). THE CARD IS WHAT COUNTS. Prove the row's statement (the work); the ties are given (YtlogjgmfkjjhjaaGreatDoorTie.lean); close each card by the builder's one call (the guide's Derived/Test/ToyasCard.lean, 'card_holds'). Laid BY PROGRAM, IN A SANDBOX (cutbox-door.mjs). By AI agents, Wed Nov 11 2026. No macro, syntax, notation, axiom, sorry.
-/
import Derived.Test.YtlogjgmfkjjhjaaGreatDoorRows
import GoSem.ClaimSeven
namespace Go.Proofs.YtlogjgmfkjjhjaaGreatDoor
namespace Rows

/-- THE TIED CARD OF 'combinerlaw06.FeederTrees'. -/
def feederTreesCard : Claim7 := { stood := { row := feederTreesRow, standIns := [], harness := (true, "63d37c26bcbc76088645ac1e29fa9ea6e55bafd5795c9d3b3f633bb75ac3c142"), looks := false }, kinds := [], alts := [], laidByText := true, laidKinds := [.data, .data, .data, .data, .pinned], laidTests := true, laidLooks := .later }
def FeederTreesCardSaid : Prop := Claim7.holds Tryz.pinned (.plain (OpenSpec.ofChange feederTreesSpec)) feederTreesCard

/-- THE TIED CARD OF 'combinerlaw06.FeederMeters'. -/
def feederMetersCard : Claim7 := { stood := { row := feederMetersRow, standIns := [], harness := (true, "63d37c26bcbc76088645ac1e29fa9ea6e55bafd5795c9d3b3f633bb75ac3c142"), looks := false }, kinds := [], alts := [], laidByText := true, laidKinds := [.data, .data, .data, .data, .pinned], laidTests := true, laidLooks := .later }
def FeederMetersCardSaid : Prop := Claim7.holds Tryz.pinned (.plain (OpenSpec.ofChange feederMetersSpec)) feederMetersCard

/-- THE TIED CARD OF 'combinerlaw06.FeederTrips'. -/
def feederTripsCard : Claim7 := { stood := { row := feederTripsRow, standIns := [], harness := (true, "63d37c26bcbc76088645ac1e29fa9ea6e55bafd5795c9d3b3f633bb75ac3c142"), looks := false }, kinds := [], alts := [], laidByText := true, laidKinds := [.data, .data, .data, .data, .pinned], laidTests := true, laidLooks := .later }
def FeederTripsCardSaid : Prop := Claim7.holds Tryz.pinned (.plain (OpenSpec.ofChange feederTripsSpec)) feederTripsCard

/-- THE TIED CARD OF 'combinerlaw06.FeederOpens'. -/
def feederOpensCard : Claim7 := { stood := { row := feederOpensRow, standIns := [], harness := (true, "63d37c26bcbc76088645ac1e29fa9ea6e55bafd5795c9d3b3f633bb75ac3c142"), looks := false }, kinds := [], alts := [], laidByText := true, laidKinds := [.data, .data, .data, .data, .pinned], laidTests := true, laidLooks := .later }
def FeederOpensCardSaid : Prop := Claim7.holds Tryz.pinned (.plain (OpenSpec.ofChange feederOpensSpec)) feederOpensCard

/-- THE SECOND FORM's CARD OF 'combinerlaw06.FeederTrees'. -/
def feederTreesUptoCard : Claim7 := { stood := { row := feederTreesUptoRow, standIns := [], harness := (true, "63d37c26bcbc76088645ac1e29fa9ea6e55bafd5795c9d3b3f633bb75ac3c142"), looks := false }, kinds := [], alts := [], laidByText := true, laidKinds := [.data, .data, .data, .data, .pinned], laidTests := true, laidLooks := .later }
def FeederTreesUptoCardSaid : Prop := Claim7.holds Tryz.pinned (.plain (OpenSpec.upto feederTreesSpec)) feederTreesUptoCard

/-- THE SECOND FORM's CARD OF 'combinerlaw06.FeederMeters'. -/
def feederMetersUptoCard : Claim7 := { stood := { row := feederMetersUptoRow, standIns := [], harness := (true, "63d37c26bcbc76088645ac1e29fa9ea6e55bafd5795c9d3b3f633bb75ac3c142"), looks := false }, kinds := [], alts := [], laidByText := true, laidKinds := [.data, .data, .data, .data, .pinned], laidTests := true, laidLooks := .later }
def FeederMetersUptoCardSaid : Prop := Claim7.holds Tryz.pinned (.plain (OpenSpec.upto feederMetersSpec)) feederMetersUptoCard

/-- THE SECOND FORM's CARD OF 'combinerlaw06.FeederTrips'. -/
def feederTripsUptoCard : Claim7 := { stood := { row := feederTripsUptoRow, standIns := [], harness := (true, "63d37c26bcbc76088645ac1e29fa9ea6e55bafd5795c9d3b3f633bb75ac3c142"), looks := false }, kinds := [], alts := [], laidByText := true, laidKinds := [.data, .data, .data, .data, .pinned], laidTests := true, laidLooks := .later }
def FeederTripsUptoCardSaid : Prop := Claim7.holds Tryz.pinned (.plain (OpenSpec.upto feederTripsSpec)) feederTripsUptoCard

/-- THE SECOND FORM's CARD OF 'combinerlaw06.FeederOpens'. -/
def feederOpensUptoCard : Claim7 := { stood := { row := feederOpensUptoRow, standIns := [], harness := (true, "63d37c26bcbc76088645ac1e29fa9ea6e55bafd5795c9d3b3f633bb75ac3c142"), looks := false }, kinds := [], alts := [], laidByText := true, laidKinds := [.data, .data, .data, .data, .pinned], laidTests := true, laidLooks := .later }
def FeederOpensUptoCardSaid : Prop := Claim7.holds Tryz.pinned (.plain (OpenSpec.upto feederOpensSpec)) feederOpensUptoCard
end Rows
end Go.Proofs.YtlogjgmfkjjhjaaGreatDoor
