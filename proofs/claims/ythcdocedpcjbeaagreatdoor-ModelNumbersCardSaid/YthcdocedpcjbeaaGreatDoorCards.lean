/-
  DERIVED. GIVEN WITH THE SEED: THE CARDS: each row of YthcdocedpcjbeaaGreatDoorRows.lean that lists a variable, with what it lists TIED to the program's text (the seventh form; the later family's looks); each row that meets fmt, with fmt's text TOLD by the authors' own Lean function (tested against real Go, not proved from fmt's source: count such statements apart). THE CARD IS WHAT COUNTS. Prove the row's statement (the work); the ties are given (YthcdocedpcjbeaaGreatDoorTie.lean); close each card by the builder's one call (the guide's Derived/Test/ToyasCard.lean, 'card_holds'). Laid BY PROGRAM, IN A SANDBOX (cutbox-door.mjs). By AI agents, Wed Nov 11 2026. No macro, syntax, notation, axiom, sorry.
-/
import Derived.Test.YthcdocedpcjbeaaGreatDoorRows
import GoSem.ClaimSeven
namespace Go.Proofs.YthcdocedpcjbeaaGreatDoor
namespace Rows

/-- THE TIED CARD OF 'tallboylaw16.ModelNumbers'. -/
def modelNumbersCard : Claim7 := { stood := { row := modelNumbersRow, standIns := [], harness := (true, "01d83ba96349fe690be846393e8d8092d95f92d0b9c9a064b6d69a4d1667ec79"), looks := true }, kinds := [], alts := [], laidByText := true, laidKinds := [.data, .data, .data, .data, .sentinel, .sentinel, .pinned], laidTests := true, laidLooks := .later }
def ModelNumbersCardSaid : Prop := Claim7.holds Tryz.pinned (.plain (OpenSpec.ofChange modelNumbersSpec)) modelNumbersCard

/-- THE TIED CARD OF 'tallboylaw25.WitnessParts'. -/
def witnessPartsCard : Claim7 := { stood := { row := witnessPartsRow, standIns := [], harness := (true, "01d83ba96349fe690be846393e8d8092d95f92d0b9c9a064b6d69a4d1667ec79"), looks := true }, kinds := [], alts := [], laidByText := true, laidKinds := [.data, .data, .data, .data, .sentinel, .sentinel, .pinned], laidTests := true, laidLooks := .later }
def WitnessPartsCardSaid : Prop := Claim7.holds Tryz.pinned (.plain (OpenSpec.ofChange witnessPartsSpec)) witnessPartsCard

/-- THE TIED CARD OF 'tallboylaw28.LeaseOne'. -/
def leaseOneCard : Claim7 := { stood := { row := leaseOneRow, standIns := [], harness := (true, "01d83ba96349fe690be846393e8d8092d95f92d0b9c9a064b6d69a4d1667ec79"), looks := true }, kinds := [], alts := [], laidByText := true, laidKinds := [.data, .data, .data, .data, .sentinel, .sentinel, .pinned], laidTests := true, laidLooks := .later }
def LeaseOneCardSaid : Prop := Claim7.holds Tryz.pinned (.plain (OpenSpec.ofChange leaseOneSpec)) leaseOneCard

/-- THE TIED CARD OF 'tallboylaw28.LeaseStale'. -/
def leaseStaleCard : Claim7 := { stood := { row := leaseStaleRow, standIns := [], harness := (true, "01d83ba96349fe690be846393e8d8092d95f92d0b9c9a064b6d69a4d1667ec79"), looks := true }, kinds := [], alts := [], laidByText := true, laidKinds := [.data, .data, .data, .data, .sentinel, .sentinel, .pinned], laidTests := true, laidLooks := .later }
def LeaseStaleCardSaid : Prop := Claim7.holds Tryz.pinned (.plain (OpenSpec.ofChange leaseStaleSpec)) leaseStaleCard

/-- THE TIED CARD OF 'tallboylaw28.LeaseCas'. -/
def leaseCasCard : Claim7 := { stood := { row := leaseCasRow, standIns := [], harness := (true, "01d83ba96349fe690be846393e8d8092d95f92d0b9c9a064b6d69a4d1667ec79"), looks := true }, kinds := [], alts := [], laidByText := true, laidKinds := [.data, .data, .data, .data, .sentinel, .sentinel, .pinned], laidTests := true, laidLooks := .later }
def LeaseCasCardSaid : Prop := Claim7.holds Tryz.pinned (.plain (OpenSpec.ofChange leaseCasSpec)) leaseCasCard

/-- THE TIED CARD OF 'tallboylaw28.LeaseQuiet'. -/
def leaseQuietCard : Claim7 := { stood := { row := leaseQuietRow, standIns := [], harness := (true, "01d83ba96349fe690be846393e8d8092d95f92d0b9c9a064b6d69a4d1667ec79"), looks := true }, kinds := [], alts := [], laidByText := true, laidKinds := [.data, .data, .data, .data, .sentinel, .sentinel, .pinned], laidTests := true, laidLooks := .later }
def LeaseQuietCardSaid : Prop := Claim7.holds Tryz.pinned (.plain (OpenSpec.ofChange leaseQuietSpec)) leaseQuietCard

/-- THE TIED CARD OF 'tallboylaw28.LeaseModel'. -/
def leaseModelCard : Claim7 := { stood := { row := leaseModelRow, standIns := [], harness := (true, "01d83ba96349fe690be846393e8d8092d95f92d0b9c9a064b6d69a4d1667ec79"), looks := true }, kinds := [], alts := [], laidByText := true, laidKinds := [.data, .data, .data, .data, .sentinel, .sentinel, .pinned], laidTests := true, laidLooks := .later }
def LeaseModelCardSaid : Prop := Claim7.holds Tryz.pinned (.plain (OpenSpec.ofChange leaseModelSpec)) leaseModelCard

/-- THE SECOND FORM's CARD OF 'tallboylaw16.ModelNumbers'. -/
def modelNumbersUptoCard : Claim7 := { stood := { row := modelNumbersUptoRow, standIns := [], harness := (true, "01d83ba96349fe690be846393e8d8092d95f92d0b9c9a064b6d69a4d1667ec79"), looks := true }, kinds := [], alts := [], laidByText := true, laidKinds := [.data, .data, .data, .data, .sentinel, .sentinel, .pinned], laidTests := true, laidLooks := .later }
def ModelNumbersUptoCardSaid : Prop := Claim7.holds Tryz.pinned (.plain (OpenSpec.upto modelNumbersSpec)) modelNumbersUptoCard

/-- THE SECOND FORM's CARD OF 'tallboylaw25.WitnessParts'. -/
def witnessPartsUptoCard : Claim7 := { stood := { row := witnessPartsUptoRow, standIns := [], harness := (true, "01d83ba96349fe690be846393e8d8092d95f92d0b9c9a064b6d69a4d1667ec79"), looks := true }, kinds := [], alts := [], laidByText := true, laidKinds := [.data, .data, .data, .data, .sentinel, .sentinel, .pinned], laidTests := true, laidLooks := .later }
def WitnessPartsUptoCardSaid : Prop := Claim7.holds Tryz.pinned (.plain (OpenSpec.upto witnessPartsSpec)) witnessPartsUptoCard

/-- THE SECOND FORM's CARD OF 'tallboylaw28.LeaseOne'. -/
def leaseOneUptoCard : Claim7 := { stood := { row := leaseOneUptoRow, standIns := [], harness := (true, "01d83ba96349fe690be846393e8d8092d95f92d0b9c9a064b6d69a4d1667ec79"), looks := true }, kinds := [], alts := [], laidByText := true, laidKinds := [.data, .data, .data, .data, .sentinel, .sentinel, .pinned], laidTests := true, laidLooks := .later }
def LeaseOneUptoCardSaid : Prop := Claim7.holds Tryz.pinned (.plain (OpenSpec.upto leaseOneSpec)) leaseOneUptoCard

/-- THE SECOND FORM's CARD OF 'tallboylaw28.LeaseStale'. -/
def leaseStaleUptoCard : Claim7 := { stood := { row := leaseStaleUptoRow, standIns := [], harness := (true, "01d83ba96349fe690be846393e8d8092d95f92d0b9c9a064b6d69a4d1667ec79"), looks := true }, kinds := [], alts := [], laidByText := true, laidKinds := [.data, .data, .data, .data, .sentinel, .sentinel, .pinned], laidTests := true, laidLooks := .later }
def LeaseStaleUptoCardSaid : Prop := Claim7.holds Tryz.pinned (.plain (OpenSpec.upto leaseStaleSpec)) leaseStaleUptoCard

/-- THE SECOND FORM's CARD OF 'tallboylaw28.LeaseCas'. -/
def leaseCasUptoCard : Claim7 := { stood := { row := leaseCasUptoRow, standIns := [], harness := (true, "01d83ba96349fe690be846393e8d8092d95f92d0b9c9a064b6d69a4d1667ec79"), looks := true }, kinds := [], alts := [], laidByText := true, laidKinds := [.data, .data, .data, .data, .sentinel, .sentinel, .pinned], laidTests := true, laidLooks := .later }
def LeaseCasUptoCardSaid : Prop := Claim7.holds Tryz.pinned (.plain (OpenSpec.upto leaseCasSpec)) leaseCasUptoCard

/-- THE SECOND FORM's CARD OF 'tallboylaw28.LeaseQuiet'. -/
def leaseQuietUptoCard : Claim7 := { stood := { row := leaseQuietUptoRow, standIns := [], harness := (true, "01d83ba96349fe690be846393e8d8092d95f92d0b9c9a064b6d69a4d1667ec79"), looks := true }, kinds := [], alts := [], laidByText := true, laidKinds := [.data, .data, .data, .data, .sentinel, .sentinel, .pinned], laidTests := true, laidLooks := .later }
def LeaseQuietUptoCardSaid : Prop := Claim7.holds Tryz.pinned (.plain (OpenSpec.upto leaseQuietSpec)) leaseQuietUptoCard

/-- THE SECOND FORM's CARD OF 'tallboylaw28.LeaseModel'. -/
def leaseModelUptoCard : Claim7 := { stood := { row := leaseModelUptoRow, standIns := [], harness := (true, "01d83ba96349fe690be846393e8d8092d95f92d0b9c9a064b6d69a4d1667ec79"), looks := true }, kinds := [], alts := [], laidByText := true, laidKinds := [.data, .data, .data, .data, .sentinel, .sentinel, .pinned], laidTests := true, laidLooks := .later }
def LeaseModelUptoCardSaid : Prop := Claim7.holds Tryz.pinned (.plain (OpenSpec.upto leaseModelSpec)) leaseModelUptoCard
end Rows
end Go.Proofs.YthcdocedpcjbeaaGreatDoor
