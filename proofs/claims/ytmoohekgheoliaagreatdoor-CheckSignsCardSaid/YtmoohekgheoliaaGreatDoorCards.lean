/-
  DERIVED. GIVEN WITH THE SEED: THE CARDS: each row of YtmoohekgheoliaaGreatDoorRows.lean that lists a variable, with what it lists TIED to the program's text (the seventh form; the later family's looks); each row that meets fmt, with fmt's text TOLD by the authors' own Lean function (tested against real Go, not proved from fmt's source: count such statements apart). THE CARD IS WHAT COUNTS. Prove the row's statement (the work); the ties are given (YtmoohekgheoliaaGreatDoorTie.lean); close each card by the builder's one call (the guide's Derived/Test/ToyasCard.lean, 'card_holds'). Laid BY PROGRAM, IN A SANDBOX (cutbox-door.mjs). By AI agents, Wed Nov 11 2026. No macro, syntax, notation, axiom, sorry.
-/
import Derived.Test.YtmoohekgheoliaaGreatDoorRows
import GoSem.ClaimSeven
namespace Go.Proofs.YtmoohekgheoliaaGreatDoor
namespace Rows

/-- THE TIED CARD OF 'drawbridgelaw12.CheckKeeps'. -/
def checkKeepsCard : Claim7 := { stood := { row := checkKeepsRow, standIns := [], harness := (true, "d0fd2f02d7a607ea26ec6214018ecf03122ec7b8e3c6eeea03932de8c3b9d735"), looks := false }, kinds := [], alts := [], laidByText := true, laidKinds := [.data], laidTests := true, laidLooks := .later }
def CheckKeepsCardSaid : Prop := Claim7.holds Tryz.pinned (.plain (OpenSpec.ofChange checkKeepsSpec)) checkKeepsCard

/-- THE TIED CARD OF 'drawbridgelaw12.CheckWaits'. -/
def checkWaitsCard : Claim7 := { stood := { row := checkWaitsRow, standIns := [], harness := (true, "d0fd2f02d7a607ea26ec6214018ecf03122ec7b8e3c6eeea03932de8c3b9d735"), looks := false }, kinds := [], alts := [], laidByText := true, laidKinds := [.data], laidTests := true, laidLooks := .later }
def CheckWaitsCardSaid : Prop := Claim7.holds Tryz.pinned (.plain (OpenSpec.ofChange checkWaitsSpec)) checkWaitsCard

/-- THE TIED CARD OF 'drawbridgelaw12.CheckPays'. -/
def checkPaysCard : Claim7 := { stood := { row := checkPaysRow, standIns := [], harness := (true, "d0fd2f02d7a607ea26ec6214018ecf03122ec7b8e3c6eeea03932de8c3b9d735"), looks := false }, kinds := [], alts := [], laidByText := true, laidKinds := [.data], laidTests := true, laidLooks := .later }
def CheckPaysCardSaid : Prop := Claim7.holds Tryz.pinned (.plain (OpenSpec.ofChange checkPaysSpec)) checkPaysCard

/-- THE TIED CARD OF 'drawbridgelaw12.CheckOuts'. -/
def checkOutsCard : Claim7 := { stood := { row := checkOutsRow, standIns := [], harness := (true, "d0fd2f02d7a607ea26ec6214018ecf03122ec7b8e3c6eeea03932de8c3b9d735"), looks := false }, kinds := [], alts := [], laidByText := true, laidKinds := [.data], laidTests := true, laidLooks := .later }
def CheckOutsCardSaid : Prop := Claim7.holds Tryz.pinned (.plain (OpenSpec.ofChange checkOutsSpec)) checkOutsCard

/-- THE TIED CARD OF 'drawbridgelaw12.CheckSigns'. -/
def checkSignsCard : Claim7 := { stood := { row := checkSignsRow, standIns := [], harness := (true, "d0fd2f02d7a607ea26ec6214018ecf03122ec7b8e3c6eeea03932de8c3b9d735"), looks := false }, kinds := [], alts := [], laidByText := true, laidKinds := [.data], laidTests := true, laidLooks := .later }
def CheckSignsCardSaid : Prop := Claim7.holds Tryz.pinned (.plain (OpenSpec.ofChange checkSignsSpec)) checkSignsCard

/-- THE TIED CARD OF 'drawbridgelaw12.CheckChains'. -/
def checkChainsCard : Claim7 := { stood := { row := checkChainsRow, standIns := [], harness := (true, "d0fd2f02d7a607ea26ec6214018ecf03122ec7b8e3c6eeea03932de8c3b9d735"), looks := false }, kinds := [], alts := [], laidByText := true, laidKinds := [.data], laidTests := true, laidLooks := .later }
def CheckChainsCardSaid : Prop := Claim7.holds Tryz.pinned (.plain (OpenSpec.ofChange checkChainsSpec)) checkChainsCard

/-- THE SECOND FORM's CARD OF 'drawbridgelaw12.CheckKeeps'. -/
def checkKeepsUptoCard : Claim7 := { stood := { row := checkKeepsUptoRow, standIns := [], harness := (true, "d0fd2f02d7a607ea26ec6214018ecf03122ec7b8e3c6eeea03932de8c3b9d735"), looks := false }, kinds := [], alts := [], laidByText := true, laidKinds := [.data], laidTests := true, laidLooks := .later }
def CheckKeepsUptoCardSaid : Prop := Claim7.holds Tryz.pinned (.plain (OpenSpec.upto checkKeepsSpec)) checkKeepsUptoCard

/-- THE SECOND FORM's CARD OF 'drawbridgelaw12.CheckWaits'. -/
def checkWaitsUptoCard : Claim7 := { stood := { row := checkWaitsUptoRow, standIns := [], harness := (true, "d0fd2f02d7a607ea26ec6214018ecf03122ec7b8e3c6eeea03932de8c3b9d735"), looks := false }, kinds := [], alts := [], laidByText := true, laidKinds := [.data], laidTests := true, laidLooks := .later }
def CheckWaitsUptoCardSaid : Prop := Claim7.holds Tryz.pinned (.plain (OpenSpec.upto checkWaitsSpec)) checkWaitsUptoCard

/-- THE SECOND FORM's CARD OF 'drawbridgelaw12.CheckPays'. -/
def checkPaysUptoCard : Claim7 := { stood := { row := checkPaysUptoRow, standIns := [], harness := (true, "d0fd2f02d7a607ea26ec6214018ecf03122ec7b8e3c6eeea03932de8c3b9d735"), looks := false }, kinds := [], alts := [], laidByText := true, laidKinds := [.data], laidTests := true, laidLooks := .later }
def CheckPaysUptoCardSaid : Prop := Claim7.holds Tryz.pinned (.plain (OpenSpec.upto checkPaysSpec)) checkPaysUptoCard

/-- THE SECOND FORM's CARD OF 'drawbridgelaw12.CheckOuts'. -/
def checkOutsUptoCard : Claim7 := { stood := { row := checkOutsUptoRow, standIns := [], harness := (true, "d0fd2f02d7a607ea26ec6214018ecf03122ec7b8e3c6eeea03932de8c3b9d735"), looks := false }, kinds := [], alts := [], laidByText := true, laidKinds := [.data], laidTests := true, laidLooks := .later }
def CheckOutsUptoCardSaid : Prop := Claim7.holds Tryz.pinned (.plain (OpenSpec.upto checkOutsSpec)) checkOutsUptoCard

/-- THE SECOND FORM's CARD OF 'drawbridgelaw12.CheckSigns'. -/
def checkSignsUptoCard : Claim7 := { stood := { row := checkSignsUptoRow, standIns := [], harness := (true, "d0fd2f02d7a607ea26ec6214018ecf03122ec7b8e3c6eeea03932de8c3b9d735"), looks := false }, kinds := [], alts := [], laidByText := true, laidKinds := [.data], laidTests := true, laidLooks := .later }
def CheckSignsUptoCardSaid : Prop := Claim7.holds Tryz.pinned (.plain (OpenSpec.upto checkSignsSpec)) checkSignsUptoCard

/-- THE SECOND FORM's CARD OF 'drawbridgelaw12.CheckChains'. -/
def checkChainsUptoCard : Claim7 := { stood := { row := checkChainsUptoRow, standIns := [], harness := (true, "d0fd2f02d7a607ea26ec6214018ecf03122ec7b8e3c6eeea03932de8c3b9d735"), looks := false }, kinds := [], alts := [], laidByText := true, laidKinds := [.data], laidTests := true, laidLooks := .later }
def CheckChainsUptoCardSaid : Prop := Claim7.holds Tryz.pinned (.plain (OpenSpec.upto checkChainsSpec)) checkChainsUptoCard
end Rows
end Go.Proofs.YtmoohekgheoliaaGreatDoor
