/-
  DERIVED. GIVEN WITH THE SEED: THE CARDS: each row of YtcaeppncippknaaGreatDoorRows.lean that lists a variable, with what it lists TIED to the program's text (the seventh form; the later family's looks); each row that meets fmt, with fmt's text TOLD by the authors' own Lean function (tested against real Go, not proved from fmt's source: count such statements apart). THE CARD IS WHAT COUNTS. Prove the row's statement (the work); the ties are given (YtcaeppncippknaaGreatDoorTie.lean); close each card by the builder's one call (the guide's Derived/Test/ToyasCard.lean, 'card_holds'). Laid BY PROGRAM, IN A SANDBOX (cutbox-door.mjs). By AI agents, Wed Nov 11 2026. No macro, syntax, notation, axiom, sorry.
-/
import Derived.Test.YtcaeppncippknaaGreatDoorRows
import GoSem.ClaimSeven
namespace Go.Proofs.YtcaeppncippknaaGreatDoor
namespace Rows

/-- THE TIED CARD OF 'hoardlaw31.HouseWords'. -/
def houseWordsCard : Claim7 := { stood := { row := houseWordsRow, standIns := [], harness := (true, "67953f329cc337dfe1185af5216a7934ce0ab9b7397d92649c3875eed693ee1e"), looks := true }, kinds := [], alts := [], laidByText := true, laidKinds := [.data, .data, .data, .data, .sentinel, .sentinel, .pinned], laidTests := true, laidLooks := .later }
def HouseWordsCardSaid : Prop := Claim7.holds Tryz.pinned (.plain (OpenSpec.ofChange houseWordsSpec)) houseWordsCard

/-- THE TIED CARD OF 'hoardlaw31.HouseCalls'. -/
def houseCallsCard : Claim7 := { stood := { row := houseCallsRow, standIns := [], harness := (true, "67953f329cc337dfe1185af5216a7934ce0ab9b7397d92649c3875eed693ee1e"), looks := true }, kinds := [], alts := [], laidByText := true, laidKinds := [.data, .data, .data, .data, .sentinel, .sentinel, .pinned], laidTests := true, laidLooks := .later }
def HouseCallsCardSaid : Prop := Claim7.holds Tryz.pinned (.plain (OpenSpec.ofChange houseCallsSpec)) houseCallsCard

/-- THE TIED CARD OF 'hoardlaw31.HouseTold'. -/
def houseToldCard : Claim7 := { stood := { row := houseToldRow, standIns := [], harness := (true, "67953f329cc337dfe1185af5216a7934ce0ab9b7397d92649c3875eed693ee1e"), looks := true }, kinds := [], alts := [], laidByText := true, laidKinds := [.data, .data, .data, .data, .sentinel, .sentinel, .pinned], laidTests := true, laidLooks := .later }
def HouseToldCardSaid : Prop := Claim7.holds Tryz.pinned (.plain (OpenSpec.ofChange houseToldSpec)) houseToldCard

/-- THE TIED CARD OF 'hoardlaw31.HouseBack'. -/
def houseBackCard : Claim7 := { stood := { row := houseBackRow, standIns := [], harness := (true, "67953f329cc337dfe1185af5216a7934ce0ab9b7397d92649c3875eed693ee1e"), looks := true }, kinds := [], alts := [], laidByText := true, laidKinds := [.data, .data, .data, .data, .sentinel, .sentinel, .pinned], laidTests := true, laidLooks := .later }
def HouseBackCardSaid : Prop := Claim7.holds Tryz.pinned (.plain (OpenSpec.ofChange houseBackSpec)) houseBackCard

/-- THE SECOND FORM's CARD OF 'hoardlaw31.HouseWords'. -/
def houseWordsUptoCard : Claim7 := { stood := { row := houseWordsUptoRow, standIns := [], harness := (true, "67953f329cc337dfe1185af5216a7934ce0ab9b7397d92649c3875eed693ee1e"), looks := true }, kinds := [], alts := [], laidByText := true, laidKinds := [.data, .data, .data, .data, .sentinel, .sentinel, .pinned], laidTests := true, laidLooks := .later }
def HouseWordsUptoCardSaid : Prop := Claim7.holds Tryz.pinned (.plain (OpenSpec.upto houseWordsSpec)) houseWordsUptoCard

/-- THE SECOND FORM's CARD OF 'hoardlaw31.HouseCalls'. -/
def houseCallsUptoCard : Claim7 := { stood := { row := houseCallsUptoRow, standIns := [], harness := (true, "67953f329cc337dfe1185af5216a7934ce0ab9b7397d92649c3875eed693ee1e"), looks := true }, kinds := [], alts := [], laidByText := true, laidKinds := [.data, .data, .data, .data, .sentinel, .sentinel, .pinned], laidTests := true, laidLooks := .later }
def HouseCallsUptoCardSaid : Prop := Claim7.holds Tryz.pinned (.plain (OpenSpec.upto houseCallsSpec)) houseCallsUptoCard

/-- THE SECOND FORM's CARD OF 'hoardlaw31.HouseTold'. -/
def houseToldUptoCard : Claim7 := { stood := { row := houseToldUptoRow, standIns := [], harness := (true, "67953f329cc337dfe1185af5216a7934ce0ab9b7397d92649c3875eed693ee1e"), looks := true }, kinds := [], alts := [], laidByText := true, laidKinds := [.data, .data, .data, .data, .sentinel, .sentinel, .pinned], laidTests := true, laidLooks := .later }
def HouseToldUptoCardSaid : Prop := Claim7.holds Tryz.pinned (.plain (OpenSpec.upto houseToldSpec)) houseToldUptoCard

/-- THE SECOND FORM's CARD OF 'hoardlaw31.HouseBack'. -/
def houseBackUptoCard : Claim7 := { stood := { row := houseBackUptoRow, standIns := [], harness := (true, "67953f329cc337dfe1185af5216a7934ce0ab9b7397d92649c3875eed693ee1e"), looks := true }, kinds := [], alts := [], laidByText := true, laidKinds := [.data, .data, .data, .data, .sentinel, .sentinel, .pinned], laidTests := true, laidLooks := .later }
def HouseBackUptoCardSaid : Prop := Claim7.holds Tryz.pinned (.plain (OpenSpec.upto houseBackSpec)) houseBackUptoCard
end Rows
end Go.Proofs.YtcaeppncippknaaGreatDoor
