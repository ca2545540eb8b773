/-
  DERIVED. GIVEN WITH THE SEED: THE CARDS: each row of YtcaeppncippknaaDoorRows.lean that lists a variable, with what it lists TIED to the program's text (the seventh form; the later family's looks); each row that meets fmt, with fmt's text TOLD by the authors' own Lean function (tested against real Go, not proved from fmt's source: count such statements apart). THE CARD IS WHAT COUNTS. Prove the row's statement (the work); the ties are given (YtcaeppncippknaaDoorTie.lean); close each card by the builder's one call (the guide's Derived/Test/ToyasCard.lean, 'card_holds'). Laid BY PROGRAM, IN A SANDBOX (cutbox-door.mjs). By AI agents, Wed Nov 11 2026. No macro, syntax, notation, axiom, sorry.
-/
import Derived.Test.YtcaeppncippknaaDoorRows
import GoSem.ClaimSeven
namespace Go.Proofs.YtcaeppncippknaaDoor
namespace Rows

/-- THE TIED CARD OF 'hoardlaw31.HouseLong'. -/
def houseLongCard : Claim7 := { stood := { row := houseLongRow, standIns := [], harness := (true, "d1160ec3992f135dea1f8e0361dc237fa9d35387248b405b28be507f025cbc26"), looks := true }, kinds := [], alts := [], laidByText := true, laidKinds := [.data, .data, .data, .data, .sentinel, .sentinel, .pinned], laidTests := true, laidLooks := .later }
def HouseLongCardSaid : Prop := Claim7.holds Tryd.pinned (.plain (OpenSpec.ofChange houseLongSpec)) houseLongCard

/-- THE SECOND FORM's CARD OF 'hoardlaw31.HouseLong'. -/
def houseLongUptoCard : Claim7 := { stood := { row := houseLongUptoRow, standIns := [], harness := (true, "d1160ec3992f135dea1f8e0361dc237fa9d35387248b405b28be507f025cbc26"), looks := true }, kinds := [], alts := [], laidByText := true, laidKinds := [.data, .data, .data, .data, .sentinel, .sentinel, .pinned], laidTests := true, laidLooks := .later }
def HouseLongUptoCardSaid : Prop := Claim7.holds Tryd.pinned (.plain (OpenSpec.upto houseLongSpec)) houseLongUptoCard
end Rows
end Go.Proofs.YtcaeppncippknaaDoor
