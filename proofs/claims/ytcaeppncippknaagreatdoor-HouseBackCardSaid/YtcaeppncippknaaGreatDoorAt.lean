/- The contract of hoardlaw31.alive, as a premise (Alive). Conditions: none. -/
import Derived.Test.YtcaeppncippknaaGreatDoorNum
namespace Go.Proofs.YtcaeppncippknaaGreatDoor
open Go Go.RowKit
def AliveAt : Prop := ∀ w : World, Env w → Calls Tryz.prog 7 #[] w fun e w' => e = .returned (.bool true) ∧ Fr [] w w'
end Go.Proofs.YtcaeppncippknaaGreatDoor
