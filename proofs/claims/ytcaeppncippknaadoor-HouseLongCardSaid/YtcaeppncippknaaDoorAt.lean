/- The contract of hoardlaw31.alive, as a premise (Alive). Conditions: none. -/
import Derived.Test.YtcaeppncippknaaDoorNum
namespace Go.Proofs.YtcaeppncippknaaDoor
open Go Go.RowKit
def AliveAt : Prop := ∀ w : World, Env w → Calls Tryd.prog 8 #[] w fun e w' => e = .returned (.bool true) ∧ Fr [] w w'
end Go.Proofs.YtcaeppncippknaaDoor
