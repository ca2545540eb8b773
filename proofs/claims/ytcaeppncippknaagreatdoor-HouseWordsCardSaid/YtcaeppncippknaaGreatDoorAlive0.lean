/- The answers that hoardlaw31.alive asks for, in plain. Conditions: none. -/
import Derived.Test.YtcaeppncippknaaGreatDoorLine0
import Derived.Test.YtcaeppncippknaaGreatDoorAns0
import Derived.Test.YtcaeppncippknaaGreatDoorCall
namespace Go.Proofs.YtcaeppncippknaaGreatDoor
open Go Go.RowKit

def alC : ACall := ⟨3, [107], [97], 0, 0, [120, 32], 2, 3, [], [], 0⟩
def alB : ACall := ⟨7, [107], [], 0, 0, [], 0, 0, [], [], 9⟩
def alA : AAns := ⟨0, 4, [120, 121], [], false⟩
def alL : List (List UInt8) := [[99, 111, 100, 101, 32, 48, 32, 52], [116, 101, 120, 116, 32, 120, 121]]
theorem al1 : lineOk alC = true := by decide +kernel
theorem al1' : joinSp (lineOut alC) = [112, 117, 116, 32, 107, 32, 97, 32, 120, 37, 50, 48, 32, 105, 115, 32, 51] := by decide +kernel
theorem al2 : callP [32, 32, 108, 105, 115, 116, 32, 32, 107, 32, 45, 32, 45, 32, 57, 32] = (alB, true) := by decide +kernel
theorem al3 : (callP [103, 101, 116, 32, 107, 32, 97]).2 = false := by decide +kernel
theorem al4 : (callP [112, 117, 116, 32, 107, 32, 97, 32, 120, 32, 105, 115]).2 = false := by decide +kernel
theorem al5 : toldP alA = alL := by decide +kernel
theorem al6 : ansP alL = (alA, true) := by decide +kernel
theorem al7 : hText [120, 37, 50, 48] = some [120, 32] := by decide +kernel
theorem al8 : hText [37, 52, 49] = none := by decide +kernel
theorem al9 : hWord [] = [45] := by decide +kernel
theorem al10 : lineOk alB = true := by decide +kernel
theorem al11 : lineOk ACall.zero = false := by decide +kernel
end Go.Proofs.YtcaeppncippknaaGreatDoor
