/- What the layer's functions compute, as functions on lists of bytes: words. Conditions: none. -/
import Derived.WalkKit
namespace Go.Proofs.YtcaeppncippknaaGreatDoor

def hexs : List UInt8 := [48, 49, 50, 51, 52, 53, 54, 55, 56, 57, 97, 98, 99, 100, 101, 102]
def hexd (n : Nat) : UInt8 := hexs.getD n 48
/-- Does a byte stand for itself? -/
def plainB (dash : Bool) (c : UInt8) : Bool := decide (32 < c.toNat) && decide (c.toNat < 127) && !(c == 37) && !dash
def esc (dash : Bool) (c : UInt8) : List UInt8 := if plainB dash c then [c] else [37, hexd (c.toNat / 16), hexd (c.toNat % 16)]
/-- A text's word. -/
def hWord (l : List UInt8) : List UInt8 := if l.isEmpty then [45] else l.flatMap (esc (l == [45]))
theorem esc_length (d : Bool) (c : UInt8) : (esc d c).length ≤ 3 := by unfold esc; split <;> simp
theorem flat_length (d : Bool) : ∀ l : List UInt8, (l.flatMap (esc d)).length ≤ 3 * l.length
  | [] => by simp
  | c :: r => by
    have := esc_length d c; have := flat_length d r
    rw [List.flatMap_cons, List.length_append, List.length_cons]; omega
theorem hWord_length (l : List UInt8) : (hWord l).length ≤ 3 * l.length + 1 := by
  have := flat_length (l == [45]) l
  unfold hWord; split
  · simp
  · omega
theorem flat_snoc (d : Bool) (l : List UInt8) (k : Nat) (h : k < l.length) : (l.take (k + 1)).flatMap (esc d) = (l.take k).flatMap (esc d) ++ esc d l[k] := by
  rw [List.take_succ_eq_append_getElem h, List.flatMap_append]; simp
end Go.Proofs.YtcaeppncippknaaGreatDoor
