/- How long a text's word may be in a call, in plain. Conditions: none. -/
import Derived.Test.YtcaeppncippknaaDoorLine0
import Derived.Test.YtcaeppncippknaaDoorWordsP
import Derived.Test.YtcaeppncippknaaDoorCall
namespace Go.Proofs.YtcaeppncippknaaDoor
open Go Go.RowKit

theorem flat_rep (d : Bool) (c : UInt8) : ∀ n : Nat, ((List.replicate n c).flatMap (esc d)).length = n * (esc d c).length
  | 0 => by simp
  | n + 1 => by rw [List.replicate_succ, List.flatMap_cons, List.length_append, flat_rep d c n, Nat.succ_mul]; omega
theorem hWord_rep (c : UInt8) (hc : c ≠ 45) (n : Nat) (h : 1 ≤ n) : (hWord (List.replicate n c)).length = n * (esc false c).length := by
  have h1 : (List.replicate n c).isEmpty = false := by cases n <;> simp at h ⊢
  have h2 : (List.replicate n c == [45]) = false := by
    rw [beq_eq_false_iff_ne]
    intro e
    cases n with
    | zero => omega
    | succ n => rw [List.replicate_succ] at e; injection e with e _; exact hc e
  unfold hWord
  rw [h1, h2]
  exact flat_rep false c n
def c0 (b : List UInt8) : ACall := { ACall.zero with kind := 1, bucket := b }
theorem long_out (b : List UInt8) : lineOut (c0 b) = [w_make, hWord b] := rfl
theorem long_read (b : List UInt8) : readC [w_make, hWord b] = (c0 b, decide ((hWord b).length ≤ 65536)) := by
  have h1 : rowOf (nextW [w_make, hWord b] false) = some (1, w_make, [22]) := (by decide : rowOf w_make = some (1, w_make, [22]))
  have h2 : readS (1, w_make, [22]) [w_make, hWord b] = ⟨c0 b, [], decide (65536 < (hWord b).length)⟩ := by
    unfold readS rdAll
    simp only [List.foldl]
    rw [show pn 22 = 1 from rfl]
    simp [rdP, textV, textB, nextW, nextL, nextB, hText_word, c0]
  unfold readC
  rw [h1]
  simp only [h2]
  by_cases h : (hWord b).length ≤ 65536
  · simp [h]
  · simp [h]; omega
theorem long_ok (b : List UInt8) : lineOk (c0 b) = decide ((hWord b).length ≤ 65536) := by
  have h1 : (lineK (c0 b)).isSome = true := rfl
  have h2 : wrBad (lineX (c0 b)).2.2 (c0 b) = decide (65536 < (hWord b).length) := by
    show ([22].any fun f => wrB (pn f) (c0 b)) = _
    rw [List.any_cons, List.any_nil, Bool.or_false, show pn 22 = 1 from rfl]
    rfl
  unfold lineOk
  rw [h1, h2, long_out, long_read]
  by_cases h : (hWord b).length ≤ 65536
  · simp [h]
  · simp [h]
theorem long_call (b : List UInt8) : callP ([109, 97, 107, 101, 32] ++ hWord b) = (c0 b, decide ((hWord b).length ≤ 65536)) := by
  unfold callP
  have e : wordsP ([109, 97, 107, 101, 32] ++ hWord b) = [w_make, hWord b] := by
    show wordsP (w_make ++ 32 :: hWord b) = _
    rw [wordsP_app, wordsP_one ⟨by decide, by decide⟩, wordsP_one (isWd_hWord b)]; rfl
  rw [e, long_read]
theorem long_join (b : List UInt8) : (joinSp (lineOut (c0 b))).length = (hWord b).length + 5 := by
  rw [long_out]
  show (Lib.join [w_make, hWord b] [32]).length = _
  rw [Lib.join_cons]
  simp [Lib.joinTail, w_make]
theorem c0_wf (b : List UInt8) (h : b.length ≤ 1048576) : (c0 b).Wf := by
  have h0 : ([] : List UInt8).length ≤ 1048576 := by decide
  exact ⟨(by decide : (1 : Nat) ≤ 255), h, h0, (by decide : (0 : Nat) < 18446744073709551616), (by decide : (-9223372036854775808 : Int) ≤ 0 ∧ (0 : Int) ≤ 9223372036854775807), h0, (by decide : (0 : Nat) ≤ 255), (by decide : (0 : Nat) < 18446744073709551616), h0, h0, (by decide : (-9223372036854775808 : Int) ≤ 0 ∧ (0 : Int) ≤ 9223372036854775807)⟩
theorem c0_short (b : List UInt8) (h : b.length ≤ 300000) : (c0 b).Short := by
  have h0 : ([] : List UInt8).length ≤ 300000 := by decide
  exact ⟨h, h0, h0, h0, h0⟩
theorem long_w (n : Nat) (h : 1 ≤ n) : (hWord (List.replicate n 119)).length = n := by
  rw [hWord_rep 119 (by decide) n h, show (esc false 119).length = 1 from by decide, Nat.mul_one]
theorem long_0 (n : Nat) (h : 1 ≤ n) : (hWord (List.replicate n 0)).length = 3 * n := by
  rw [hWord_rep 0 (by decide) n h, show (esc false 0).length = 3 from by decide, Nat.mul_comm]
/-- A row of n bytes, of which the first k are written. -/
def rowW (n k : Nat) : Array Value := (List.replicate k (Value.int .u8 119) ++ List.replicate (n - k) (Value.int .u8 0)).toArray
theorem rowW_set (n k : Nat) (h : k < n) : (rowW n k).setIfInBounds k (.int .u8 119) = rowW n (k + 1) := by
  unfold rowW
  rw [show n - k = (n - (k + 1)) + 1 by omega, List.replicate_succ]
  apply Array.ext'
  simp only [Array.toList_setIfInBounds]
  rw [List.set_append_right _ _ (by simp)]
  simp [List.replicate_succ']
theorem rowW_at (n k : Nat) (h : k < n) : (rowW n k)[k]? = some (.int .u8 0) := by
  unfold rowW
  simp [List.getElem?_append_right, List.getElem?_replicate]
  omega
end Go.Proofs.YtcaeppncippknaaDoor
