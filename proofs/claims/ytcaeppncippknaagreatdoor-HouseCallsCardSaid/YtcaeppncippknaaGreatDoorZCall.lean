/- house.Call and house.May. Conditions: a line below 2^20 bytes; a call's texts below 300000 bytes; the package variables' facts (Env), and the contracts of house.read and house.Line. -/
import Derived.Test.YtcaeppncippknaaGreatDoorZRead0A
import Derived.Test.YtcaeppncippknaaGreatDoorZBaseA
import Derived.Test.YtcaeppncippknaaGreatDoorZWords
namespace Go.Proofs.YtcaeppncippknaaGreatDoor
open Go Go.RowKit

def callP (l : List UInt8) : ACall × Bool := readC (wordsP l)
def ResK (x : ACall × Bool) : Value := if x.2 then .tuple #[.agg (callCells x.1), .int .i64 0] else .tuple #[.agg (callCells ACall.zero), .int .i64 310]

set_option maxHeartbeats 1000000 in
set_option maxRecDepth 100000 in
theorem call_calls (hread : ReadAt) (l : List UInt8) (hl : l.length ≤ 1048576) (w : World) (henv : Env w) :
    Calls Tryz.prog 15 #[.string (bs l)] w fun e w' => e = .returned (ResK (callP l)) ∧ Fr [] w w' := by
  have HREAD := Lib.hid hread
  have h8 := henv.size
  have hwl := wordsP_length l
  have HWM : Hid (∀ x ∈ wordsP l, x.length ≤ 1048576) := fun x hx => Nat.le_trans (wordsP_mem hx) hl
  clear hread
  go_enter Tryz.func15, Tryz.ntmps15
  go_wp2_with fail
  generalize hw1 : w.alloc (.cells #[.int .u8 0, .string ⟨#[]⟩, .string ⟨#[]⟩, .int .u64 0, .int .i64 0, .string ⟨#[]⟩, .int .u8 0, .int .u64 0, .string ⟨#[]⟩, .string ⟨#[]⟩, .int .i64 0] 31) = w1
  have hR1 : w1.heap[w.heap.size]? = some (.cells (callCells ACall.zero) 31 (0, 0)) := by subst hw1; exact (MapKept.heap_alloc w _).1
  have hf1 : Fr [] w w1 := by subst hw1; exact (Fr.refl _ _).alloc _
  clear hw1
  refine (words_calls l hl w1 (henv.fr hf1 (by simp))).mono ?_
  rintro e w2 ⟨v, b, rfl, hs2, hb2, _, hf2⟩
  go_wp2_with fail
  refine (HREAD.out b v (wordsP l) w2 (henv.fr (hf1.trans hf2 (by simp)) (by simp)) hs2 (by omega) HWM.out).mono ?_
  rintro e w3 ⟨rfl, hf3⟩
  unfold ResC
  have hR3 := hf3.blockAs (hf2.blockAs hR1 (by simp)) (by simp)
  have HF3 := Lib.hid ((hf1.trans hf2 (by simp)).trans hf3 (by simp))
  have HRC : Hid (callP l = readC (wordsP l)) := rfl
  clear hR1 hf1 hf2 hf3 hs2 hb2 HWM hwl HREAD
  generalize readC (wordsP l) = rc at *
  go_upto_region 2 with (refine wpList_store_row (by rfl) 31 (.tmp 4) (.tmp 10) (by rfl) w3.heap.size (callCells rc.1) (by rfl) (by rfl) 31 _ (MapKept.heap_alloc w3 _).1 infoCall rfl (callCells_one _) ?_)
  generalize hw4 : (w3.alloc _).setRow w3.heap.size (callCells rc.1) = w4
  have hR4 : w4.heap[w.heap.size]? = some (.cells (callCells ACall.zero) 31 (0, 0)) := by
    have := lt_of_block hR3
    subst hw4
    rw [setRow_other _ _ _ _ (by omega), Lib.alloc_old _ _ _ this]
    exact hR3
  have hD4 : w4.heap[w3.heap.size]? = some (.cells (callCells rc.1) 31 (0, 0)) := by
    subst hw4
    exact setRow_heap _ _ _ _ _ _ (MapKept.heap_alloc w3 _).1
  have HF4 : Hid (Fr [] w w4) := by
    have h0 := HF3.out.size
    show Fr [] w w4
    subst hw4
    exact (HF3.out.alloc _).setRow (fun h => absurd h (by omega)) _
  have HR4 := Lib.hid hR4
  have HD4 := Lib.hid hD4
  have hwd : w.heap.size < w3.heap.size := lt_of_block hR3
  clear hw4 hR3 HF3 hR4 hD4
  rcases rc with ⟨c, is⟩
  cases is with
  | false =>
    go_wp2_with (refine wpList_store_row (by rfl) 31 (.tmp 2) (.tmp 14) (by rfl) w.heap.size (callCells ACall.zero) (by rfl) (by rfl) 31 _ HR4.out infoCall rfl (callCells_one _) ?_)
    refine bodyPost_ret (v := .tuple #[.agg (callCells ACall.zero), .int .i64 310]) (results_two rfl _ _ w.heap.size 31 (callCells ACall.zero) (0, 0) _ (by rfl) (setRow_heap _ _ _ _ _ _ HR4.out) Tryz.underlying31 rfl infoCall _ (by rfl)) rfl ?_
    exact ⟨by rw [HRC.out]; rfl, HF4.out.setRow (fun h => absurd h (by omega)) _⟩
  | true =>
    go_wp2_with (first
      | (refine wpList_load_row (by rfl) 31 (.tmp 4) (by rfl) w3.heap.size (by rfl) 31 _ _ _ HD4.out Tryz.underlying31 rfl infoCall ?_)
      | (refine wpList_store_row (by rfl) 31 (.tmp 2) (.tmp 15) (by rfl) w.heap.size (callCells c) (by rfl) (by rfl) 31 _ HR4.out infoCall rfl (callCells_one _) ?_))
    refine bodyPost_ret (v := .tuple #[.agg (callCells c), .int .i64 0]) (results_two rfl _ _ w.heap.size 31 (callCells c) (0, 0) _ (by rfl) (setRow_heap _ _ _ _ _ _ HR4.out) Tryz.underlying31 rfl infoCall _ (by rfl)) rfl ?_
    exact ⟨by rw [HRC.out]; rfl, HF4.out.setRow (fun h => absurd h (by omega)) _⟩

set_option maxHeartbeats 1000000 in
set_option maxRecDepth 100000 in
theorem may_calls (hline : LineAt ResL ACall.Short) (c : ACall) (hwf : c.Wf) (hsh : c.Short) (w : World) (henv : Env w) :
    Calls Tryz.prog 17 #[.agg (callCells c)] w fun e w' => e = .returned (.bool (lineOk c)) ∧ Fr [] w w' := by
  have HL := Lib.hid (hline c hwf hsh)
  clear hline
  go_enter Tryz.func17, Tryz.ntmps17
  go_upto_region 1 with fail
  generalize hw1 : w.alloc (.cells (callCells c) 31) = w1
  have hR1 : w1.heap[w.heap.size]? = some (.cells (callCells c) 31 (0, 0)) := by subst hw1; exact (MapKept.heap_alloc w _).1
  have hf1 : Fr [] w w1 := by subst hw1; exact (Fr.refl _ _).alloc _
  have HR1 := Lib.hid hR1
  clear hw1 hR1
  go_wp2_with (refine wpList_load_row (by rfl) 31 (.tmp 1) (by rfl) w.heap.size (by rfl) 31 _ _ _ HR1.out Tryz.underlying31 rfl infoCall ?_)
  refine (HL.out w1 (henv.fr hf1 (by simp))).mono ?_
  rintro e w2 ⟨rfl, hf2⟩
  rcases Bool.eq_false_or_eq_true (lineOk c) with h | h
  · rw [resL_yes h]
    have H := Lib.hid h
    clear h
    go_wp2_with fail
    go_ret
    exact ⟨by rw [H.out]; rfl, hf1.trans hf2 (by simp)⟩
  · rw [resL_no h]
    have H := Lib.hid h
    clear h
    go_wp2_with fail
    go_ret
    exact ⟨by rw [H.out]; rfl, hf1.trans hf2 (by simp)⟩
end Go.Proofs.YtcaeppncippknaaGreatDoor
