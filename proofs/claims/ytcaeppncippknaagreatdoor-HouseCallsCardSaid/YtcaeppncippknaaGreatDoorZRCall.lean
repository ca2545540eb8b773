/- hoardref31.Call: which call a line is, as house.Call has it. Conditions: the line's length is below 2^20. -/
import Derived.Test.YtcaeppncippknaaGreatDoorZTakeCA
import Derived.Test.YtcaeppncippknaaGreatDoorZMayA
import Derived.Test.YtcaeppncippknaaGreatDoorZRWords
import Derived.Test.YtcaeppncippknaaGreatDoorZCall
namespace Go.Proofs.YtcaeppncippknaaGreatDoor
open Go Go.RowKit

theorem take_wf {l : List (List UInt8)} (hl : ∀ x ∈ l, x ≠ [] ∧ x.length ≤ 1048576) : (takeS l).c.Wf := by
  unfold takeS
  split
  · exact wf_zero 0 (by decide)
  · rename_i r hr
    exact allT_wf r.2.2 (s := ⟨{ ACall.zero with kind := r.1 }, nextL l false, nextB l false⟩) (fun x hx => hl x (nextL_mem (bad := false) hx)) (wf_zero r.1 (rows_ok r (rowOf_mem hr).1).2.1)

set_option maxHeartbeats 8000000 in
set_option maxRecDepth 100000 in
theorem rcall_calls (l : List UInt8) (hl : l.length ≤ 1048576) (w : World) :
    Calls Tryz.prog 16 #[.string (bs l)] w fun e w' => e = .returned (ResK (callR (wordsP l))) ∧ Fr [] w w' := by
  have hws : ∀ y ∈ wordsP l, y ≠ [] ∧ y.length ≤ 1048576 := fun y hy => by have := words_ok l y hy; exact ⟨this.1, by omega⟩
  have hwl : (wordsP l).length ≤ 1048577 := by have := wordsP_length l; omega
  have HWS := Lib.hid hws
  have HWF := Lib.hid (take_wf hws)
  have HCR : Hid (callR (wordsP l) = if (!(takeS (wordsP l)).bad && (takeS (wordsP l)).l.isEmpty && mayP (takeS (wordsP l)).c) then ((takeS (wordsP l)).c, true) else (ACall.zero, false)) := rfl
  clear hws
  go_enter Tryz.func16, Tryz.ntmps16
  go_upto_region 1 with fail
  generalize hw1 : w.alloc _ = w1
  have HR1 : Hid (w1.heap[w.heap.size]? = some (.cells (callCells ACall.zero) 31 (0, 0))) := by show _ = _; subst hw1; exact (MapKept.heap_alloc w _).1
  have HF1 : Hid (Fr [] w w1) := by show Fr [] _ _; subst hw1; exact (Fr.refl _ _).alloc _
  clear hw1
  go_wp2_with fail
  refine (rwords_calls l hl w1).mono ?_
  rintro e w2 ⟨v, rfl, hown, hf2⟩
  have HF2 := Lib.hid (HF1.out.andThen hf2)
  have HR2 := Lib.hid (hf2.blockAs HR1.out (by simp))
  have hs2 : w.heap.size < w2.heap.size := lt_of_block HR2.out
  obtain ⟨tb, hin, htb, _⟩ := own_strs2 hown (by omega)
  have hin0 := hin
  obtain ⟨tp, tc, tof, rfl, _⟩ := hin0.form
  clear hin0 hown hf2 HF1 HR1
  go_upto_region 2 with fail
  generalize hw3 : w2.alloc (.cells #[.slice tp (wordsP l).length tc, .bool false] 99) = w3
  have hf3 : Fr [] w2 w3 := by subst hw3; exact (Fr.refl _ _).alloc _
  have hT3 : RTk w2.heap.size tb w3 (wordsP l) false := ⟨_, by subst hw3; exact (MapKept.heap_alloc w2 _).1, hin.fr hf3 (by simp), by omega⟩
  have htb3 : tb < w3.heap.size := by have := hf3.size; omega
  have HF3 := Lib.hid (HF2.out.andThen hf3)
  have HR3 := Lib.hid (hf3.blockAs HR2.out (by simp))
  clear hw3 hin hf3 HF2 HR2
  generalize w2.heap.size = T at *
  go_wp2_with fail
  refine (take_calls T tb w3 (wordsP l) (by omega) HWS.out hT3 htb3).mono ?_
  rintro e w4 ⟨rfl, hT4, hf4⟩
  have HF4 : Hid (Fr [] w w4) := HF3.out.trans hf4 (by intro i hi h; have := List.mem_singleton.1 hi; omega)
  have HR4 := Lib.hid (hf4.blockAs HR3.out (by simp; omega))
  have HT4 := Lib.hid hT4
  clear hT4 hf4 hT3 HF3 HR3 htb3
  generalize takeS (wordsP l) = s at *
  obtain ⟨c, ls, bd⟩ := s
  have HT4 : Hid (RTk T tb w4 ls bd) := HT4.out
  have HWF : Hid c.Wf := HWF.out
  have HCR : Hid (callR (wordsP l) = if (!bd && ls.isEmpty && mayP c) then (c, true) else (ACall.zero, false)) := HCR.out
  go_upto_region 3 with (refine wpList_store_row (by rfl) 31 (.tmp 5) (.tmp 11) (by rfl) w4.heap.size (callCells c) (by rfl) (by rfl) 31 _ (MapKept.heap_alloc w4 _).1 infoCall rfl (callCells_one _) ?_)
  generalize hw5 : (w4.alloc _).setRow w4.heap.size (callCells c) = w5
  have HD5 : Hid (w5.heap[w4.heap.size]? = some (.cells (callCells c) 31 (0, 0))) := by show _ = _; subst hw5; exact setRow_heap _ _ _ _ _ _ (MapKept.heap_alloc w4 _).1
  have hf5 : Fr [] w4 w5 := by subst hw5; exact ((Fr.refl _ _).alloc _).setRow (fun h => absurd h (by omega)) _
  have HF5 := Lib.hid (HF4.out.andThen hf5)
  have HR5 := Lib.hid (hf5.blockAs HR4.out (by simp))
  have hT5 := HT4.out.fr hf5 (by simp) (by simp)
  clear hw5 hf5 HF4 HR4 HT4
  generalize w4.heap.size = D at *
  obtain ⟨v5, hb5, hin5, _⟩ := hT5
  obtain ⟨rp, rc, ro, rfl, _⟩ := hin5.form
  have t0 : w5.cell? ⟨T, 0, none⟩ = some (.slice rp ls.length rc) := by rw [Lib.cell_of_heap hb5]; rfl
  have t1 : w5.cell? ⟨T, 1, none⟩ = some (.bool bd) := by rw [Lib.cell_of_heap hb5]; rfl
  clear hb5 hin5
  have hcs : bd = true ∨ (bd = false ∧ ∃ x r, ls = x :: r) ∨ (bd = false ∧ ls = []) := by
    cases bd
    · cases ls with
      | nil => exact .inr (.inr ⟨rfl, rfl⟩)
      | cons x r => exact .inr (.inl ⟨rfl, x, r, rfl⟩)
    · exact .inl rfl
  rcases hcs with rfl | ⟨rfl, x, r, rfl⟩ | ⟨rfl, rfl⟩
  · have HE : Hid (callR (wordsP l) = (ACall.zero, false)) := HCR.out
    go_wp2_with (refine wpList_store_row (by rfl) 31 (.tmp 2) (.tmp 29) (by rfl) w.heap.size (callCells ACall.zero) (by rfl) (by rfl) 31 _ HR5.out infoCall rfl (callCells_one _) ?_)
    refine bodyPost_ret (v := .tuple #[.agg (callCells ACall.zero), .int .i64 310]) (results_two rfl _ _ w.heap.size 31 (callCells ACall.zero) (0, 0) _ (by rfl) (setRow_heap _ _ _ _ _ _ HR5.out) Tryz.underlying31 rfl infoCall _ (by rfl)) rfl ?_
    exact ⟨by rw [HE.out]; rfl, HF5.out.setRow (fun h => absurd h (by omega)) _⟩
  · have HE : Hid (callR (wordsP l) = (ACall.zero, false)) := HCR.out
    have hq : (r.length : Int) + 1 > 0 := by omega
    go_wp2_with (refine wpList_store_row (by rfl) 31 (.tmp 2) (.tmp 29) (by rfl) w.heap.size (callCells ACall.zero) (by rfl) (by rfl) 31 _ HR5.out infoCall rfl (callCells_one _) ?_)
    refine bodyPost_ret (v := .tuple #[.agg (callCells ACall.zero), .int .i64 310]) (results_two rfl _ _ w.heap.size 31 (callCells ACall.zero) (0, 0) _ (by rfl) (setRow_heap _ _ _ _ _ _ HR5.out) Tryz.underlying31 rfl infoCall _ (by rfl)) rfl ?_
    exact ⟨by rw [HE.out]; rfl, HF5.out.setRow (fun h => absurd h (by omega)) _⟩
  · go_wp2_with (refine wpList_load_row_g (by rfl) 31 (.tmp 5) (by rfl) D (by rfl) 31 _ _ _ HD5.out Tryz.underlying31 rfl infoCall ?_)
    refine (rmay_calls c HWF.out w5).mono ?_
    rintro e w6 ⟨rfl, hf6⟩
    have HF6 := Lib.hid (HF5.out.andThen hf6)
    have HR6 := Lib.hid (hf6.blockAs HR5.out (by simp))
    have HD6 := Lib.hid (hf6.blockAs HD5.out (by simp))
    clear hf6 t0 t1 HF5 HR5 HD5
    rcases Bool.eq_false_or_eq_true (mayP c) with hm | hm
    · have HE : Hid (callR (wordsP l) = (c, true)) := by show _ = _; rw [HCR.out, hm]; rfl
      rw [hm]
      clear hm
      go_wp2_with (first
        | (refine wpList_load_row (by rfl) 31 (.tmp 5) (by rfl) D (by rfl) 31 _ _ _ HD6.out Tryz.underlying31 rfl infoCall ?_)
        | (refine wpList_store_row (by rfl) 31 (.tmp 2) (.tmp 30) (by rfl) w.heap.size (callCells c) (by rfl) (by rfl) 31 _ HR6.out infoCall rfl (callCells_one _) ?_))
      refine bodyPost_ret (v := .tuple #[.agg (callCells c), .int .i64 0]) (results_two rfl _ _ w.heap.size 31 (callCells c) (0, 0) _ (by rfl) (setRow_heap _ _ _ _ _ _ HR6.out) Tryz.underlying31 rfl infoCall _ (by rfl)) rfl ?_
      exact ⟨by rw [HE.out]; rfl, HF6.out.setRow (fun h => absurd h (by omega)) _⟩
    · have HE : Hid (callR (wordsP l) = (ACall.zero, false)) := by show _ = _; rw [HCR.out, hm]; rfl
      rw [hm]
      clear hm
      go_wp2_with (refine wpList_store_row (by rfl) 31 (.tmp 2) (.tmp 29) (by rfl) w.heap.size (callCells ACall.zero) (by rfl) (by rfl) 31 _ HR6.out infoCall rfl (callCells_one _) ?_)
      refine bodyPost_ret (v := .tuple #[.agg (callCells ACall.zero), .int .i64 310]) (results_two rfl _ _ w.heap.size 31 (callCells ACall.zero) (0, 0) _ (by rfl) (setRow_heap _ _ _ _ _ _ HR6.out) Tryz.underlying31 rfl infoCall _ (by rfl)) rfl ?_
      exact ⟨by rw [HE.out]; rfl, HF6.out.setRow (fun h => absurd h (by omega)) _⟩
end Go.Proofs.YtcaeppncippknaaGreatDoor
