/- hoardlaw31.HouseCalls: true, whatever the input. Conditions: the package variables' facts (Env), lengths below 2^47, and the contracts of house.read, house.Line and hoardlaw31.alive. -/
import Derived.Test.YtcaeppncippknaaGreatDoorZRCall
import Derived.Test.YtcaeppncippknaaGreatDoorZRLine
import Derived.Test.YtcaeppncippknaaGreatDoorZCallEq2
import Derived.Test.YtcaeppncippknaaGreatDoorZGuards
import Derived.Test.YtcaeppncippknaaGreatDoorZOpen
import Derived.Test.YtcaeppncippknaaGreatDoorZNumA
import Derived.Deep.DeepCutAuto
import Derived.Deep.RegionHeld3
namespace Go.Proofs.YtcaeppncippknaaGreatDoor
open Go Go.RowKit

theorem call_mem_wf {c : ACall} (h : c.Mem) (hl : largeP c = false) : c.Wf ∧ c.Short := by
  obtain ⟨h1, h2, h3, h4, h5⟩ := large_no hl
  exact ⟨⟨h.kind, by omega, by omega, h.num, h.part, by omega, h.ck, h.cn, by omega, by omega, h.most⟩, ⟨by omega, by omega, by omega, by omega, by omega⟩⟩
theorem resR_eq {c : ACall} (hw : c.Wf) : ResR c = ResL c := by
  unfold ResR ResL
  rw [may_line hw]
  cases hm : mayP c with
  | false => rfl
  | true =>
    have h := hm
    unfold mayP at h
    simp only [Bool.and_eq_true, decide_eq_true_eq] at h
    rw [lineR_eq h.1.1.2]
theorem resK_same {l : List (List UInt8)} (hl : ∀ x ∈ l, x ≠ [] ∧ x.length ≤ 1048576) : ResK (callR l) = ResK (readC l) := by
  rw [call_same hl]
  unfold callN ResK
  cases h : (readC l).2 <;> rfl
theorem resK_form (x : ACall × Bool) : ∃ (d : ACall) (z : Int), ResK x = .tuple #[.agg (callCells d), .int .i64 z] := by
  unfold ResK
  split
  · exact ⟨_, _, rfl⟩
  · exact ⟨_, _, rfl⟩
theorem resL_form (c : ACall) : ∃ (s : List UInt8) (z : Int), ResL c = .tuple #[.string (bs s), .int .i64 z] := by
  unfold ResL
  split
  · exact ⟨_, _, rfl⟩
  · exact ⟨_, _, rfl⟩

set_option maxHeartbeats 16000000 in
set_option maxRecDepth 100000 in
theorem sayCalls_calls (hread : ReadAt) (hline : LineAt ResL ACall.Short) (halive : AliveAt) (c : ACall) (hc : c.Mem) (l : List UInt8) (w : World) (henv : Env w) :
    Calls Tryz.prog 4 #[.agg (callCells c), .string (bs l)] w fun e w' => e = .returned (.bool true) ∧ Fr [] w w' := by
  have HENV := Lib.hid henv
  have HREAD := Lib.hid hread
  have HLINE := Lib.hid hline
  have HALIVE := Lib.hid halive
  have ALIVE : Hid (∀ u : World, Fr [] w u → Calls Tryz.prog 7 #[] u fun e w' => e = .returned (.bool true) ∧ Fr [] w w') :=
    fun u hu => (HALIVE.out u (HENV.out.fr hu (by simp))).mono fun e w' ⟨h1, h2⟩ => ⟨h1, hu.andThen h2⟩
  have hsz : (bs l).size = l.length := bs_size l
  clear henv hread hline halive
  go_enter Tryz.func4, Tryz.ntmps4
  go_upto_region 1 with fail
  generalize hw1 : w.alloc _ = w1
  have HC1 : Hid (w1.heap[w.heap.size]? = some (.cells (callCells c) 31 (0, 0))) := by show _ = _; subst hw1; exact (MapKept.heap_alloc w _).1
  have HF1 : Hid (Fr [] w w1) := by show Fr [] _ _; subst hw1; exact (Fr.refl _ _).alloc _
  clear hw1
  go_wp2_with (refine wpList_load_row (by rfl) 31 (.tmp 2) (by rfl) w.heap.size (by rfl) 31 _ _ _ HC1.out Tryz.underlying31 rfl infoCall ?_)
  refine (large_calls c w1).mono ?_
  rintro e w2 ⟨rfl, hf2⟩
  have HF2 := Lib.hid (HF1.out.andThen hf2)
  have HC2 := Lib.hid (hf2.blockAs HC1.out (by simp))
  clear hf2 HF1 HC1
  rcases Bool.eq_false_or_eq_true (largeP c) with hlc | hlc
  · rw [hlc]
    clear hlc
    go_wp2_with fail
    refine (ALIVE.out w2 HF2.out).mono ?_
    rintro e w3 ⟨rfl, hf3⟩
    go_wp2_with fail
    go_ret
    exact ⟨rfl, hf3⟩
  rw [hlc]
  obtain ⟨hwf, hsh⟩ := call_mem_wf hc hlc
  have HWF := Lib.hid hwf
  have HSH := Lib.hid hsh
  clear hwf hsh hlc hc
  by_cases hll : 4096 < l.length
  · go_wp2_with fail
    refine (ALIVE.out w2 HF2.out).mono ?_
    rintro e w3 ⟨rfl, hf3⟩
    go_wp2_with fail
    go_ret
    exact ⟨rfl, hf3⟩
  have hws : ∀ y ∈ wordsP l, y ≠ [] ∧ y.length ≤ 1048576 := fun y hy => by have := words_ok l y hy; exact ⟨this.1, by omega⟩
  have HSAME := Lib.hid (resK_same hws)
  have HRE := Lib.hid (resR_eq HWF.out)
  have hml := may_line HWF.out
  have HML := Lib.hid hml
  clear hws hml
  go_wp2_with (refine wpList_load_row (by rfl) 31 (.tmp 2) (by rfl) w.heap.size (by rfl) 31 _ _ _ HC2.out Tryz.underlying31 rfl infoCall ?_)
  refine (HLINE.out c HWF.out HSH.out w2 (HENV.out.fr HF2.out (by simp))).mono ?_
  rintro e w3 ⟨rfl, hf3⟩
  have HF3 := Lib.hid (HF2.out.andThen hf3)
  have HC3 := Lib.hid (hf3.blockAs HC2.out (by simp))
  clear hf3 HF2 HC2
  obtain ⟨s, z, hrl⟩ := resL_form c
  have HRL := Lib.hid hrl
  clear hrl
  rw [HRL.out]
  go_wp2_with (refine wpList_load_row (by rfl) 31 (.tmp 2) (by rfl) w.heap.size (by rfl) 31 _ _ _ HC3.out Tryz.underlying31 rfl infoCall ?_)
  have hrl := rline_calls c HWF.out HSH.out w3
  rw [HRE.out, HRL.out] at hrl
  refine hrl.mono ?_
  clear hrl
  rintro e w4 ⟨rfl, hf4⟩
  have HF4 := Lib.hid (HF3.out.andThen hf4)
  have HC4 := Lib.hid (hf4.blockAs HC3.out (by simp))
  clear hf4 HF3 HC3
  obtain ⟨d, y, hrk⟩ := resK_form (readC (wordsP l))
  have HRK := Lib.hid hrk
  clear hrk
  go_wp2_with fail
  have hck := call_calls HREAD.out l (by omega) w4 (HENV.out.fr HF4.out (by simp))
  rw [show callP l = readC (wordsP l) from rfl, HRK.out] at hck
  refine hck.mono ?_
  clear hck
  rintro e w5 ⟨rfl, hf5⟩
  have HF5 := Lib.hid (HF4.out.andThen hf5)
  have HC5 := Lib.hid (hf5.blockAs HC4.out (by simp))
  clear hf5 HF4 HC4
  go_upto_region 6 with (refine wpList_store_row (by rfl) 31 (.tmp 9) (.tmp 34) (by rfl) w5.heap.size (callCells d) (by rfl) (by rfl) 31 _ (MapKept.heap_alloc w5 _).1 infoCall rfl (callCells_one _) ?_)
  generalize hw6 : (w5.alloc _).setRow w5.heap.size (callCells d) = w6
  have HX6 : Hid (w6.heap[w5.heap.size]? = some (.cells (callCells d) 31 (0, 0))) := by show _ = _; subst hw6; exact setRow_heap _ _ _ _ _ _ (MapKept.heap_alloc w5 _).1
  have hf6 : Fr [] w5 w6 := by subst hw6; exact ((Fr.refl _ _).alloc _).setRow (fun h => absurd h (by omega)) _
  have HF6 := Lib.hid (HF5.out.andThen hf6)
  have HC6 := Lib.hid (hf6.blockAs HC5.out (by simp))
  clear hw6 hf6 HF5 HC5
  generalize w5.heap.size = X at *
  go_wp2_with fail
  have hrc := rcall_calls l (by omega) w6
  rw [HSAME.out, HRK.out] at hrc
  refine hrc.mono ?_
  clear hrc
  rintro e w7 ⟨rfl, hf7⟩
  have HF7 := Lib.hid (HF6.out.andThen hf7)
  have HC7 := Lib.hid (hf7.blockAs HC6.out (by simp))
  have HX7 := Lib.hid (hf7.blockAs HX6.out (by simp))
  clear hf7 HF6 HC6 HX6
  go_upto_region 7 with (refine wpList_store_row (by rfl) 31 (.tmp 11) (.tmp 39) (by rfl) w7.heap.size (callCells d) (by rfl) (by rfl) 31 _ (MapKept.heap_alloc w7 _).1 infoCall rfl (callCells_one _) ?_)
  generalize hw8 : (w7.alloc _).setRow w7.heap.size (callCells d) = w8
  have HY8 : Hid (w8.heap[w7.heap.size]? = some (.cells (callCells d) 31 (0, 0))) := by show _ = _; subst hw8; exact setRow_heap _ _ _ _ _ _ (MapKept.heap_alloc w7 _).1
  have hf8 : Fr [] w7 w8 := by subst hw8; exact ((Fr.refl _ _).alloc _).setRow (fun h => absurd h (by omega)) _
  have HF8 := Lib.hid (HF7.out.andThen hf8)
  have HC8 := Lib.hid (hf8.blockAs HC7.out (by simp))
  have HX8 := Lib.hid (hf8.blockAs HX7.out (by simp))
  clear hw8 hf8 HF7 HC7 HX7
  generalize w7.heap.size = Y at *
  have heql := eqlCall d d
  rw [show decide (d = d) = true by simp] at heql
  have hM1 : ∀ u : World, Fr [] w u → Calls Tryz.prog 17 #[.agg (callCells c)] u fun e w' => e = .returned (.bool (mayP c)) ∧ Fr [] u w' := fun u hu => by
    have h := may_calls HLINE.out c HWF.out HSH.out u (HENV.out.fr hu (by simp))
    rwa [HML.out] at h
  have HM1 := Lib.hid hM1
  have HM2 : Hid (∀ u : World, Calls Tryz.prog 18 #[.agg (callCells c)] u fun e w' => e = .returned (.bool (mayP c)) ∧ Fr [] u w') := rmay_calls c HWF.out
  clear hM1
  generalize mayP c = m at *
  have HF0 : Hid (Fr [] w w8.drew) := HF8.out.drew
  have hbC : w8.drew.heap[w.heap.size]? = some (.cells (callCells c) 31 (0, 0)) := HC8.out
  have hbX : w8.drew.heap[X]? = some (.cells (callCells d) 31 (0, 0)) := HX8.out
  have hbY : w8.drew.heap[Y]? = some (.cells (callCells d) 31 (0, 0)) := HY8.out
  have HB0 := Lib.hid (And.intro hbC (And.intro hbX hbY))
  clear hbC hbX hbY HC8 HX8 HY8 HF8
  refine wp_region_held_drew (S := fun w' => w'.heap[w.heap.size]? = some (.cells (callCells c) 31 (0, 0)) ∧ w'.heap[X]? = some (.cells (callCells d) 31 (0, 0)) ∧ w'.heap[Y]? = some (.cells (callCells d) 31 (0, 0))) (by kernel_rfl) HB0.out (fun hHeld => ?_)
  refine wpAnyH_take (i := 0) (v := (.string (bs s))) (by simp only [List.getElem?_toArray, List.getElem?_cons_zero]; rfl) (by kernel_rfl) (by kernel_rfl) (by kernel_rfl) (by exact fun _ _ _ h => h) (Or.inl ⟨by rfl, ?_⟩) hHeld ?_
  · (intro w' hw'; obtain ⟨s0, s1, s2⟩ := hw'; go_simp)
  simp only [Act.put, List.setIfInBounds_toArray, List.set_cons_zero, List.set_cons_succ]
  refine wpAnyH_take (i := 1) (v := (.string (bs s))) (by simp only [List.getElem?_toArray, List.getElem?_cons_succ, List.getElem?_cons_zero]; rfl) (by kernel_rfl) (by kernel_rfl) (by kernel_rfl) (by exact fun _ _ _ h => h) (Or.inl ⟨by rfl, ?_⟩) hHeld ?_
  · (intro w' hw'; obtain ⟨s0, s1, s2⟩ := hw'; go_simp)
  simp only [Act.put, List.setIfInBounds_toArray, List.set_cons_zero, List.set_cons_succ]
  refine wpAnyH_take (i := 2) (v := (.bool true)) (by simp only [List.getElem?_toArray, List.getElem?_cons_succ, List.getElem?_cons_zero]; rfl) (by kernel_rfl) (by kernel_rfl) (by kernel_rfl) (by exact fun _ _ _ h => h) (Or.inl ⟨by rfl, ?_⟩) hHeld ?_
  · (intro w' hw'; obtain ⟨s0, s1, s2⟩ := hw'; go_simp)
  simp only [Act.put, List.setIfInBounds_toArray, List.set_cons_zero, List.set_cons_succ]
  refine wpAnyH_take (i := 3) (v := (.bool true)) (by simp only [List.getElem?_toArray, List.getElem?_cons_succ, List.getElem?_cons_zero]; rfl) (by kernel_rfl) (by kernel_rfl) (by kernel_rfl) (by exact fun _ _ _ h => h) (Or.inl ⟨by rfl, ?_⟩) hHeld ?_
  · (intro w' hw'; obtain ⟨s0, s1, s2⟩ := hw'; go_simp)
  simp only [Act.put, List.setIfInBounds_toArray, List.set_cons_zero, List.set_cons_succ]
  refine wpAnyH_take (i := 4) (v := (.int .i64 z)) (by simp only [List.getElem?_toArray, List.getElem?_cons_succ, List.getElem?_cons_zero]; rfl) (by kernel_rfl) (by kernel_rfl) (by kernel_rfl) (by exact fun _ _ _ h => h) (Or.inl ⟨by rfl, ?_⟩) hHeld ?_
  · (intro w' hw'; obtain ⟨s0, s1, s2⟩ := hw'; go_simp)
  simp only [Act.put, List.setIfInBounds_toArray, List.set_cons_zero, List.set_cons_succ]
  refine wpAnyH_take (i := 5) (v := (.int .i64 z)) (by simp only [List.getElem?_toArray, List.getElem?_cons_succ, List.getElem?_cons_zero]; rfl) (by kernel_rfl) (by kernel_rfl) (by kernel_rfl) (by exact fun _ _ _ h => h) (Or.inl ⟨by rfl, ?_⟩) hHeld ?_
  · (intro w' hw'; obtain ⟨s0, s1, s2⟩ := hw'; go_simp)
  simp only [Act.put, List.setIfInBounds_toArray, List.set_cons_zero, List.set_cons_succ]
  refine wpAnyH_take (i := 6) (v := (.bool true)) (by simp only [List.getElem?_toArray, List.getElem?_cons_succ, List.getElem?_cons_zero]; rfl) (by kernel_rfl) (by kernel_rfl) (by kernel_rfl) (by exact fun _ _ _ h => h) (Or.inl ⟨by rfl, ?_⟩) hHeld ?_
  · (intro w' hw'; obtain ⟨s0, s1, s2⟩ := hw'; go_simp)
  simp only [Act.put, List.setIfInBounds_toArray, List.set_cons_zero, List.set_cons_succ]
  refine wpAnyH_take (i := 7) (v := (.bool true)) (by simp only [List.getElem?_toArray, List.getElem?_cons_succ, List.getElem?_cons_zero]; rfl) (by kernel_rfl) (by kernel_rfl) (by kernel_rfl) (by exact fun _ _ _ h => h) (Or.inl ⟨by rfl, ?_⟩) hHeld ?_
  · (intro w' hw'; obtain ⟨s0, s1, s2⟩ := hw'; go_simp)
  simp only [Act.put, List.setIfInBounds_toArray, List.set_cons_zero, List.set_cons_succ]
  refine wpAnyH_take (i := 8) (v := (.bool true)) (by simp only [List.getElem?_toArray, List.getElem?_cons_succ, List.getElem?_cons_zero]; rfl) (by kernel_rfl) (by kernel_rfl) (by kernel_rfl) (by exact fun _ _ _ h => h) (Or.inl ⟨by rfl, ?_⟩) hHeld ?_
  · (intro w' hw'; obtain ⟨s0, s1, s2⟩ := hw'; go_simp)
  simp only [Act.put, List.setIfInBounds_toArray, List.set_cons_zero, List.set_cons_succ]
  refine wpAnyH_take (i := 9) (v := (.agg (callCells d))) (by simp only [List.getElem?_toArray, List.getElem?_cons_succ, List.getElem?_cons_zero]; rfl) (by kernel_rfl) (by kernel_rfl) (by kernel_rfl) (by exact fun _ _ _ h => h) (Or.inl ⟨by rfl, ?_⟩) hHeld ?_
  · (intro w' hw'; obtain ⟨s0, s1, s2⟩ := hw'; exact exec_load_row 31 (.tmp 9) rfl X rfl 31 _ _ _ s1 Tryz.underlying31 rfl infoCall)
  simp only [Act.put, List.setIfInBounds_toArray, List.set_cons_zero, List.set_cons_succ]
  refine wpAnyH_take (i := 10) (v := (.agg (callCells d))) (by simp only [List.getElem?_toArray, List.getElem?_cons_succ, List.getElem?_cons_zero]; rfl) (by kernel_rfl) (by kernel_rfl) (by kernel_rfl) (by exact fun _ _ _ h => h) (Or.inl ⟨by rfl, ?_⟩) hHeld ?_
  · (intro w' hw'; obtain ⟨s0, s1, s2⟩ := hw'; exact exec_load_row 31 (.tmp 11) rfl Y rfl 31 _ _ _ s2 Tryz.underlying31 rfl infoCall)
  simp only [Act.put, List.setIfInBounds_toArray, List.set_cons_zero, List.set_cons_succ]
  refine wpAnyH_take (i := 11) (v := (.bool true)) (by simp only [List.getElem?_toArray, List.getElem?_cons_succ, List.getElem?_cons_zero]; rfl) (by kernel_rfl) (by kernel_rfl) (by kernel_rfl) (by exact fun _ _ _ h => h) (Or.inl ⟨by rfl, ?_⟩) hHeld ?_
  · (intro w' hw'; obtain ⟨s0, s1, s2⟩ := hw'; go_simp)
  simp only [Act.put, List.setIfInBounds_toArray, List.set_cons_zero, List.set_cons_succ]
  refine wpAnyH_take (i := 12) (v := (.bool true)) (by simp only [List.getElem?_toArray, List.getElem?_cons_succ, List.getElem?_cons_zero]; rfl) (by kernel_rfl) (by kernel_rfl) (by kernel_rfl) (by exact fun _ _ _ h => h) (Or.inl ⟨by rfl, ?_⟩) hHeld ?_
  · (intro w' hw'; obtain ⟨s0, s1, s2⟩ := hw'; go_simp)
  simp only [Act.put, List.setIfInBounds_toArray, List.set_cons_zero, List.set_cons_succ]
  refine wpAnyH_take (i := 13) (v := (.bool true)) (by simp only [List.getElem?_toArray, List.getElem?_cons_succ, List.getElem?_cons_zero]; rfl) (by kernel_rfl) (by kernel_rfl) (by kernel_rfl) (by exact fun _ _ _ h => h) (Or.inl ⟨by rfl, ?_⟩) hHeld ?_
  · (intro w' hw'; obtain ⟨s0, s1, s2⟩ := hw'; go_simp)
  simp only [Act.put, List.setIfInBounds_toArray, List.set_cons_zero, List.set_cons_succ]
  refine wpAnyH_take (i := 14) (v := (.int .i64 y)) (by simp only [List.getElem?_toArray, List.getElem?_cons_succ, List.getElem?_cons_zero]; rfl) (by kernel_rfl) (by kernel_rfl) (by kernel_rfl) (by exact fun _ _ _ h => h) (Or.inl ⟨by rfl, ?_⟩) hHeld ?_
  · (intro w' hw'; obtain ⟨s0, s1, s2⟩ := hw'; go_simp)
  simp only [Act.put, List.setIfInBounds_toArray, List.set_cons_zero, List.set_cons_succ]
  refine wpAnyH_take (i := 15) (v := (.int .i64 y)) (by simp only [List.getElem?_toArray, List.getElem?_cons_succ, List.getElem?_cons_zero]; rfl) (by kernel_rfl) (by kernel_rfl) (by kernel_rfl) (by exact fun _ _ _ h => h) (Or.inl ⟨by rfl, ?_⟩) hHeld ?_
  · (intro w' hw'; obtain ⟨s0, s1, s2⟩ := hw'; go_simp)
  simp only [Act.put, List.setIfInBounds_toArray, List.set_cons_zero, List.set_cons_succ]
  refine wpAnyH_take (i := 16) (v := (.bool true)) (by simp only [List.getElem?_toArray, List.getElem?_cons_succ, List.getElem?_cons_zero]; rfl) (by kernel_rfl) (by kernel_rfl) (by kernel_rfl) (by exact fun _ _ _ h => h) (Or.inl ⟨by rfl, ?_⟩) hHeld ?_
  · (intro w' hw'; obtain ⟨s0, s1, s2⟩ := hw'; go_simp)
  simp only [Act.put, List.setIfInBounds_toArray, List.set_cons_zero, List.set_cons_succ]
  refine wpAnyH_take (i := 17) (v := (.bool true)) (by simp only [List.getElem?_toArray, List.getElem?_cons_succ, List.getElem?_cons_zero]; rfl) (by kernel_rfl) (by kernel_rfl) (by kernel_rfl) (by exact fun _ _ _ h => h) (Or.inl ⟨by rfl, ?_⟩) hHeld ?_
  · (intro w' hw'; obtain ⟨s0, s1, s2⟩ := hw'; go_simp)
  simp only [Act.put, List.setIfInBounds_toArray, List.set_cons_zero, List.set_cons_succ]
  refine wpAnyH_take (i := 18) (v := (.bool true)) (by simp only [List.getElem?_toArray, List.getElem?_cons_succ, List.getElem?_cons_zero]; rfl) (by kernel_rfl) (by kernel_rfl) (by kernel_rfl) (by exact fun _ _ _ h => h) (Or.inl ⟨by rfl, ?_⟩) hHeld ?_
  · (intro w' hw'; obtain ⟨s0, s1, s2⟩ := hw'; go_simp)
  simp only [Act.put, List.setIfInBounds_toArray, List.set_cons_zero, List.set_cons_succ]
  refine wpAnyH_take (i := 19) (v := (.agg (callCells c))) (by simp only [List.getElem?_toArray, List.getElem?_cons_succ, List.getElem?_cons_zero]; rfl) (by kernel_rfl) (by kernel_rfl) (by kernel_rfl) (by exact fun _ _ _ h => h) (Or.inl ⟨by rfl, ?_⟩) hHeld ?_
  · (intro w' hw'; obtain ⟨s0, s1, s2⟩ := hw'; exact exec_load_row 31 (.tmp 2) rfl w.heap.size rfl 31 _ _ _ s0 Tryz.underlying31 rfl infoCall)
  simp only [Act.put, List.setIfInBounds_toArray, List.set_cons_zero, List.set_cons_succ]
  refine wpAnyH_take (i := 21) (v := (.agg (callCells c))) (by simp only [List.getElem?_toArray, List.getElem?_cons_succ, List.getElem?_cons_zero]; rfl) (by kernel_rfl) (by kernel_rfl) (by kernel_rfl) (by exact fun _ _ _ h => h) (Or.inl ⟨by rfl, ?_⟩) hHeld ?_
  · (intro w' hw'; obtain ⟨s0, s1, s2⟩ := hw'; exact exec_load_row 31 (.tmp 2) rfl w.heap.size rfl 31 _ _ _ s0 Tryz.underlying31 rfl infoCall)
  simp only [Act.put, List.setIfInBounds_toArray, List.set_cons_zero, List.set_cons_succ]
  refine wpAnyH_ready (rs := [20]) (by kernel_rfl) (by simp) ?_
  refine AllReadyH.cons rfl (fun K hK => ?_) AllReadyH.nil
  rw [if_pos (by rfl)]
  go_simp
  refine (HM1.out _ HF0.out).mono ?_
  rintro e v1 ⟨rfl, hf⟩
  have HF0 := Lib.hid (HF0.out.andThen hf)
  have HB0 := Lib.hid (And.intro (hf.blockAs HB0.out.1 (by simp)) (And.intro (hf.blockAs HB0.out.2.1 (by simp)) (hf.blockAs HB0.out.2.2 (by simp))))
  clear hf
  go_wp2_with fail
  refine hK.out _ _ HB0.out (fun hHeld => ?_)
  clear hK K
  try simp only [Act.put, List.setIfInBounds_toArray, List.set_cons_zero, List.set_cons_succ]
  refine wpAnyH_ready (rs := [22]) (by kernel_rfl) (by simp) ?_
  refine AllReadyH.cons rfl (fun K hK => ?_) AllReadyH.nil
  rw [if_pos (by rfl)]
  go_simp
  refine (HM2.out _).mono ?_
  rintro e v2 ⟨rfl, hf⟩
  have HF0 := Lib.hid (HF0.out.andThen hf)
  have HB0 := Lib.hid (And.intro (hf.blockAs HB0.out.1 (by simp)) (And.intro (hf.blockAs HB0.out.2.1 (by simp)) (hf.blockAs HB0.out.2.2 (by simp))))
  clear hf
  go_wp2_with fail
  refine hK.out _ _ HB0.out (fun hHeld => ?_)
  clear hK K
  try simp only [Act.put, List.setIfInBounds_toArray, List.set_cons_zero, List.set_cons_succ]
  refine wpAnyH_take (i := 23) (v := (.bool true)) (by simp only [List.getElem?_toArray, List.getElem?_cons_succ, List.getElem?_cons_zero]; rfl) (by kernel_rfl) (by kernel_rfl) (by kernel_rfl) (by exact fun _ _ _ h => h) (Or.inl ⟨by rfl, ?_⟩) hHeld ?_
  · (intro w' hw'; obtain ⟨s0, s1, s2⟩ := hw'; go_simp)
  simp only [Act.put, List.setIfInBounds_toArray, List.set_cons_zero, List.set_cons_succ]
  refine wpAnyH_take (i := 24) (v := (.bool true)) (by simp only [List.getElem?_toArray, List.getElem?_cons_succ, List.getElem?_cons_zero]; rfl) (by kernel_rfl) (by kernel_rfl) (by kernel_rfl) (by exact fun _ _ _ h => h) (Or.inl ⟨by rfl, ?_⟩) hHeld ?_
  · (intro w' hw'; obtain ⟨s0, s1, s2⟩ := hw'; go_simp)
  simp only [Act.put, List.setIfInBounds_toArray, List.set_cons_zero, List.set_cons_succ]
  refine wpAnyH_take (i := 25) (v := (.bool true)) (by simp only [List.getElem?_toArray, List.getElem?_cons_succ, List.getElem?_cons_zero]; rfl) (by kernel_rfl) (by kernel_rfl) (by kernel_rfl) (by exact fun _ _ _ h => h) (Or.inl ⟨by rfl, ?_⟩) hHeld ?_
  · (intro w' hw'; obtain ⟨s0, s1, s2⟩ := hw'; go_simp)
  simp only [Act.put, List.setIfInBounds_toArray, List.set_cons_zero, List.set_cons_succ]
  refine wpAnyH_ready (rs := [26]) (by kernel_rfl) (by simp) ?_
  refine AllReadyH.cons rfl (fun K hK => ?_) AllReadyH.nil
  rw [if_pos (by rfl)]
  go_simp
  refine (HALIVE.out _ (HENV.out.fr HF0.out (by simp))).mono ?_
  rintro e v3 ⟨rfl, hf⟩
  have HEND := Lib.hid (HF0.out.andThen hf)
  have HB3 := Lib.hid (And.intro (hf.blockAs HB0.out.1 (by simp)) (And.intro (hf.blockAs HB0.out.2.1 (by simp)) (hf.blockAs HB0.out.2.2 (by simp))))
  clear hf
  go_wp2_with fail
  refine hK.out _ _ HB3.out (fun hHeld => ?_)
  clear hK K
  try simp only [Act.put, List.setIfInBounds_toArray, List.set_cons_zero, List.set_cons_succ]
  refine wpAnyH_take (i := 27) (v := (.bool true)) (by simp only [List.getElem?_toArray, List.getElem?_cons_succ, List.getElem?_cons_zero]; rfl) (by kernel_rfl) (by kernel_rfl) (by kernel_rfl) (by exact fun _ _ _ h => h) (Or.inl ⟨by rfl, ?_⟩) hHeld ?_
  · (intro w' hw'; obtain ⟨s0, s1, s2⟩ := hw'; go_simp)
  simp only [Act.put, List.setIfInBounds_toArray, List.set_cons_zero, List.set_cons_succ]
  refine wpAnyH_take (i := 28) (v := (.bool true)) (by simp only [List.getElem?_toArray, List.getElem?_cons_succ, List.getElem?_cons_zero]; rfl) (by kernel_rfl) (by kernel_rfl) (by kernel_rfl) (by exact fun _ _ _ h => h) (Or.inl ⟨by rfl, ?_⟩) hHeld ?_
  · (intro w' hw'; obtain ⟨s0, s1, s2⟩ := hw'; go_simp)
  simp only [Act.put, List.setIfInBounds_toArray, List.set_cons_zero, List.set_cons_succ]
  refine wpAnyH_done (by kernel_rfl) ?_ _
  go_wp2_with fail
  go_ret
  exact ⟨rfl, HEND.out⟩
end Go.Proofs.YtcaeppncippknaaGreatDoor
