/- hoardlaw31.HouseLong: true, whatever the input. Conditions: the package variables' facts (Env), and the contracts of house.read, house.Line and hoardlaw31.alive. -/
import Derived.Test.YtcaeppncippknaaDoorLong0
import Derived.Test.YtcaeppncippknaaDoorAt
import Derived.Test.YtcaeppncippknaaDoorCallEq2
import Derived.Test.YtcaeppncippknaaDoorTold0
import Derived.Deep.OwnRows
import Derived.Deep.DeepCutAuto
import Derived.Deep.LoopGhost
namespace Go.Proofs.YtcaeppncippknaaDoor
open Go Go.RowKit

set_option maxHeartbeats 8000000 in
set_option maxRecDepth 100000 in
theorem long_calls (hread : ReadAt) (hline : LineAt ResL ACall.Short) (halive : AliveAt) (o : Int) (odd : Bool) (h0 : -128 ≤ o) (h1 : o ≤ 127) (w : World) (henv : Env w) :
    Calls Tryd.prog 3 #[.int .i8 o, .bool odd] w fun e w' => e = .returned (.bool true) ∧ Fr [] w w' := by
  obtain ⟨n, hn⟩ : ∃ n : Nat, 65536 + o = (n : Int) := ⟨(65536 + o).toNat, by omega⟩
  have n0 : 65408 ≤ n := by omega
  have n1 : n ≤ 65663 := by omega
  have hmk := fun w => run_make_row' (P := Tryd.prog) 23 5 (.int .u8 0) 1 Tryd.underlying23 infoByte rfl .i64 .i64 n (by omega) (by omega) w
  have HENV := Lib.hid henv
  have HREAD := Lib.hid hread
  have HLINE := Lib.hid hline
  have HALIVE := Lib.hid halive
  clear henv hread hline halive
  go_enter Tryd.func3, Tryd.ntmps3
  go_wp2_with fail
  generalize hw1 : w.alloc (.cells (madeCells #[.int .u8 0] n) 5) = w1
  have hM1 : w1.heap[w.heap.size]? = some (.cells (rowW n 0) 5 (0, 0)) := by
    subst hw1
    rw [(MapKept.heap_alloc w _).1]
    congr 2
    apply Array.ext'
    rw [toList_madeCells_one]
    simp [rowW]
  have hf1 : Fr [] w w1 := by subst hw1; exact (Fr.refl _ _).alloc _
  clear hw1 hmk
  have HM1 := Lib.hid hM1
  have HF1 := Lib.hid hf1
  clear hM1 hf1
  go_loopg [7] n (fun g i wr => ∃ k : Nat, k + g = n ∧ i = .int .i64 k ∧ Hid (wr.heap[w.heap.size]? = some (.cells (rowW n k) 5 (0, 0))) ∧ Fr [] w wr)
  case atStart => exact ⟨0, by omega, rfl, HM1, HF1.out⟩
  case round =>
    obtain ⟨k, hkg, rfl, HMk, hfr⟩ := hrel
    have HFR := Lib.hid hfr
    clear hfr
    by_cases hlt : k < n
    · have hc : wr.cell? ⟨w.heap.size, k, none⟩ = some (.int .u8 0) := by rw [Lib.cell_of_heap HMk.out]; exact rowW_at n k hlt
      have hz : wr.frozen? ⟨w.heap.size, k, none⟩ = false := Lib.frozen_of_heap HMk.out k
      have HS := Lib.hid (rowW_set n k hlt)
      have i0 : (0 : Int) ≤ (k : Int) := by omega
      have i1 : (k : Int) < (n : Int) := by omega
      go_wp2_with fail
      go_roundg (gk - 1)
      case measure => omega
      case rel =>
        refine ⟨k + 1, by omega, by go_num, ?_, HFR.out.setCell (fun h => absurd h (by simp)) _⟩
        show _ = _
        rw [setCell_block HMk.out, HS.out]
    · have hk : k = n := by omega
      have hfull : ∀ j (hj : j < (List.replicate n (119 : UInt8)).length), wr.cell? ((⟨w.heap.size, 0, none⟩ : Addr).add j) = some (.int .u8 ((List.replicate n (119 : UInt8))[j].toNat : Int)) := by
        intro j hj
        have hj2 : j < n := by simpa using hj
        rw [Lib.add_plain, Nat.zero_add, Lib.cell_of_heap HMk.out, hk]
        simp [rowW, hj2]
      have hcv := run_convert_bytes_back (P := Tryd.prog) wr 23 9 5 ⟨w.heap.size, 0, none⟩ n (List.replicate n 119) Tryd.underlying23 Tryd.underlying5 Tryd.underlying9 hfull
      rw [List.length_replicate] at hcv
      have hlw := long_w n (by omega)
      have hll : (List.replicate n (119 : UInt8)).length ≤ 70000 := by rw [List.length_replicate]; omega
      have hrs := lt_of_block HMk.out
      clear hfull hk HMk HM1 HF1
      generalize List.replicate n (119 : UInt8) = lb at *
      have HLW := Lib.hid hlw
      clear hlw
      go_upto_if 29 with (refine wpList_store_row (by rfl) 28 (.tmp 8) (.tmp 28) (by rfl) wr.heap.size (callCells (c0 lb)) (by rfl) (by rfl) 28 _ (MapKept.heap_alloc wr _).1 infoCall rfl (callCells_one _) ?_)
      generalize hwb : (wr.alloc _).setRow wr.heap.size (callCells (c0 lb)) = w2
      have hC2 : w2.heap[wr.heap.size]? = some (.cells (callCells (c0 lb)) 28 (0, 0)) := by subst hwb; exact setRow_heap _ _ _ _ _ _ (MapKept.heap_alloc wr _).1
      have hf2 : Fr [] w w2 := by
        have h0 := HFR.out.size
        subst hwb
        exact (HFR.out.alloc _).setRow (fun h => absurd h (by omega)) _
      have hM2 : w.heap.size < wr.heap.size := hrs
      clear hwb HFR hcv hkg
      generalize wr.heap.size = M2 at *
      have HC2 := Lib.hid hC2
      have HF2 := Lib.hid hf2
      clear hC2 hf2
      go_cut [5] (fun s5 wx => ∃ (b : List UInt8) (nn : Nat), s5 = .int .i64 nn ∧ Hid ((hWord b).length = nn) ∧ b.length ≤ 70000 ∧ nn ≤ 65663 ∧ Hid (wx.heap[M2]? = some (.cells (callCells (c0 b)) 28 (0, 0))) ∧ Fr [] w wx)
      case first =>
        cases odd with
        | false =>
          go_wp2_with fail
          go_meet
          exact ⟨lb, n, rfl, HLW, hll, n1, HC2, HF2.out⟩
        | true =>
          obtain ⟨m, hm⟩ : ∃ m : Nat, (n : Int) / 3 = (m : Int) := ⟨n / 3, by omega⟩
          have hm0 : 20000 ≤ m := by omega
          have hm1 : m ≤ 21888 := by omega
          have e3 : IntKind.i64.wrap (3 * (m : Int)) = ((3 * m : Nat) : Int) := by rw [IntKind.wrap_i64]; omega
          have hmk := fun w => run_make_row' (P := Tryd.prog) 23 5 (.int .u8 0) 1 Tryd.underlying23 infoByte rfl .i64 .i64 m (by omega) (by omega) w
          have hmb : (w2.alloc (.cells (madeCells #[.int .u8 0] m) 5)).heap[w2.heap.size]? = some (.cells (madeCells #[.int .u8 0] m) 5 (0, 0)) := (MapKept.heap_alloc w2 _).1
          have hcv := run_convert_bytes_back (P := Tryd.prog) (w2.alloc (.cells (madeCells #[.int .u8 0] m) 5)) 23 9 5 ⟨w2.heap.size, 0, none⟩ m (List.replicate m 0) Tryd.underlying23 Tryd.underlying5 Tryd.underlying9 (by
            intro j hj
            have hj2 : j < m := by simpa using hj
            rw [Lib.add_plain, Nat.zero_add, Lib.cell_of_heap hmb, ← Array.getElem?_toList, toList_madeCells_one]
            simp [hj2])
          rw [List.length_replicate] at hcv
          have hl0 := long_0 m (by omega)
          have hll0 : (List.replicate m (0 : UInt8)).length ≤ 70000 := by rw [List.length_replicate]; omega
          generalize List.replicate m (0 : UInt8) = lz at *
          have HL0 := Lib.hid hl0
          have hC3 := Lib.alloc_old w2 (.cells (madeCells #[.int .u8 0] m) 5) M2 (lt_of_block HC2.out) |>.trans HC2.out
          have c1 : (w2.alloc (.cells (madeCells #[.int .u8 0] m) 5)).cell? ⟨M2, 1, none⟩ = some (.string (bs lb)) := by rw [Lib.cell_of_heap hC3]; rfl
          have f1 : (w2.alloc (.cells (madeCells #[.int .u8 0] m) 5)).frozen? ⟨M2, 1, none⟩ = false := Lib.frozen_of_heap hC3 1
          have HC3 := Lib.hid (setCell_block (i := 1) hC3 (.string (bs lz)))
          clear hC3 hl0 hmb
          go_wp2_with fail
          go_meet
          exact ⟨lz, 3 * m, rfl, HL0, hll0, by omega, HC3, (HF2.out.alloc _).setCell (fun h => absurd h (by simp; omega)) _⟩
      case rest =>
        obtain ⟨b, nn, rfl, HB, hbl, hnn, HCx, hfx⟩ := hcut
        have HFX := Lib.hid hfx
        have hsx := lt_of_block HCx.out
        clear hfx HC2 HF2 HLW hll
        go_wp2_with (refine wpList_load_row (by rfl) 28 (.tmp 8) (by rfl) M2 (by rfl) 28 _ _ _ HCx.out Tryd.underlying28 rfl infoCall ?_)
        have hcell1 : wc.cell? ⟨M2, 1, none⟩ = some (.string (bs b)) := by rw [Lib.cell_of_heap HCx.out]; rfl
        have hok := long_ok b
        have hcl := long_call b
        have hjl := long_join b
        rw [HB.out] at hok hcl hjl
        have hadd := run_app Tryd.prog [109, 97, 107, 101, 32] (hWord b) (by rw [HB.out]; simp; omega)
        by_cases hle : nn ≤ 65536
        · have hl1 := (HLINE.out (c0 b) (c0_wf b (by omega)) (c0_short b (by omega)) wc (HENV.out.fr HFX.out (by simp)))
          rw [resL_yes (by rw [hok]; simp [hle])] at hl1
          rw [show decide (nn ≤ 65536) = true by simp [hle]] at hcl
          generalize joinSp (lineOut (c0 b)) = js at *
          have hjs : ((js.length : Int) == (nn : Int) + 5) = true := by rw [beq_iff_eq]; omega
          have HOK : Hid (lineOk (c0 b) = true) := by show _ = _; rw [hok]; simp [hle]
          have HCL := Lib.hid hcl
          have HADD := Lib.hid hadd
          clear hok hcl hjl hadd
          refine hl1.mono ?_
          clear hl1
          rintro e w4 ⟨rfl, hf4⟩
          have hC4 := hf4.blockAs HCx.out (by simp)
          have hcell4 : w4.cell? ⟨M2, 1, none⟩ = some (.string (bs b)) := by rw [Lib.cell_of_heap hC4]; rfl
          have HC4 := Lib.hid hC4
          have HF4 := Lib.hid (HFX.out.andThen hf4)
          clear hC4 hf4 HCx HFX
          go_wp2_with fail
          refine (word_calls b (by omega) w4).mono ?_
          rintro e w5 ⟨rfl, hf5⟩
          have HC5 := Lib.hid (hf5.blockAs HC4.out (by simp))
          have HF5 := Lib.hid (HF4.out.andThen hf5)
          have ha := HADD.out
          have hwl : ([109, 97, 107, 101, 32] ++ hWord b).length ≤ 1048576 := by rw [List.length_append, HB.out]; simp; omega
          have hcc := call_calls HREAD.out ([109, 97, 107, 101, 32] ++ hWord b) hwl w5 (HENV.out.fr HF5.out (by simp))
          unfold ResK at hcc
          rw [HCL.out] at hcc
          clear hf5 HC4 HF4 hwl
          generalize [109, 97, 107, 101, 32] ++ hWord b = ms at *
          have HCC := Lib.hid hcc
          clear hcc
          go_wp2_with fail
          refine HCC.out.mono ?_
          rintro e w6 ⟨rfl, hf6⟩
          have hC6 := Lib.hid (hf6.blockAs HC5.out (by simp))
          have HF6 := Lib.hid (HF5.out.andThen hf6)
          have hs6 := lt_of_block hC6.out
          clear hf6 HC5 HF5 ha
          simp only [if_true]
          go_upto_region 13 with (refine wpList_store_row (by rfl) 28 (.tmp 11) (.tmp 49) (by rfl) w6.heap.size (callCells (c0 b)) (by rfl) (by rfl) 28 _ (MapKept.heap_alloc w6 _).1 infoCall rfl (callCells_one _) ?_)
          generalize hw7 : (w6.alloc _).setRow w6.heap.size (callCells (c0 b)) = w7
          have hold : ∀ j ob, j < w6.heap.size → w6.heap[j]? = some ob → w7.heap[j]? = some ob := by
            intro j ob hj ho
            subst hw7
            rw [setRow_other _ _ _ _ (by omega), Lib.alloc_old _ _ _ hj]
            exact ho
          have hf7 : Fr [] w6 w7 := by
            subst hw7
            exact ((Fr.refl _ _).alloc _).setRow (fun h => absurd h (by omega)) _
          have hD7 : w7.heap[w6.heap.size]? = some (.cells (callCells (c0 b)) 28 (0, 0)) := by
            subst hw7
            exact setRow_heap _ _ _ _ _ _ (MapKept.heap_alloc w6 _).1
          have HC7 := Lib.hid (hold _ _ hs6 hC6.out)
          have HD7 := Lib.hid hD7
          have HF7 := Lib.hid (HF6.out.andThen hf7)
          clear hw7 hold hf7 hD7 hC6 HF6
          have heq := eqlCall (c0 b) (c0 b)
          rw [show decide (c0 b = c0 b) = true by simp] at heq
          go_wp2_with (first
            | (refine wpList_load_row_g (by rfl) 28 (.tmp 11) (by rfl) w6.heap.size (by rfl) 28 _ _ _ HD7.out Tryd.underlying28 rfl infoCall ?_)
            | (refine wpList_load_row_g (by rfl) 28 (.tmp 8) (by rfl) M2 (by rfl) 28 _ _ _ HC7.out Tryd.underlying28 rfl infoCall ?_))
          refine (HALIVE.out w7 (HENV.out.fr HF7.out (by simp))).mono ?_
          rintro e w8 ⟨rfl, hf8⟩
          go_wp2_with fail
          go_ret
          exact ⟨rfl, HF7.out.andThen hf8⟩
        · have hl1 := (HLINE.out (c0 b) (c0_wf b (by omega)) (c0_short b (by omega)) wc (HENV.out.fr HFX.out (by simp)))
          rw [resL_no (by rw [hok]; simp [hle])] at hl1
          rw [show decide (nn ≤ 65536) = false by simp [hle]] at hcl
          have HOK : Hid (lineOk (c0 b) = false) := by show _ = _; rw [hok]; simp [hle]
          have HCL := Lib.hid hcl
          have HADD := Lib.hid hadd
          clear hok hcl hjl hadd
          refine hl1.mono ?_
          clear hl1
          rintro e w4 ⟨rfl, hf4⟩
          have hC4 := hf4.blockAs HCx.out (by simp)
          have hcell4 : w4.cell? ⟨M2, 1, none⟩ = some (.string (bs b)) := by rw [Lib.cell_of_heap hC4]; rfl
          have HC4 := Lib.hid hC4
          have HF4 := Lib.hid (HFX.out.andThen hf4)
          clear hC4 hf4 HCx HFX
          go_wp2_with fail
          refine (word_calls b (by omega) w4).mono ?_
          rintro e w5 ⟨rfl, hf5⟩
          have HC5 := Lib.hid (hf5.blockAs HC4.out (by simp))
          have HF5 := Lib.hid (HF4.out.andThen hf5)
          have ha := HADD.out
          have hwl : ([109, 97, 107, 101, 32] ++ hWord b).length ≤ 1048576 := by rw [List.length_append, HB.out]; simp; omega
          have hcc := call_calls HREAD.out ([109, 97, 107, 101, 32] ++ hWord b) hwl w5 (HENV.out.fr HF5.out (by simp))
          unfold ResK at hcc
          rw [HCL.out] at hcc
          clear hf5 HC4 HF4 hwl
          generalize [109, 97, 107, 101, 32] ++ hWord b = ms at *
          have HCC := Lib.hid hcc
          clear hcc
          go_wp2_with fail
          refine HCC.out.mono ?_
          rintro e w6 ⟨rfl, hf6⟩
          have hC6 := Lib.hid (hf6.blockAs HC5.out (by simp))
          have HF6 := Lib.hid (HF5.out.andThen hf6)
          have hs6 := lt_of_block hC6.out
          clear hf6 HC5 HF5 ha
          simp only [Bool.false_eq_true, if_false]
          go_upto_region 13 with (refine wpList_store_row (by rfl) 28 (.tmp 11) (.tmp 49) (by rfl) w6.heap.size (callCells ACall.zero) (by rfl) (by rfl) 28 _ (MapKept.heap_alloc w6 _).1 infoCall rfl (callCells_one _) ?_)
          generalize hw7 : (w6.alloc _).setRow w6.heap.size (callCells ACall.zero) = w7
          have hold : ∀ j ob, j < w6.heap.size → w6.heap[j]? = some ob → w7.heap[j]? = some ob := by
            intro j ob hj ho
            subst hw7
            rw [setRow_other _ _ _ _ (by omega), Lib.alloc_old _ _ _ hj]
            exact ho
          have hf7 : Fr [] w6 w7 := by
            subst hw7
            exact ((Fr.refl _ _).alloc _).setRow (fun h => absurd h (by omega)) _
          have hD7 : w7.heap[w6.heap.size]? = some (.cells (callCells ACall.zero) 28 (0, 0)) := by
            subst hw7
            exact setRow_heap _ _ _ _ _ _ (MapKept.heap_alloc w6 _).1
          have HC7 := Lib.hid (hold _ _ hs6 hC6.out)
          have HD7 := Lib.hid hD7
          have HF7 := Lib.hid (HF6.out.andThen hf7)
          clear hw7 hold hf7 hD7 hC6 HF6
          go_wp2_with (refine wpList_load_row_g (by rfl) 28 (.tmp 8) (by rfl) M2 (by rfl) 28 _ _ _ HC7.out Tryd.underlying28 rfl infoCall ?_)
          have hmay := may_calls HLINE.out (c0 b) (c0_wf b (by omega)) (c0_short b (by omega)) w7 (HENV.out.fr HF7.out (by simp))
          rw [HOK.out] at hmay
          refine hmay.mono ?_
          clear hmay
          rintro e w8 ⟨rfl, hf8⟩
          have HF8 := Lib.hid (HF7.out.andThen hf8)
          clear hf8 HF7
          go_wp2_with fail
          refine (HALIVE.out w8 (HENV.out.fr HF8.out (by simp))).mono ?_
          rintro e w9 ⟨rfl, hf9⟩
          go_wp2_with fail
          go_ret
          exact ⟨rfl, HF8.out.andThen hf9⟩
end Go.Proofs.YtcaeppncippknaaDoor
