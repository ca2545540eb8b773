/- house.Answer: which answer lines are. Conditions: fewer than 2^20 lines, each below 2^20 bytes; the package variables' facts (Env). -/
import Derived.Test.YtcaeppncippknaaGreatDoorZAns0
import Derived.Test.YtcaeppncippknaaGreatDoorZTold
import Derived.Test.YtcaeppncippknaaGreatDoorZEqual
import Derived.Test.YtcaeppncippknaaGreatDoorZWords
import Derived.Test.YtcaeppncippknaaGreatDoorZFieldA
import Derived.Test.YtcaeppncippknaaGreatDoorZRead0A
import Derived.Test.YtcaeppncippknaaGreatDoorZStrs
import Derived.Test.YtcaeppncippknaaGreatDoorZBaseA
import Derived.Deep.LoopGhost
namespace Go.Proofs.YtcaeppncippknaaGreatDoor
open Go Go.RowKit

def AnsPost (l : List (List UInt8)) (w : World) (e : Ending) (w' : World) : Prop :=
  ∃ iv, e = .returned (.tuple #[.agg (ansCells (ansP l).1 iv), .int .i64 (if (ansP l).2 then 0 else 310)]) ∧ (∃ b, ItemsIn w' b iv (ansP l).1.items) ∧ Fr [] w w'
theorem ansP_yes {l : List (List UInt8)} (h : toldP (goneA l) = l) : ansP l = (goneA l, true) := by unfold ansP; rw [if_pos h]
theorem ansP_no {l : List (List UInt8)} (h : toldP (goneA l) ≠ l) : ansP l = (AAns.zero, false) := by unfold ansP; rw [if_neg h]
theorem ownI_form {B : Nat} {w : World} {v : Value} {l : List AItem} (h : OwnI B w v l) : ∃ p c, v = .slice p l.length c := by
  rcases h.2 with ⟨hv, h0⟩ | ⟨g, cap, cur, hv, _⟩
  · exact ⟨none, 0, by rw [hv, h0]⟩
  · exact ⟨_, cap, hv⟩
theorem stepA_code {x : List UInt8} (a : AAns) (h : nextW (wordsP x) false = w_code) : stepA a x = { a with code := intV (nextL (wordsP x) false) (nextB (wordsP x) false), n := numV (nextL (nextL (wordsP x) false) (nextB (wordsP x) false)) (intB (nextL (wordsP x) false) (nextB (wordsP x) false)) } := by
  unfold stepA; rw [if_pos h]
theorem stepA_text {x : List UInt8} (a : AAns) (h : nextW (wordsP x) false = w_text) : stepA a x = { a with text := textV (nextL (wordsP x) false) (nextB (wordsP x) false) } := by
  unfold stepA; rw [if_neg (by rw [h]; decide), if_pos h]
theorem stepA_item {x : List UInt8} (a : AAns) (h : nextW (wordsP x) false = w_item) : stepA a x = { a with items := a.items ++ [itemV (nextL (wordsP x) false) (nextB (wordsP x) false)] } := by
  unfold stepA; rw [if_neg (by rw [h]; decide), if_neg (by rw [h]; decide), if_pos h]
theorem stepA_more {x : List UInt8} (a : AAns) (h : nextW (wordsP x) false = moreL) : stepA a x = { a with more := true } := by
  unfold stepA; rw [if_neg (by rw [h]; decide), if_neg (by rw [h]; decide), if_neg (by rw [h]; decide), if_pos h]
theorem stepA_none {x : List UInt8} (a : AAns) (h1 : nextW (wordsP x) false ≠ w_code) (h2 : nextW (wordsP x) false ≠ w_text) (h3 : nextW (wordsP x) false ≠ w_item) (h4 : nextW (wordsP x) false ≠ moreL) : stepA a x = a := by
  unfold stepA; rw [if_neg h1, if_neg h2, if_neg h3, if_neg h4]

set_option maxHeartbeats 16000000 in
set_option maxRecDepth 100000 in
theorem answer_calls (b0 : Nat) (v : Value) (l : List (List UInt8)) (w : World) (henv : Env w) (hin : StrsIn w b0 v l) (hn : l.length ≤ 1048576) (hl : ∀ x ∈ l, x.length ≤ 1048576) :
    Calls Tryz.prog 21 #[v] w fun e w' => AnsPost l w e w' := by
  have h8 := henv.size
  obtain ⟨lp, lc, lo, rfl, hcl⟩ := hin.form
  have HCL := Lib.hid hcl
  have HIN := Lib.hid hin
  have HL := Lib.hid hl
  have HWFS := Lib.hid (goneA_wf hl hn)
  clear hcl hin hl
  go_enter Tryz.func21, Tryz.ntmps21
  go_wp2_with fail
  generalize hw1 : w.alloc (.cells #[.int .i64 0, .int .u64 0, .string ⟨#[]⟩, .slice none 0 0, .bool false] 47) = w1
  have hR1 : w1.heap[w.heap.size]? = some (.cells (ansCells AAns.zero (.slice none 0 0)) 47 (0, 0)) := by subst hw1; exact (MapKept.heap_alloc w _).1
  have hf1 : Fr [] w w1 := by subst hw1; exact (Fr.refl _ _).alloc _
  clear hw1
  have HR1 := Lib.hid hR1
  have HF1 := Lib.hid hf1
  clear hR1 hf1
  go_loopg [11] l.length (fun g i wr => ∃ (k : Nat) (iv : Value), k + g = l.length ∧ i = .int .i64 k ∧ Hid (wr.heap[w.heap.size]? = some (.cells (ansCells (goneA (l.take k)) iv) 47 (0, 0))) ∧ OwnI (w.heap.size + 1) wr iv (goneA (l.take k)).items ∧ Fr [] w wr)
  case atStart => exact ⟨0, .slice none 0 0, by omega, rfl, HR1, World.ownsRow_nil _ _ _ _, HF1.out⟩
  case round =>
    obtain ⟨k, iv, hkg, rfl, HRk, hown, hfr⟩ := hrel
    have hRs : w.heap.size < wr.heap.size := lt_of_block HRk.out
    have henvr := henv.fr hfr (by simp)
    have HOWN := Lib.hid hown
    have HFR := Lib.hid hfr
    by_cases hlt : k < l.length
    · obtain ⟨rfl, hcell0⟩ := HCL.out k hlt
      have hcell := hfr.cellAs hcell0 (by simp)
      have hxl := HL.out l[k] (List.getElem_mem hlt)
      have hb0 : b0 < w.heap.size := lt_of_cell hcell0
      have HS := Lib.hid (goneA_succ l hlt)
      have hfew := (HWFS.out k (by omega)).2
      clear hcell0 hown hfr
      generalize goneA (l.take k) = ak at *
      generalize l[k] = x at *
      unfold strV at hcell
      have i0 : (0 : Int) ≤ (k : Int) := by omega
      have i1 : (k : Int) < (l.length : Int) := by omega
      go_wp2_with fail
      refine (words_calls x hxl wr henvr).mono ?_
      rintro e w2 ⟨wv, wb, rfl, hs2, hwb, hwb2, hf2⟩
      obtain ⟨wp, wc2, wo, rfl, _⟩ := hs2.form
      have hwl := wordsP_length x
      have HWM : Hid (∀ y ∈ wordsP x, y.length ≤ 1048576) := fun y hy => Nat.le_trans (wordsP_mem hy) hxl
      have HW1 : Hid (∀ y ∈ nextL (wordsP x) false, y.length ≤ 1048576) := fun y hy => HWM.out y (nextL_mem hy)
      have hn1 := nextL_length (wordsP x) false
      go_wp2_with fail
      generalize hw3 : w2.alloc (.cells #[.slice none 0 0, .slice wp (wordsP x).length wc2, .bool true, .bool false] 83) = w3
      have hR3 : RCod w2.heap.size wb w3 (wordsP x) false := by
        subst hw3
        exact ⟨_, (MapKept.heap_alloc w2 _).1, hs2.fr (M := []) ((Fr.refl _ _).alloc _) (by simp), by omega⟩
      have hf3 : Fr [] w2 w3 := by subst hw3; exact (Fr.refl _ _).alloc _
      clear hw3
      have HF3 := Lib.hid (hf2.trans hf3 (by simp))
      have hK2 : wr.heap.size ≤ w2.heap.size := hf2.size
      clear hs2 hf2 hf3
      generalize w2.heap.size = K at *
      refine (next_calls K wb w3 (wordsP x) false (by omega) hR3).mono ?_
      rintro e w4 ⟨rfl, hR4, hf4⟩
      have HF4 : Hid (Fr [K] wr w4) := HF3.out.trans (M' := [K]) (hf4) (fun i hi h => by simp at hi; omega) |>.mono (by simp)
      have hR4K := hR4.lt
      have HR4 := Lib.hid hR4
      have HRR : Hid (w4.heap[w.heap.size]? = some (.cells (ansCells ak iv) 47 (0, 0))) := HF4.out.blockAs HRk.out (by simp; omega)
      have HOWN4 : Hid (OwnI (w.heap.size + 1) w4 iv ak.items) := ownsRow_fr HOWN.out HF4.out (fun m hm e => by simp at hm; have := (HOWN.out.lt _ e).2; omega)
      have henv4 := henvr.fr HF4.out (by simp; omega)
      have hnR : ∀ m, m ∈ [K, w.heap.size] → iv.ownBlock ≠ some m := fun m hm e => by
        have h1 := HOWN.out.lt _ e
        simp at hm
        omega
      have HNR := Lib.hid hnR
      clear hR3 hf4 hR4 hnR HF3
      have e1 := fun h => stepA_code (x := x) ak h
      have e2 := fun h => stepA_text (x := x) ak h
      have e3 := fun h => stepA_item (x := x) ak h
      have e4 := fun h => stepA_more (x := x) ak h
      have e5 := fun h1 h2 h3 h4 => stepA_none (x := x) ak h1 h2 h3 h4
      have E1 := Lib.hid e1
      have E2 := Lib.hid e2
      have E3 := Lib.hid e3
      have E4 := Lib.hid e4
      have E5 := Lib.hid e5
      clear e1 e2 e3 e4 e5
      generalize nextW (wordsP x) false = w0 at *
      generalize nextL (wordsP x) false = l1 at *
      generalize nextB (wordsP x) false = b1 at *
      generalize stepA ak x = an at *
      have hl1 : l1.length ≤ 1099511627776 := by omega
      by_cases h1 : w0 = w_code
      · have HE := Lib.hid (E1.out h1)
        subst h1
        unfold w_code
        clear E1 E2 E3 E4 E5
        go_wp2_with fail
        refine (wholeE_read K wb w.heap.size 0 (ansCells ak iv) 47 w4 l1 b1 henv4 HR4.out HRR.out (by simp [ansCells]) (by omega) (by omega) (by omega) hl1 HW1.out).mono ?_
        rintro e w5 ⟨rfl, hR5, hC5, hf5⟩
        have HC5 := Lib.hid hC5
        go_wp2_with fail
        refine (number_read K wb w.heap.size 1 _ 47 w5 (nextL l1 b1) (intB l1 b1) (henv4.fr hf5 (by simp; omega)) hR5 HC5.out (by simp [ansCells]) (by omega) (by omega) (by omega) (Nat.le_trans (nextL_length _ _) hl1) (fun y hy => HW1.out y (nextL_mem hy))).mono ?_
        rintro e w6 ⟨rfl, hR6, hC6, hf6⟩
        have HC6 := Lib.hid hC6
        clear hC5 hC6
        go_wp2_with fail
        go_roundg (gk - 1)
        case measure => omega
        case rel =>
          refine ⟨k + 1, iv, by omega, by go_num, ?_, ?_, ?_⟩
          · rw [HS.out, HE.out]; exact HC6
          · rw [HS.out, HE.out]
            exact ownsRow_fr (ownsRow_fr HOWN4.out hf5 HNR.out) hf6 HNR.out
          · exact ((HFR.out.trans HF4.out (fun i hi h => by simp at hi; omega)).trans hf5 (fun i hi h => by simp at hi; omega)).trans hf6 (fun i hi h => by simp at hi; omega)
      · have q1 : (w0 == [99, 111, 100, 101]) = false := by simpa [w_code] using h1
        by_cases h2 : w0 = w_text
        · have HE := Lib.hid (E2.out h2)
          subst h2
          unfold w_text
          clear E1 E2 E3 E4 E5 q1
          go_wp2_with fail
          refine (next_calls K wb w4 l1 b1 hl1 HR4.out).mono ?_
          rintro e w5 ⟨rfl, hR5, hf5⟩
          go_wp2_with fail
          refine (text_calls (nextW l1 b1) (nextW_length HW1.out b1) w5 (henv4.fr hf5 (by simp; omega))).mono ?_
          rintro e w6 ⟨rfl, hf6⟩
          unfold ResT
          have hC6 := hf6.blockAs (hf5.blockAs HRR.out (by simp; omega)) (by simp)
          have d2 : w6.cell? ⟨w.heap.size, 2, none⟩ = some (.string (bs ak.text)) := by rw [Lib.cell_of_heap hC6]; rfl
          have f2 : w6.frozen? ⟨w.heap.size, 2, none⟩ = false := Lib.frozen_of_heap hC6 2
          have HV : Hid (textV l1 b1 = (hText (nextW l1 b1)).getD []) := rfl
          have HC6 := Lib.hid (setCell_block (i := 2) hC6 (.string (bs ((hText (nextW l1 b1)).getD []))))
          have HF6 : Hid (Fr [K] w4 w6) := hf5.trans hf6 (by simp)
          clear hC6 hR5 hf5 hf6
          go_wp2_with fail
          go_roundg (gk - 1)
          case measure => omega
          case rel =>
            refine ⟨k + 1, iv, by omega, by go_num, ?_, ?_, ?_⟩
            · rw [HS.out, HE.out, HV.out]; exact HC6
            · rw [HS.out, HE.out]
              exact ownsRow_fr (ownsRow_fr HOWN4.out HF6.out (fun m hm => HNR.out m (by simp at hm; simp [hm]))) ((Fr.refl [w.heap.size] _).setCell (by simp) _) (fun m hm => HNR.out m (by simp at hm; simp [hm]))
            · exact ((HFR.out.trans HF4.out (fun i hi h => by simp at hi; omega)).trans HF6.out (fun i hi h => by simp at hi; omega)).setCell (fun h => absurd h (by simp)) _
        · have q2 : (w0 == [116, 101, 120, 116]) = false := by simpa [w_text] using h2
          by_cases h3 : w0 = w_item
          · have HE := Lib.hid (E3.out h3)
            subst h3
            unfold w_item
            clear E1 E2 E3 E4 E5 q1 q2
            go_upto_region 14 with fail
            generalize hw5 : w4.alloc (.cells #[.string ⟨#[]⟩, .int .u64 0, .int .i64 0, .bool false] 104) = w5
            have hZ5 : w5.heap[w4.heap.size]? = some (.cells #[.string ⟨#[]⟩, .int .u64 0, .int .i64 0, .bool false] 104 (0, 0)) := by subst hw5; exact (MapKept.heap_alloc w4 _).1
            have hf5 : Fr [] w4 w5 := by subst hw5; exact (Fr.refl _ _).alloc _
            clear hw5
            have hK4 : K < w4.heap.size := hR4K
            have hwb4 : wb < w4.heap.size := by have h1 := HF4.out.size; omega
            have hR4' : w.heap.size < w4.heap.size := by have h1 := HF4.out.size; omega
            have hZ8 : 8 ≤ w4.heap.size := by omega
            have hbnd : ∀ h, iv.ownBlock = some h → h < w4.heap.size := fun h e => (HOWN4.out.lt _ e).2
            have HBND := Lib.hid hbnd
            clear hbnd
            generalize hZe : w4.heap.size = Z at *
            have hZle : w4.heap.size ≤ Z := by omega
            clear hZe
            go_wp2_with fail
            refine (next_calls K wb w5 l1 b1 hl1 (HR4.out.fr hf5 (by simp) (by simp))).mono ?_
            rintro e w6 ⟨rfl, hR6, hf6⟩
            have henv6 := (henv4.fr hf5 (by simp)).fr hf6 (by simp; omega)
            go_wp2_with fail
            refine (text_calls (nextW l1 b1) (nextW_length HW1.out b1) w6 henv6).mono ?_
            rintro e w7 ⟨rfl, hf7⟩
            unfold ResT
            have hZ7 := hf7.blockAs (hf6.blockAs hZ5 (by simp; omega)) (by simp)
            have hR7 := hR6.fr hf7 (by simp) (by simp)
            have d0 : w7.cell? ⟨Z, 0, none⟩ = some (.string ⟨#[]⟩) := by rw [Lib.cell_of_heap hZ7]; rfl
            have f0 : w7.frozen? ⟨Z, 0, none⟩ = false := Lib.frozen_of_heap hZ7 0
            have HV : Hid (textV l1 b1 = (hText (nextW l1 b1)).getD []) := rfl
            have HF7 : Hid (Fr [K] w4 w7) := ((hf5.mono (M' := [K]) (by simp)).andThen hf6).trans hf7 (by simp)
            have hR8 := hR7.setOther (C := Z) (o := 0) (by omega) (by omega) (.string (bs ((hText (nextW l1 b1)).getD [])))
            have hZ9 := setCell_block (i := 0) hZ7 (.string (bs ((hText (nextW l1 b1)).getD [])))
            have HR8 := Lib.hid hR8
            have HZ8 := Lib.hid hZ9
            clear hR6 hR7 hR8 hZ9 hZ7 hZ5 hf5 hf6 hf7 henv6
            have HF8 : Hid (Fr [K] w4 (w7.setCell ⟨Z, 0, none⟩ (.string (bs ((hText (nextW l1 b1)).getD []))))) := HF7.out.setCell (fun h => absurd h (by simp; omega)) _
            have hl2 : (nextL l1 b1).length ≤ 1099511627776 := Nat.le_trans (nextL_length _ _) hl1
            have HW2 : Hid (∀ y ∈ nextL l1 b1, y.length ≤ 1048576) := fun y hy => HW1.out y (nextL_mem hy)
            go_wp2_with fail
            generalize w7.setCell ⟨Z, 0, none⟩ (.string (bs ((hText (nextW l1 b1)).getD []))) = w8 at *
            refine (number_read K wb Z 1 _ 104 w8 (nextL l1 b1) (nextB l1 b1) (henv4.fr HF8.out (by simp; omega)) HR8.out HZ8.out (by simp) (by omega) (by omega) (by omega) hl2 HW2.out).mono ?_
            rintro e w9 ⟨rfl, hR9, hZ9, hf9⟩
            have HR9 := Lib.hid hR9
            have HZ9 := Lib.hid hZ9
            have HF9 : Hid (Fr [K] w4 w9) := by
              refine ((HF8.out.mono (M' := [K, Z]) (by simp)).trans hf9 (fun i hi h => hi)) |> fun h => ⟨h.os, h.tape, h.output, h.size, fun j hj hn => ?_⟩
              exact h.block j hj (by simp at hn ⊢; omega)
            clear hR9 hZ9 hf9
            have hl3 : (nextL (nextL l1 b1) (nextB l1 b1)).length ≤ 1099511627776 := Nat.le_trans (nextL_length _ _) hl2
            have HW3 : Hid (∀ y ∈ nextL (nextL l1 b1) (nextB l1 b1), y.length ≤ 1048576) := fun y hy => HW2.out y (nextL_mem hy)
            go_wp2_with fail
            refine (whole_read K wb Z 2 _ 104 w9 _ _ (henv4.fr HF9.out (by simp; omega)) HR9.out HZ9.out (by simp) (by omega) (by omega) (by omega) hl3 HW3.out).mono ?_
            rintro e w10 ⟨rfl, hR10, hZ10, hf10⟩
            have HR10 := Lib.hid hR10
            have HZ10 := Lib.hid hZ10
            have HF10 : Hid (Fr [K] w4 w10) := by
              refine ((HF9.out.mono (M' := [K, Z]) (by simp)).trans hf10 (fun i hi h => hi)) |> fun h => ⟨h.os, h.tape, h.output, h.size, fun j hj hn => ?_⟩
              exact h.block j hj (by simp at hn ⊢; omega)
            clear hR10 hZ10 hf10
            have hl4 : (nextL (nextL (nextL l1 b1) (nextB l1 b1)) (numB (nextL l1 b1) (nextB l1 b1))).length ≤ 1099511627776 := Nat.le_trans (nextL_length _ _) hl3
            go_wp2_with fail
            refine (next_calls K wb w10 _ _ hl4 HR10.out).mono ?_
            rintro e w11 ⟨rfl, hR11, hf11⟩
            have hZ11 := hf11.blockAs HZ10.out (by simp; omega)
            have d3 : w11.cell? ⟨Z, 3, none⟩ = some (.bool false) := by rw [Lib.cell_of_heap hZ11]; rfl
            have f3 : w11.frozen? ⟨Z, 3, none⟩ = false := Lib.frozen_of_heap hZ11 3
            have HF11 : Hid (Fr [K] w4 w11) := HF10.out.trans hf11 (by simp)
            have HITEM : Hid (itemV l1 b1 = ⟨(hText (nextW l1 b1)).getD [], numV (nextL l1 b1) (nextB l1 b1), intV (nextL (nextL l1 b1) (nextB l1 b1)) (numB (nextL l1 b1) (nextB l1 b1)), nextW (nextL (nextL (nextL l1 b1) (nextB l1 b1)) (numB (nextL l1 b1) (nextB l1 b1))) (intB (nextL (nextL l1 b1) (nextB l1 b1)) (numB (nextL l1 b1) (nextB l1 b1))) == [103, 111, 110, 101]⟩) := rfl
            have HZ12 := Lib.hid (setCell_block (i := 3) hZ11 (.bool (nextW (nextL (nextL (nextL l1 b1) (nextB l1 b1)) (numB (nextL l1 b1) (nextB l1 b1))) (intB (nextL (nextL l1 b1) (nextB l1 b1)) (numB (nextL l1 b1) (nextB l1 b1))) == [103, 111, 110, 101])))
            clear HR9 HZ9 HF9 HR10 HZ10 HF10 HR8 HZ8 HF8 HF7 hR11 hf11 hZ11 hl2 hl3 hl4 HW2 HW3 HV d0 f0
            generalize (hText (nextW l1 b1)).getD [] = xn at *
            generalize numV (nextL l1 b1) (nextB l1 b1) = xv at *
            generalize intV (nextL (nextL l1 b1) (nextB l1 b1)) (numB (nextL l1 b1) (nextB l1 b1)) = xl at *
            generalize nextW (nextL (nextL (nextL l1 b1) (nextB l1 b1)) (numB (nextL l1 b1) (nextB l1 b1))) (intB (nextL (nextL l1 b1) (nextB l1 b1)) (numB (nextL l1 b1) (nextB l1 b1))) = xg at *
            go_upto_region 18 with fail
            have HF12 : Hid (Fr [K] w4 (w11.setCell ⟨Z, 3, none⟩ (.bool (xg == [103, 111, 110, 101])))) := HF11.out.setCell (fun h => absurd h (by simp; omega)) _
            generalize (xg == [103, 111, 110, 101]) = gb at *
            generalize w11.setCell ⟨Z, 3, none⟩ (.bool gb) = w12 at *
            have hZ12 : w12.heap[Z]? = some (.cells #[.string (bs xn), .int .u64 (xv : Nat), .int .i64 xl, .bool gb] 104 (0, 0)) := HZ12.out
            have hR12 := HF12.out.blockAs HRR.out (by simp; omega)
            have hown12 : w12.ownsRow (w.heap.size + 1) 104 4 iv ak.items.length (itemsC ak.items) := ownsRow_fr HOWN4.out HF12.out (fun m hm => HNR.out m (by simp at hm; simp [hm]))
            have r3 : w12.cell? ⟨w.heap.size, 3, none⟩ = some iv := by rw [Lib.cell_of_heap hR12]; rfl
            have hZs : Z < w12.heap.size := lt_of_block hZ12
            obtain ⟨t0, ti, tz0, tz1, tz2⟩ := info_parts infoItem
            have hzi : ak.items.length ≤ 1048576 := by omega
            have HZ := Lib.hid hZ12
            have HR12 := Lib.hid hR12
            clear hZ12 hR12 HZ12 HF11 d3 f3
            go_wp2_with (first
              | (refine wpList_load_row (by rfl) 104 (.tmp 8) (by rfl) Z (by rfl) 104 _ _ _ HZ.out Tryz.underlying104 rfl (by rw [ti]; simp [tz1]) ?_)
              | (at_builtin; refine wpList_append_own _ rfl _ _ 43 rfl (w.heap.size + 1) 104 t0 (.agg #[.string ⟨#[]⟩, .int .u64 0, .int .i64 0, .bool false]) 4 40 Tryz.underlying43 ti tz0 tz1 tz2 rfl (by decide) _ _ _ rfl (hown12.alloc _) ⟨w12.heap.size, 0, none⟩ 1 1 [.string (bs xn), .int .u64 (xv : Nat), .int .i64 xl, .bool gb] rfl rfl ?c1 ?c2 ?c3 ?c4 ?c5 ?_))
            case c1 =>
              intro j u hj
              match j, hj with
              | 0, hj => simp at hj; subst hj; simp [Addr.add]
              | 1, hj => simp at hj; subst hj; simp [Addr.add]
              | 2, hj => simp at hj; subst hj; simp [Addr.add]
              | 3, hj => simp at hj; subst hj; simp [Addr.add]
            case c2 =>
              intro u hu
              simp only [List.mem_cons, List.not_mem_nil, or_false] at hu
              rcases hu with rfl | rfl | rfl | rfl <;> rfl
            case c3 => unfold maxLen; omega
            case c4 => omega
            case c5 => simp; omega
            intro v' w13 hown13 hgrow _
            have hR13 : w13.heap[w.heap.size]? = some (.cells (ansCells ak iv) 47 (0, 0)) := by
              rw [hgrow.block w.heap.size (by simp; omega) (fun e => HNR.out w.heap.size (by simp) e.symm), Lib.alloc_old _ _ _ (by omega)]
              exact HR12.out
            have r3' : w13.cell? ⟨w.heap.size, 3, none⟩ = some iv := by rw [Lib.cell_of_heap hR13]; rfl
            have f3' : w13.frozen? ⟨w.heap.size, 3, none⟩ = false := Lib.frozen_of_heap hR13 3
            obtain ⟨gg, cap, rfl⟩ : ∃ g cap, v' = .slice (some ⟨g, 0, none⟩) (ak.items.length + 1) cap := by
              rcases hown13.2 with ⟨_, h0⟩ | ⟨g, cap, cur, hv, _⟩
              · omega
              · exact ⟨g, cap, hv⟩
            have HR13 := Lib.hid (setCell_block (i := 3) hR13 (.slice (some ⟨gg, 0, none⟩) (ak.items.length + 1) cap))
            clear hR13
            have HOWN13 := Lib.hid hown13
            have HGROW := Lib.hid hgrow
            clear hown13 hgrow
            go_wp2_with fail
            go_roundg (gk - 1)
            case measure => omega
            case rel =>
              refine ⟨k + 1, .slice (some ⟨gg, 0, none⟩) (ak.items.length + 1) cap, by omega, by go_num, ?_, ?_, ?_⟩
              · rw [HS.out, HE.out]; exact HR13
              · rw [HS.out, HE.out, HITEM.out]
                show World.ownsRow _ _ _ _ _ _ _
                rw [itemsC_snoc, List.length_append]
                refine ownsRow_fr (M := [w.heap.size]) HOWN13.out ((Fr.refl _ _).setCell (by simp) _) (fun m hm e => ?_)
                have := (HOWN13.out.lt _ e).1
                simp at hm
                omega
              · refine Fr.of_below (Below.setCell ?_ (by simp) _)
                refine ((((HFR.out.trans HF4.out (fun i hi h => by simp at hi; omega)).trans HF12.out (fun i hi h => by simp at hi; omega)).below.alloc (by omega) _).grown HGROW.out (by simp; omega) (fun j hj => ?_))
                have := (hown12.lt j hj).1
                omega
          · have q3 : (w0 == [105, 116, 101, 109]) = false := by simpa [w_item] using h3
            by_cases h4 : w0 = moreL
            · have HE := Lib.hid (E4.out h4)
              subst h4
              unfold moreL
              clear E1 E2 E3 E4 E5 q1 q2 q3
              have hC4 := HRR.out
              have d4 : w4.cell? ⟨w.heap.size, 4, none⟩ = some (.bool ak.more) := by rw [Lib.cell_of_heap hC4]; rfl
              have f4 : w4.frozen? ⟨w.heap.size, 4, none⟩ = false := Lib.frozen_of_heap hC4 4
              have HC6 := Lib.hid (setCell_block (i := 4) hC4 (.bool true))
              clear hC4
              go_wp2_with fail
              go_roundg (gk - 1)
              case measure => omega
              case rel =>
                refine ⟨k + 1, iv, by omega, by go_num, ?_, ?_, ?_⟩
                · rw [HS.out, HE.out]; exact HC6
                · rw [HS.out, HE.out]
                  exact ownsRow_fr HOWN4.out ((Fr.refl [w.heap.size] _).setCell (by simp) _) (fun m hm => HNR.out m (by simp at hm; simp [hm]))
                · exact (HFR.out.trans HF4.out (fun i hi h => by simp at hi; omega)).setCell (fun h => absurd h (by simp)) _
            · have q4 : (w0 == [109, 111, 114, 101]) = false := by simpa [moreL] using h4
              have HE := Lib.hid (E5.out h1 h2 h3 h4)
              clear E1 E2 E3 E4 E5 h1 h2 h3 h4
              go_wp2_with fail
              go_roundg (gk - 1)
              case measure => omega
              case rel =>
                refine ⟨k + 1, iv, by omega, by go_num, ?_, ?_, ?_⟩
                · rw [HS.out, HE.out]; exact HRR
                · rw [HS.out, HE.out]; exact HOWN4.out
                · exact HFR.out.trans HF4.out (fun i hi h => by simp at hi; omega)
    · obtain rfl : k = l.length := by omega
      have hwf := (HWFS.out l.length (Nat.le_refl _)).1
      rw [List.take_length] at HRk HOWN hwf
      have HYES := Lib.hid (ansP_yes (l := l))
      have HNO := Lib.hid (ansP_no (l := l))
      clear HWFS HCL HL
      generalize goneA l = af at *
      have HWF := Lib.hid hwf
      clear hwf hown hfr
      obtain ⟨ib, hib⟩ := ownI_in HOWN.out
      obtain ⟨ip, ic, hiv⟩ := ownI_form HOWN.out
      subst hiv
      have HIB := Lib.hid hib
      clear hib HOWN
      go_wp2_with (refine wpList_load_row (by rfl) 47 (.tmp 2) (by rfl) w.heap.size (by rfl) 47 _ _ _ HRk.out Tryz.underlying47 rfl infoAns ?_)
      refine (told_calls af _ ib HWF.out wr henvr HIB.out).mono ?_
      rintro e w2 ⟨tv, rfl, hown2, hf2⟩
      unfold Own at hown2
      obtain ⟨tb, htb⟩ := strsIn_any hown2
      have hR2 := Lib.hid (hf2.blockAs HRk.out (by simp))
      have hin2 := (HIN.out.fr HFR.out (by simp)).fr hf2 (by simp)
      have hib2 := Lib.hid (HIB.out.fr hf2 (by simp))
      have htl : (toldP af).length ≤ 1099511627776 := by
        have h1 := toldT_length af
        have h2 := HWF.out.few
        unfold toldP
        rw [List.length_append, List.length_append, List.length_map]
        split <;> simp <;> omega
      clear hown2 HRk
      go_wp2_with fail
      refine (equal_calls tb b0 tv _ (toldP af) l w2 htb hin2 htl (by omega)).mono ?_
      rintro e w3 ⟨rfl, hf3⟩
      have HR3 := Lib.hid (hf3.blockAs hR2.out (by simp))
      have HIB3 := Lib.hid (hib2.out.fr hf3 (by simp))
      have HF3 := Lib.hid ((HFR.out.trans hf2 (by simp)).trans hf3 (by simp))
      have hR3s := lt_of_block HR3.out
      clear hf2 hf3 htb hin2 hR2 hib2 HIB
      by_cases heq : toldP af = l
      · have hdec : decide (toldP af = l) = true := by simp [heq]
        have HE := Lib.hid (HYES.out heq)
        rw [hdec]
        clear hdec heq
        go_wp2_with (first
          | (refine wpList_load_row (by rfl) 47 (.tmp 2) (by rfl) w.heap.size (by rfl) 47 _ _ _ HR3.out Tryz.underlying47 rfl infoAns ?_)
          | (refine wpList_store_row (by rfl) 47 (.tmp 2) (.tmp 77) (by rfl) w.heap.size (ansCells af _) (by rfl) (by rfl) 47 _ HR3.out infoAns rfl (ansCells_one _ _ _ _) ?_))
        refine bodyPost_ret (v := .tuple #[.agg (ansCells af (.slice ip af.items.length ic)), .int .i64 0]) (results_two rfl _ _ w.heap.size 47 (ansCells af (.slice ip af.items.length ic)) (0, 0) _ (by rfl) (setRow_heap _ _ _ _ _ _ HR3.out) Tryz.underlying47 rfl infoAns _ (by rfl)) rfl ?_
        refine ⟨_, by rw [HE.out]; rfl, ?_, HF3.out.setRow (fun h => absurd h (by simp)) _⟩
        rw [HE.out]
        refine ⟨ib, ?_⟩
        rw [setRow_same HR3.out]
        exact HIB3.out
      · have hdec : decide (toldP af = l) = false := by simp [heq]
        have HE := Lib.hid (HNO.out heq)
        rw [hdec]
        clear hdec heq
        go_wp2_with (refine wpList_store_row (by rfl) 47 (.tmp 2) (.tmp 76) (by rfl) w.heap.size (ansCells AAns.zero (.slice none 0 0)) (by rfl) (by rfl) 47 _ HR3.out infoAns rfl (ansCells_one _ _ _ _) ?_)
        refine bodyPost_ret (v := .tuple #[.agg (ansCells AAns.zero (.slice none 0 0)), .int .i64 310]) (results_two rfl _ _ w.heap.size 47 (ansCells AAns.zero (.slice none 0 0)) (0, 0) _ (by rfl) (setRow_heap _ _ _ _ _ _ HR3.out) Tryz.underlying47 rfl infoAns _ (by rfl)) rfl ?_
        refine ⟨_, by rw [HE.out]; rfl, ?_, HF3.out.setRow (fun h => absurd h (by simp)) _⟩
        rw [HE.out]
        exact ⟨0, none, 0, 0, rfl, fun i hi => absurd hi (by simp [AAns.zero])⟩
end Go.Proofs.YtcaeppncippknaaGreatDoor
