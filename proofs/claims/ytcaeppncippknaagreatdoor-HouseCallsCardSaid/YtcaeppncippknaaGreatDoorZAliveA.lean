/- The answers that hoardlaw31.alive asks for, in plain. Conditions: none. -/
import Derived.Test.YtcaeppncippknaaGreatDoorZRead0A
import Derived.Test.YtcaeppncippknaaGreatDoorZAns0
import Derived.Test.YtcaeppncippknaaGreatDoorZCall
import Derived.Test.YtcaeppncippknaaGreatDoorZLine
import Derived.Test.YtcaeppncippknaaGreatDoorZRead1
import Derived.Test.YtcaeppncippknaaGreatDoorZAnswer
namespace Go.Proofs.YtcaeppncippknaaGreatDoor
open Go Go.RowKit

def alC : ACall := ⟨3, [107], [97], 0, 0, [120, 32], 2, 3, [], [], 0⟩
def alB : ACall := ⟨7, [107], [], 0, 0, [], 0, 0, [], [], 9⟩
def alA : AAns := ⟨0, 4, [120, 121], [], false⟩
def alL : List (List UInt8) := [[99, 111, 100, 101, 32, 48, 32, 52], [116, 101, 120, 116, 32, 120, 121]]
theorem al1 : lineOk alC = true := by decide +kernel
theorem al1' : joinSp (lineOut alC) = [112, 117, 116, 32, 107, 32, 97, 32, 120, 37, 50, 48, 32, 105, 115, 32, 51] := by decide +kernel
theorem al2 : callP [32, 32, 108, 105, 115, 116, 32, 32, 107, 32, 45, 32, 45, 32, 57, 32] = (alB, true) := by decide +kernel
theorem al3 : (callP [103, 101, 116, 32, 107, 32, 97]).2 = false := by decide +kernel
theorem al4 : (callP [112, 117, 116, 32, 107, 32, 97, 32, 120, 32, 105, 115]).2 = false := by decide +kernel
theorem al5 : toldP alA = alL := by decide +kernel
theorem al6 : ansP alL = (alA, true) := by decide +kernel
theorem al7 : hText [120, 37, 50, 48] = some [120, 32] := by decide +kernel
theorem al8 : hText [37, 52, 49] = none := by decide +kernel
theorem al9 : hWord [] = [45] := by decide +kernel
theorem al10 : lineOk alB = true := by decide +kernel
theorem al11 : lineOk ACall.zero = false := by decide +kernel
end Go.Proofs.YtcaeppncippknaaGreatDoor
/- hoardlaw31.alive: true. Conditions: the package variables' facts (Env). -/
namespace Go.Proofs.YtcaeppncippknaaGreatDoor
open Go Go.RowKit

theorem readAt : ReadAt := fun b0 v l w henv hin hll hlw => read_calls b0 v l w henv hin hll hlw
theorem lineAt : LineAt ResL ACall.Short := fun c hwf hsh w henv => line_calls readAt c hwf hsh w henv
theorem alC_wf : alC.Wf := ⟨by decide, by decide, by decide, by decide, by decide, by decide, by decide, by decide, by decide, by decide, by decide⟩
theorem alC_short : alC.Short := ⟨by decide, by decide, by decide, by decide, by decide⟩
theorem alB_wf : alB.Wf := ⟨by decide, by decide, by decide, by decide, by decide, by decide, by decide, by decide, by decide, by decide, by decide⟩
theorem alB_short : alB.Short := ⟨by decide, by decide, by decide, by decide, by decide⟩
theorem zeroC_wf : ACall.zero.Wf := ⟨by decide, by decide, by decide, by decide, by decide, by decide, by decide, by decide, by decide, by decide, by decide⟩
theorem zeroC_short : ACall.zero.Short := ⟨by decide, by decide, by decide, by decide, by decide⟩
theorem alA_wf : alA.Wf := ⟨by decide, by decide, by decide, by decide, fun x hx => by cases hx⟩
theorem resK_yes {x : ACall × Bool} {c : ACall} (h : x = (c, true)) : ResK x = .tuple #[.agg (callCells c), .int .i64 0] := by rw [h]; rfl
theorem resK_no {x : ACall × Bool} (h : x.2 = false) : ResK x = .tuple #[.agg (callCells ACall.zero), .int .i64 310] := by unfold ResK; rw [h]; rfl

set_option maxHeartbeats 8000000 in
set_option maxRecDepth 100000 in
theorem alive_calls (w : World) (henv : Env w) : Calls Tryz.prog 7 #[] w fun e w' => e = .returned (.bool true) ∧ Fr [] w w' := by
  have HENV := Lib.hid henv
  clear henv
  go_enter Tryz.func7, Tryz.ntmps7
  simp only [List.append_eq, List.cons_append, List.nil_append]
  go_wp2_with fail
  have h1 := line_calls readAt alC alC_wf alC_short w HENV.out
  rw [resL_yes al1, al1'] at h1
  refine h1.mono ?_
  clear h1
  rintro e w1 ⟨rfl, hf1⟩
  go_wp2_with fail
  have h2 := call_calls readAt [32, 32, 108, 105, 115, 116, 32, 32, 107, 32, 45, 32, 45, 32, 57, 32] (by decide) w1 (HENV.out.fr hf1 (by simp))
  rw [resK_yes al2] at h2
  refine h2.mono ?_
  clear h2
  rintro e w2 ⟨rfl, hf2⟩
  have HF2 := Lib.hid (hf1.andThen hf2)
  clear hf1 hf2
  go_upto_region 3 with (refine wpList_store_row (by rfl) 31 (.tmp 3) (.tmp 24) (by rfl) w2.heap.size (callCells alB) (by rfl) (by rfl) 31 _ (MapKept.heap_alloc w2 _).1 infoCall rfl (callCells_one _) ?_)
  generalize hw3 : (w2.alloc _).setRow w2.heap.size (callCells alB) = w3
  have hB3 : w3.heap[w2.heap.size]? = some (.cells (callCells alB) 31 (0, 0)) := by subst hw3; exact setRow_heap _ _ _ _ _ _ (MapKept.heap_alloc w2 _).1
  have HF3 : Hid (Fr [] w w3) := by
    have h0 := HF2.out.size
    show Fr [] w w3
    subst hw3
    exact (HF2.out.alloc _).setRow (fun h => absurd h (by omega)) _
  have HB3 := Lib.hid hB3
  clear hw3 HF2 hB3
  generalize w2.heap.size = Bb at *
  go_wp2_with fail
  have h4 := call_calls readAt [103, 101, 116, 32, 107, 32, 97] (by decide) w3 (HENV.out.fr HF3.out (by simp))
  rw [resK_no al3] at h4
  refine h4.mono ?_
  clear h4
  rintro e w4 ⟨rfl, hf4⟩
  have HF4 := Lib.hid (HF3.out.andThen hf4)
  have HB4 := Lib.hid (hf4.blockAs HB3.out (by simp))
  clear hf4 HF3 HB3
  go_upto_region 4 with (refine wpList_store_row (by rfl) 31 (.tmp 5) (.tmp 28) (by rfl) w4.heap.size (callCells ACall.zero) (by rfl) (by rfl) 31 _ (MapKept.heap_alloc w4 _).1 infoCall rfl (callCells_one _) ?_)
  generalize hw5 : (w4.alloc _).setRow w4.heap.size (callCells ACall.zero) = w5
  have hf5 : Fr [] w4 w5 := by subst hw5; exact ((Fr.refl _ _).alloc _).setRow (fun h => absurd h (by omega)) _
  have HF5 := Lib.hid (HF4.out.andThen hf5)
  have HB5 := Lib.hid (hf5.blockAs HB4.out (by simp))
  clear hw5 hf5 HF4 HB4
  go_wp2_with fail
  have h6 := call_calls readAt [112, 117, 116, 32, 107, 32, 97, 32, 120, 32, 105, 115] (by decide) w5 (HENV.out.fr HF5.out (by simp))
  rw [resK_no al4] at h6
  refine h6.mono ?_
  clear h6
  rintro e w6 ⟨rfl, hf6⟩
  have HF6 := Lib.hid (HF5.out.andThen hf6)
  have HB6 := Lib.hid (hf6.blockAs HB5.out (by simp))
  clear hf6 HF5 HB5
  go_upto_region 5 with (refine wpList_store_row (by rfl) 31 (.tmp 7) (.tmp 32) (by rfl) w6.heap.size (callCells ACall.zero) (by rfl) (by rfl) 31 _ (MapKept.heap_alloc w6 _).1 infoCall rfl (callCells_one _) ?_)
  generalize hw7 : (w6.alloc _).setRow w6.heap.size (callCells ACall.zero) = w7
  have hf7 : Fr [] w6 w7 := by subst hw7; exact ((Fr.refl _ _).alloc _).setRow (fun h => absurd h (by omega)) _
  have HF7 := Lib.hid (HF6.out.andThen hf7)
  have HB7 := Lib.hid (hf7.blockAs HB6.out (by simp))
  clear hw7 hf7 HF6 HB6
  go_wp2_with fail
  have h8 := told_calls alA (.slice none 0 0) 0 alA_wf w7 (HENV.out.fr HF7.out (by simp)) ⟨none, 0, 0, rfl, fun i hi => absurd hi (by simp [alA])⟩
  rw [al5] at h8
  refine h8.mono ?_
  clear h8
  rintro e w8 ⟨tv, rfl, hown8, hf8⟩
  unfold Own at hown8
  obtain ⟨tb, htb⟩ := strsIn_any hown8
  obtain ⟨tp, tc, tof, rfl, _⟩ := htb.form
  have HT8 := Lib.hid htb
  have HF8 := Lib.hid (HF7.out.andThen hf8)
  have HB8 := Lib.hid (hf8.blockAs HB7.out (by simp))
  clear hf8 HF7 HB7 htb hown8
  go_wp2_with fail
  generalize hw9 : w8.alloc (.cells #[.string ⟨#[99, 111, 100, 101, 32, 48, 32, 52]⟩, .string ⟨#[116, 101, 120, 116, 32, 120, 121]⟩] 9) = w9
  have hs9 : StrsIn w9 w8.heap.size (.slice (some ⟨w8.heap.size, 0, none⟩) 2 2) alL := by
    subst hw9
    refine .inr ⟨0, 2, rfl, by decide, fun i hi => ?_⟩
    rw [Lib.cell_of_heap (MapKept.heap_alloc w8 _).1]
    match i, hi with
    | 0, _ => rfl
    | 1, _ => rfl
  have hf9 : Fr [] w8 w9 := by subst hw9; exact (Fr.refl _ _).alloc _
  have HF9 := Lib.hid (HF8.out.andThen hf9)
  have HB9 := Lib.hid (hf9.blockAs HB8.out (by simp))
  have HT9 := Lib.hid (HT8.out.fr hf9 (by simp))
  clear hw9 hf9 HF8 HB8 HT8
  have h10 := answer_calls _ _ alL w9 (HENV.out.fr HF9.out (by simp)) hs9 (by decide) (by decide)
  clear hs9
  refine h10.mono ?_
  clear h10
  rintro e w10 ⟨iv, he, ⟨ib, ip, ic, io, hiv, _⟩, hf10⟩
  rw [al6] at he
  have hone : (ansCells alA iv).all (·.oneCell') = true := by rw [hiv]; exact ansCells_one _ _ _ _
  clear hiv
  subst he
  have HF10 := Lib.hid (HF9.out.andThen hf10)
  have HB10 := Lib.hid (hf10.blockAs HB9.out (by simp))
  have HT10 := Lib.hid (HT9.out.fr hf10 (by simp))
  clear hf10 HF9 HB9 HT9
  go_upto_region 7 with (refine wpList_store_row (by rfl) 47 (.tmp 10) (.tmp 39) (by rfl) w10.heap.size (ansCells alA iv) (by rfl) (by rfl) 47 _ (MapKept.heap_alloc w10 _).1 infoAns rfl hone ?_)
  generalize hw11 : (w10.alloc _).setRow w10.heap.size (ansCells alA iv) = w11
  have hA11 : w11.heap[w10.heap.size]? = some (.cells (ansCells alA iv) 47 (0, 0)) := by subst hw11; exact setRow_heap _ _ _ _ _ _ (MapKept.heap_alloc w10 _).1
  have hf11 : Fr [] w10 w11 := by subst hw11; exact ((Fr.refl _ _).alloc _).setRow (fun h => absurd h (by omega)) _
  have HF11 := Lib.hid (HF10.out.andThen hf11)
  have HB11 := Lib.hid (hf11.blockAs HB10.out (by simp))
  have HT11 := Lib.hid (HT10.out.fr hf11 (by simp))
  have HA11 := Lib.hid hA11
  clear hw11 hA11 hf11 HF10 HB10 HT10
  generalize w10.heap.size = Ab at *
  go_wp2_with fail
  have h12 := text_calls [120, 37, 50, 48] (by decide) w11 (HENV.out.fr HF11.out (by simp))
  rw [al7] at h12
  refine h12.mono ?_
  clear h12
  rintro e w12 ⟨rfl, hf12⟩
  unfold ResT
  have HF12 := Lib.hid (HF11.out.andThen hf12)
  have HB12 := Lib.hid (hf12.blockAs HB11.out (by simp))
  have HT12 := Lib.hid (HT11.out.fr hf12 (by simp))
  have HA12 := Lib.hid (hf12.blockAs HA11.out (by simp))
  clear hf12 HF11 HB11 HT11 HA11
  go_wp2_with fail
  have h13 := text_calls [37, 52, 49] (by decide) w12 (HENV.out.fr HF12.out (by simp))
  rw [al8] at h13
  refine h13.mono ?_
  clear h13
  rintro e w13 ⟨rfl, hf13⟩
  unfold ResT
  have HF13 := Lib.hid (HF12.out.andThen hf13)
  have hB13 := hf13.blockAs HB12.out (by simp)
  have HB13 := Lib.hid hB13
  have HT13 := Lib.hid (HT12.out.fr hf13 (by simp))
  have HA13 := Lib.hid (hf13.blockAs HA12.out (by simp))
  have b0 : w13.cell? ⟨Bb, 0, none⟩ = some (.int .u8 7) := by rw [Lib.cell_of_heap hB13]; rfl
  have b1 : w13.cell? ⟨Bb, 1, none⟩ = some (.string ⟨#[107]⟩) := by rw [Lib.cell_of_heap hB13]; rfl
  have b9 : w13.cell? ⟨Bb, 10, none⟩ = some (.int .i64 9) := by rw [Lib.cell_of_heap hB13]; rfl
  clear hf13 HF12 HB12 HT12 HA12 hB13
  go_wp2_with fail
  generalize hw14 : w13.alloc (.cells #[.string ⟨#[99, 111, 100, 101, 32, 48, 32, 52]⟩, .string ⟨#[116, 101, 120, 116, 32, 120, 121]⟩] 9) = w14
  have hs14 : StrsIn w14 w13.heap.size (.slice (some ⟨w13.heap.size, 0, none⟩) 2 2) alL := by
    subst hw14
    refine .inr ⟨0, 2, rfl, by decide, fun i hi => ?_⟩
    rw [Lib.cell_of_heap (MapKept.heap_alloc w13 _).1]
    match i, hi with
    | 0, _ => rfl
    | 1, _ => rfl
  have hf14 : Fr [] w13 w14 := by subst hw14; exact (Fr.refl _ _).alloc _
  clear hw14
  refine (same_calls tb _ _ _ alL alL w14 (HT13.out.fr hf14 (by simp)) hs14 (by decide) (by decide)).mono ?_
  rintro e w15 ⟨rfl, hf15⟩
  have HF15 := Lib.hid ((HF13.out.andThen hf14).andThen hf15)
  have HB15 := Lib.hid ((hf14.andThen hf15).blockAs HB13.out (by simp))
  have hA15 := (hf14.andThen hf15).blockAs HA13.out (by simp)
  have a1 : w15.cell? ⟨Ab, 1, none⟩ = some (.int .u64 4) := by rw [Lib.cell_of_heap hA15]; rfl
  have a2 : w15.cell? ⟨Ab, 2, none⟩ = some (.string ⟨#[120, 121]⟩) := by rw [Lib.cell_of_heap hA15]; rfl
  have hdec : decide (alL = alL) = true := by simp
  rw [hdec]
  clear hf14 hf15 HF13 HB13 HA13 hA15 b0 b1 b9 hs14 hdec
  go_wp2_with fail
  have h16 := word_calls [] (by decide) w15
  rw [al9] at h16
  refine h16.mono ?_
  clear h16
  rintro e w16 ⟨rfl, hf16⟩
  have HF16 := Lib.hid (HF15.out.andThen hf16)
  have HB16 := Lib.hid (hf16.blockAs HB15.out (by simp))
  clear hf16 HF15 HB15 a1 a2
  go_wp2_with (refine wpList_load_row_g (by rfl) 31 (.tmp 3) (by rfl) Bb (by rfl) 31 _ _ _ HB16.out Tryz.underlying31 rfl infoCall ?_)
  have h17 := may_calls lineAt alB alB_wf alB_short w16 (HENV.out.fr HF16.out (by simp))
  rw [al10] at h17
  refine h17.mono ?_
  clear h17
  rintro e w17 ⟨rfl, hf17⟩
  have HF17 := Lib.hid (HF16.out.andThen hf17)
  clear hf17 HF16 HB16
  go_wp2_with fail
  have h18 := may_calls lineAt ACall.zero zeroC_wf zeroC_short w17 (HENV.out.fr HF17.out (by simp))
  rw [al11] at h18
  refine h18.mono ?_
  clear h18
  rintro e w18 ⟨rfl, hf18⟩
  go_wp2_with fail
  go_ret
  exact ⟨rfl, HF17.out.andThen hf18⟩
end Go.Proofs.YtcaeppncippknaaGreatDoor
