/- house's coder: cond, while it writes. Conditions: as of number. -/
import Derived.Test.YtcaeppncippknaaGreatDoorCond
import Derived.Test.YtcaeppncippknaaGreatDoorWrite
import Derived.Deep.RegionWith
import Derived.Deep.DeepCutAuto
namespace Go.Proofs.YtcaeppncippknaaGreatDoor
open Go Go.RowKit

def condW1 (kd : Nat) : List UInt8 := if kd = 0 then w_any else if kd = 1 then w_absent else w_is
def condOut (kd n : Nat) : List (List UInt8) := if kd = 2 then [w_is, Lib.decDigits n] else [condW1 kd]
theorem condW1_min {kd m : Nat} (h : min (kd : Int) 2 = (m : Nat)) : condW1 m = condW1 kd := by
  unfold condW1
  by_cases h0 : kd = 0
  · rw [if_pos (by omega), if_pos h0]
  · by_cases h1 : kd = 1
    · rw [if_neg (by omega), if_pos (by omega), if_neg h0, if_pos h1]
    · rw [if_neg (by omega), if_neg (by omega), if_neg h0, if_neg h1]

set_option maxHeartbeats 2000000 in
set_option maxRecDepth 100000 in
theorem cond_write (K B C o : Nat) (cs : Array Value) (T : TypeId) (kd n : Nat) (hkd : kd ≤ 255) (hn : n < 18446744073709551616) (w : World) (out : List (List UInt8)) (bad : Bool) (henv : Env w) (h : WCod K B w out bad) (hKB : K < B) (hB : B ≤ w.heap.size) (ho : out.length ≤ 1099511627775)
    (hC : w.heap[C]? = some (.cells cs T (0, 0))) (hk : cs[o]? = some (.int .u8 (kd : Nat))) (hnn : cs[o + 1]? = some (.int .u64 (n : Nat))) (hCB : C < B) (hCK : C ≠ K) (hK8 : 8 ≤ K) (hB8 : 8 ≤ B) :
    Calls Tryz.prog 69 #[.pointer (some ⟨K, 0, none⟩), .pointer (some ⟨C, o, none⟩)] w fun e w' => e = .returned (.tuple #[]) ∧ WCod K B w' (out ++ condOut kd n) (bad || decide (2 < kd)) ∧ But B K w w' := by
  have hh := h
  obtain ⟨v, hb, hs⟩ := hh
  have c2 : w.cell? ⟨K, 2, none⟩ = some (.bool false) := by rw [Lib.cell_of_heap hb]; rfl
  have c3 : w.cell? ⟨K, 3, none⟩ = some (.bool bad) := by rw [Lib.cell_of_heap hb]; rfl
  have f3 : w.frozen? ⟨K, 3, none⟩ = false := Lib.frozen_of_heap hb 3
  have cC : w.cell? ⟨C, o, none⟩ = some (.int .u8 (kd : Nat)) := by rw [Lib.cell_of_heap hC]; exact hk
  have cN : w.cell? ⟨C, o + 1, none⟩ = some (.int .u64 (n : Nat)) := by rw [Lib.cell_of_heap hC]; exact hnn
  have HH := Lib.hid h
  have HN := Lib.hid cN
  clear hb hs h hC hk hnn cN
  have e1 : decide ((kd : Int) > (2 : Int)) = (false || decide (2 < kd)) := by
    rw [Bool.false_or]; exact decide_eq_decide.2 (by omega)
  have E1 := Lib.hid e1
  clear e1
  go_enter Tryz.func69, Tryz.ntmps69
  go_upto_region 4 with fail
  go_cut [] (fun wx => WCod K B wx out (bad || decide (2 < kd)) ∧ But B K w wx)
  case first =>
    cases bad with
    | true =>
      go_wp2_with fail
      go_meet
      exact ⟨by simpa using HH.out.setBad _, (But.refl B K w).setCell (p := ⟨K, 3, none⟩) rfl _⟩
    | false =>
      go_wp2_with fail
      go_meet
      exact ⟨by rw [← E1.out]; exact HH.out.setBad _, (But.refl B K w).setCell (p := ⟨K, 3, none⟩) rfl _⟩
  case rest =>
    obtain ⟨h3, hbut3⟩ := hcut
    have c3' := (hbut3.cell (p := ⟨C, o, none⟩) hCB hCK).trans cC
    have cN3 := Lib.hid ((hbut3.cell (p := ⟨C, o + 1, none⟩) hCB hCK).trans HN.out)
    have hB3 : B ≤ wc.heap.size := Nat.le_trans hB hbut3.size
    have henv3 : Env wc := henv.but hbut3 hB8 hK8
    generalize wc = w3 at *
    have H3 := Lib.hid h3
    have B3 := Lib.hid hbut3
    clear h3 hbut3 cC c2 c3 f3 HH HN E1
    obtain ⟨bd, hbd⟩ : ∃ bd : Bool, Hid (bd = (bad || decide (2 < kd))) := ⟨_, rfl⟩
    rw [← hbd.out] at H3
    go_upto_region 5 with fail
    go_cut [] (fun wx => WCod K B wx (out ++ [condW1 kd]) bd ∧ But B K w3 wx)
    case first =>
      have c3d : ∀ ob, ((w3.alloc ob).drew).cell? ⟨C, o, none⟩ = some (.int .u8 (kd : Nat)) := fun ob => (((Fr.refl [] w3).alloc ob).cellAs c3' (by simp))
      have c3e : ∀ ob, (w3.alloc ob).cell? ⟨C, o, none⟩ = some (.int .u8 (kd : Nat)) := fun ob => (((Fr.refl [] w3).alloc ob).cellAs c3' (by simp))
      obtain ⟨m, hm, hm2⟩ : ∃ m : Nat, min (kd : Int) 2 = (m : Nat) ∧ m ≤ 2 := ⟨min kd 2, by omega, by omega⟩
      have hmm : m = 0 ∨ m = 1 ∨ m = 2 := by omega
      have HM := Lib.hid (condW1_min hm)
      have hdr : ∀ ob, WCod K B ((w3.alloc ob).drew) out bd := fun ob => H3.out.fr (M := []) (((Fr.refl _ _).alloc _).drew) (by simp)
      have hbd : ∀ ob, But B K w3 ((w3.alloc ob).drew) := fun ob => ((But.refl B K w3).alloc hB3 ob).drew
      have HDR := Lib.hid hdr
      have HBD := Lib.hid hbd
      clear hdr hbd
      rcases hmm with rfl | rfl | rfl
      all_goals go_region_with (first | (go_at_call 95; refine (conds_calls _).mono ?_; rintro e w' ⟨rfl, rfl⟩) | (go_at_call 34; refine (put_calls K B _ out bd _ (HDR.out _) hKB (by simp; omega) (by omega)).mono ?_; rintro e w' ⟨rfl, h4, hb4⟩))
      all_goals go_wp2_with fail
      all_goals go_meet
      all_goals exact ⟨by rw [← HM.out]; exact h4, (HBD.out _).trans hb4⟩
    case rest =>
      obtain ⟨h4, hbut4⟩ := hcut
      have c4' := (hbut4.cell (p := ⟨C, o, none⟩) hCB hCK).trans c3'
      have cN4 := (hbut4.cell (p := ⟨C, o + 1, none⟩) hCB hCK).trans cN3.out
      have hB4 : B ≤ wc.heap.size := Nat.le_trans hB3 hbut4.size
      have henv4 : Env wc := henv3.but hbut4 hB8 hK8
      have B4 := Lib.hid (B3.out.trans hbut4)
      have H4 := Lib.hid h4
      have N4 := Lib.hid cN4
      clear hbut4 c3' cN3 h4 cN4 H3 B3
      generalize wc = w4 at *
      by_cases hk2 : kd = 2
      · subst hk2
        go_wp2_with fail
        refine (number_write K B C (o + 1) w4 _ bd n hn henv4 H4.out hKB hB4 (by simp; omega) N4.out).mono ?_
        rintro e w5 ⟨rfl, h5, hb5⟩
        go_wp2_with fail
        go_end0
        exact ⟨rfl, by rw [← hbd.out]; simpa [condOut, condW1] using h5, B4.out.trans hb5⟩
      · have hkb : ((kd : Int) == 2) = false := by simp; omega
        go_wp2_with fail
        go_end0
        exact ⟨rfl, by unfold condOut; rw [if_neg hk2, ← hbd.out]; exact H4.out, B4.out⟩
end Go.Proofs.YtcaeppncippknaaGreatDoor
