/- hoardref31.Unum and Num: numbers in tens. Conditions: none. -/
import Derived.Test.YtcaeppncippknaaGreatDoorZRWord
import Derived.Test.YtcaeppncippknaaGreatDoorZPlainA
import Derived.Test.YtcaeppncippknaaGreatDoorZTold0
namespace Go.Proofs.YtcaeppncippknaaGreatDoor
open Go Go.RowKit

theorem dec_step {k : Nat} (h : 9 < k) : Lib.decDigits k = Lib.decDigits (k / 10) ++ [UInt8.ofNat (48 + k % 10)] := by
  rw [Lib.decDigits, dif_neg (by omega)]
/-- A byte, as a string of its own. -/
theorem string_one (w : World) (c : Nat) (z : Int) (hz : z = (c : Nat)) (hc : c ≤ 255) : (convert 61 9 (.slice (some ⟨w.heap.size, 0, none⟩) 1 1)).run Tryz.prog (w.alloc (.cells #[.int .u8 z] 5)) = .ok (.string (bs [UInt8.ofNat c])) (w.alloc (.cells #[.int .u8 z] 5)) := by
  subst hz
  refine run_convert_bytes_back (P := Tryz.prog) _ 61 9 5 ⟨w.heap.size, 0, none⟩ 1 [UInt8.ofNat c] Tryz.underlying61 Tryz.underlying5 Tryz.underlying9 ?_
  intro j hj
  obtain rfl : j = 0 := by simpa using hj
  rw [Lib.add_plain, World.cell?_alloc_at _ _ _ _ (by simp)]
  have e : (UInt8.ofNat c).toNat = c := UInt8.toNat_ofNat_of_lt' (by show c < 256; omega)
  simp [e]

set_option maxHeartbeats 2000000 in
set_option maxRecDepth 100000 in
theorem runum_calls (u : Nat) (hu : u < 18446744073709551616) (w : World) :
    Calls Tryz.prog 40 #[.int .u64 (u : Nat)] w fun e w' => e = .returned (.string (bs (Lib.decDigits u))) ∧ Fr [] w w' := by
  have hd20 : (Lib.decDigits u).length ≤ 20 := by rw [Lib.decDigits_length]; exact Lib.nDigits_le20 u hu
  have HD20 := Lib.hid hd20
  clear hd20
  go_enter Tryz.func40, Tryz.ntmps40
  go_wp2_with fail
  go_loopg [0, 3] u (fun g v s wr => ∃ (t : List UInt8), v = .int .u64 (g : Nat) ∧ s = .string (bs t) ∧ g ≤ u ∧ t.length ≤ 20 ∧ Hid (Lib.decDigits u = Lib.decDigits g ++ t) ∧ Below w.heap.size w wr)
  case atStart => exact ⟨[], rfl, rfl, Nat.le_refl _, by simp, by show _ = _; simp, Below.refl _ _⟩
  case round =>
    obtain ⟨t, rfl, rfl, hgu, ht, HD, hb⟩ := hrel
    have hsz := hb.size
    have HB := Lib.hid hb
    clear hb
    by_cases h9 : 9 < gk
    · have e1 : 48 + (gk : Int) % 10 = ((48 + gk % 10 : Nat) : Int) := by omega
      have hs1 := string_one wr (48 + gk % 10) (48 + (gk : Int) % 10) e1 (by omega)
      clear e1
      have HS := Lib.hid (dec_step h9)
      generalize UInt8.ofNat (48 + gk % 10) = d at hs1 HS
      obtain ⟨r, HR, hrl, ha⟩ := app_ex Tryz.prog [d] t (by rw [List.length_singleton]; omega)
      go_wp2_with fail
      go_roundg (gk / 10)
      case measure => omega
      case rel =>
        have HDD : Hid (Lib.decDigits u = Lib.decDigits (gk / 10) ++ r) := by
          show _ = _
          rw [HD.out, HS.out, HR.out, List.append_assoc]
        refine ⟨r, by go_num, rfl, by omega, ?_, HDD, HB.out.alloc hsz _⟩
        have h1 := HD20.out
        rw [HDD.out, List.length_append] at h1
        omega
    · have e1 : 48 + (gk : Int) = ((48 + gk : Nat) : Int) := by omega
      have hs1 := string_one wr (48 + gk) (48 + (gk : Int)) e1 (by omega)
      clear e1
      have HS : Hid (Lib.decDigits gk = [UInt8.ofNat (48 + gk)]) := by show _ = _; rw [Lib.decDigits, dif_pos (by omega)]
      generalize UInt8.ofNat (48 + gk) = d at hs1 HS
      obtain ⟨r, HR, hrl, ha⟩ := app_ex Tryz.prog [d] t (by rw [List.length_singleton]; omega)
      go_wp2_with fail
      go_ret
      refine ⟨?_, Fr.of_below (HB.out.alloc hsz _)⟩
      rw [HD.out, HS.out, ← HR.out]
      rfl

set_option maxRecDepth 100000 in
theorem rnum_calls (x : Int) (h1 : -9223372036854775808 ≤ x) (h2 : x ≤ 9223372036854775807) (w : World) :
    Calls Tryz.prog 41 #[.int .i64 x] w fun e w' => e = .returned (.string (bs (Lib.itoa x))) ∧ Fr [] w w' := by
  go_enter Tryz.func41, Tryz.ntmps41
  by_cases hx : x < 0
  · obtain ⟨u, hu⟩ : ∃ u : Nat, u = x.natAbs := ⟨_, rfl⟩
    have hu64 : u < 18446744073709551616 := by omega
    have hd20 : (Lib.decDigits u).length ≤ 20 := by rw [Lib.decDigits_length]; exact Lib.nDigits_le20 u hu64
    have HI : Hid (Lib.itoa x = [45] ++ Lib.decDigits u) := by show _ = _; unfold Lib.itoa; rw [if_pos hx, hu]; rfl
    have h3 : -(x + 1) + 1 = (u : Int) := by omega
    obtain ⟨r, HR, hrl, ha⟩ := app_ex Tryz.prog [45] (Lib.decDigits u) (by rw [List.length_singleton]; omega)
    clear hu
    go_wp2_with fail
    refine (runum_calls u hu64 w).mono ?_
    rintro e w1 ⟨rfl, hf1⟩
    go_wp2_with fail
    go_ret
    exact ⟨by rw [HI.out, ← HR.out]; rfl, hf1⟩
  · obtain ⟨u, rfl⟩ : ∃ u : Nat, x = (u : Int) := ⟨x.toNat, by omega⟩
    have HI : Hid (Lib.itoa (u : Int) = Lib.decDigits u) := by show _ = _; unfold Lib.itoa; rw [if_neg hx, Int.toNat_natCast]
    go_wp2_with fail
    refine (runum_calls u (by omega) w).mono ?_
    rintro e w1 ⟨rfl, hf1⟩
    go_wp2_with fail
    go_ret
    exact ⟨by rw [HI.out]; rfl, hf1⟩
end Go.Proofs.YtcaeppncippknaaGreatDoor
