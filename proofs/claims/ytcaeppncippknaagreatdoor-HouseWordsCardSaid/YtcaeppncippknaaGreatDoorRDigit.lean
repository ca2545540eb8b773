/- hoardref31.digit: the value of a digit of sixteen, or -1. Conditions: none. -/
import Derived.Test.YtcaeppncippknaaGreatDoorRWord
import Derived.Test.YtcaeppncippknaaGreatDoorText0
namespace Go.Proofs.YtcaeppncippknaaGreatDoor
open Go Go.RowKit

def dgV : Option Nat → Int
  | some x => (x : Nat)
  | none => -1
theorem hexv_none : ∀ c : Fin 256, (∀ j : Fin 16, (hexd j.val).toNat ≠ c.val) → hexv (UInt8.ofNat c.val) = none := by decide +kernel
theorem index_hex64 (w : World) : ∀ m : Nat, m < 16 → (Instr.index 9 (.string ⟨#[48, 49, 50, 51, 52, 53, 54, 55, 56, 57, 97, 98, 99, 100, 101, 102]⟩) (.int .i64 (m : Nat))).run Tryz.prog w = .ok (.int .u8 ((hexd m).toNat : Nat)) w
  | 0, _ => by kernel_rfl
  | 1, _ => by kernel_rfl
  | 2, _ => by kernel_rfl
  | 3, _ => by kernel_rfl
  | 4, _ => by kernel_rfl
  | 5, _ => by kernel_rfl
  | 6, _ => by kernel_rfl
  | 7, _ => by kernel_rfl
  | 8, _ => by kernel_rfl
  | 9, _ => by kernel_rfl
  | 10, _ => by kernel_rfl
  | 11, _ => by kernel_rfl
  | 12, _ => by kernel_rfl
  | 13, _ => by kernel_rfl
  | 14, _ => by kernel_rfl
  | 15, _ => by kernel_rfl
  | m + 16, h => absurd h (by omega)

set_option maxRecDepth 100000 in
theorem digit_calls (c : UInt8) (w : World) : Calls Tryz.prog 32 #[.int .u8 (c.toNat : Nat)] w fun e w' => e = .returned (.int .i64 (dgV (hexv c))) ∧ w = w' := by
  obtain ⟨n, hn⟩ : ∃ n, n = c.toNat := ⟨_, rfl⟩
  rw [← hn]
  have HN := Lib.hid hn
  clear hn
  go_enter Tryz.func32, Tryz.ntmps32
  go_wp2_with fail
  go_loopw [3] (fun i wr => ∃ k : Nat, k ≤ 16 ∧ i = .int .i64 k ∧ w = wr ∧ Hid (∀ j, j < k → (hexd j).toNat ≠ n)) (fun i _ => 16 - (intOf i).toNat)
  case atStart => exact ⟨0, by omega, rfl, rfl, fun j hj => by omega⟩
  case round =>
    obtain ⟨k, hk, rfl, rfl, HJ⟩ := hrel
    by_cases hlt : k < 16
    · have hs := fun w => index_hex64 w k hlt
      obtain ⟨m, hm⟩ : ∃ m, m = (hexd k).toNat := ⟨_, rfl⟩
      have HM := Lib.hid hm
      rw [← hm] at hs
      clear hm
      by_cases hq : m = n
      · subst hq
        have HV : Hid (dgV (hexv c) = (k : Int)) := by
          show _ = _
          have e : c = hexd k := UInt8.toNat_inj.1 (HN.out.symm.trans HM.out)
          rw [e, hexv_hexd ⟨k, hlt⟩]
          rfl
        go_wp2_with fail
        go_ret
        exact ⟨by rw [HV.out]; rfl, rfl⟩
      · go_wp2_with fail
        go_roundw
        case rel =>
          refine ⟨k + 1, by omega, by go_num, trivial, ?_⟩
          show ∀ j, j < k + 1 → (hexd j).toNat ≠ n
          intro j hj
          by_cases e : j = k
          · subst e; rw [← HM.out]; exact hq
          · exact HJ.out j (by omega)
        case measure => simp [intOf]; omega
    · have HV : Hid (dgV (hexv c) = -1) := by
        show _ = _
        have h := hexv_none ⟨c.toNat, c.toNat_lt⟩ (fun j e => HJ.out j.val (by omega) (by rw [e, HN.out]))
        have e : UInt8.ofNat c.toNat = c := by simp
        rw [e] at h
        rw [h]
        rfl
      go_wp2_with fail
      go_ret
      exact ⟨by rw [HV.out]; rfl, rfl⟩
end Go.Proofs.YtcaeppncippknaaGreatDoor
