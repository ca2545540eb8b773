/- hoardref31.Same: are two lists of texts the same? Conditions: fewer than 2^40 texts. -/
import Derived.Test.YtcaeppncippknaaGreatDoorZCoder
import Derived.Deep.QuietTactic
import Derived.BigQuiet
namespace Go.Proofs.YtcaeppncippknaaGreatDoor
open Go Go.RowKit

theorem StrsIn.form {w : World} {b : Nat} {v : Value} {l : List (List UInt8)} (h : StrsIn w b v l) : ∃ p c off, v = .slice p l.length c ∧ ∀ k (hk : k < l.length), p = some ⟨b, off, none⟩ ∧ w.cell? ⟨b, off + k, none⟩ = some (strV l[k]) := by
  rcases h with ⟨rfl, p, c, hv⟩ | ⟨off, cap, hv, _, hc⟩
  · exact ⟨p, c, 0, hv, fun k hk => absurd hk (by simp)⟩
  · exact ⟨_, cap, off, hv, fun k hk => ⟨rfl, hc k hk⟩⟩
theorem same_upto {l1 l2 : List (List UInt8)} {k : Nat} (hl : l1.length = l2.length) (hk : k < l1.length) (h : l1.take k = l2.take k) (he : l1[k] = l2[k]) : l1.take (k + 1) = l2.take (k + 1) := by
  rw [List.take_succ_eq_append_getElem hk, List.take_succ_eq_append_getElem (by omega), h, he]
theorem same_not {l1 l2 : List (List UInt8)} {k : Nat} (hl : l1.length = l2.length) (hk : k < l1.length) (he : l1[k] ≠ l2[k]) : l1 ≠ l2 := by
  intro e; subst e; exact he rfl

set_option maxHeartbeats 1000000 in
set_option maxRecDepth 100000 in
theorem same_calls (b1 b2 : Nat) (v1 v2 : Value) (l1 l2 : List (List UInt8)) (w : World) (h1 : StrsIn w b1 v1 l1) (h2 : StrsIn w b2 v2 l2) (n1 : l1.length ≤ 1099511627776) (_n2 : l2.length ≤ 1099511627776) :
    Calls Tryz.prog 23 #[v1, v2] w fun e w' => e = .returned (.bool (decide (l1 = l2))) ∧ Fr [] w w' := by
  obtain ⟨p1, c1, o1, rfl, k1⟩ := h1.form
  obtain ⟨p2, c2, o2, rfl, k2⟩ := h2.form
  by_cases hl : l1.length = l2.length
  · have HL := Lib.hid hl
    have hbn : ((l1.length : Int) != (l2.length : Int)) = false := by simp [hl]
    have K1 := Lib.hid k1
    have K2 := Lib.hid k2
    clear hl k1 k2 h1 h2
    go_enter Tryz.func23, Tryz.ntmps23
    go_wp2_with fail
    go_loopw [5] (fun i wr => ∃ k : Nat, k ≤ l1.length ∧ i = .int .i64 k ∧ Fr [] w wr ∧ Hid (l1.take k = l2.take k)) (fun i _ => l1.length - (intOf i).toNat)
    case atStart => exact ⟨0, Nat.zero_le _, rfl, Fr.refl _ _, by show _ = _; rfl⟩
    case round =>
      obtain ⟨k, hk, rfl, hfr, HK⟩ := hrel
      by_cases hlt : k < l1.length
      · have hlt2 : k < l2.length := by have := HL.out; omega
        obtain ⟨rfl, e1⟩ := K1.out k hlt
        obtain ⟨rfl, e2⟩ := K2.out k hlt2
        have q1 := hfr.cellAs e1 (by simp)
        have q2 := hfr.cellAs e2 (by simp)
        have HU := Lib.hid (same_upto HL.out hlt HK.out)
        have HNO := Lib.hid (same_not HL.out hlt)
        have i0 : (0 : Int) ≤ (k : Int) := by omega
        have i1 : (k : Int) < (l1.length : Int) := by omega
        have i2 : (k : Int) < (l2.length : Int) := by omega
        generalize l1[k] = x at *
        generalize l2[k] = y at *
        unfold strV at q1 q2
        clear e1 e2
        by_cases he : x = y
        · subst he
          have HF := Lib.hid hfr
          have HUU := Lib.hid (HU.out rfl)
          clear hfr HU HNO
          go_wp2_with fail
          go_quiet (fail)
          go_wp2_with fail
          go_roundw
          case rel => exact ⟨k + 1, by omega, by go_num, HF.out.drewN _, HUU.out⟩
          case measure => simp [intOf]; omega
        · have hb : (x == y) = false := by simpa using he
          have HNN := Lib.hid (HNO.out he)
          have HF := Lib.hid hfr
          clear he hfr HU HNO
          go_wp2_with fail
          go_quiet (fail)
          go_wp2_with fail
          go_ret
          exact ⟨by simp [HNN.out], HF.out.drewN _⟩
      · have hkl : k = l1.length := by omega
        have HE : Hid (l1 = l2) := by
          have h := HK.out
          rw [hkl, List.take_length, List.take_of_length_le (by have := HL.out; omega)] at h
          exact h
        clear hkl
        go_wp2_with fail
        go_ret
        exact ⟨by simp [HE.out], hfr⟩
  · have hbn : ((l1.length : Int) != (l2.length : Int)) = true := by simp; omega
    have HNE : Hid (l1 ≠ l2) := fun e => hl (by rw [e])
    clear hl k1 k2 h1 h2
    go_enter Tryz.func23, Tryz.ntmps23
    go_wp2_with fail
    go_ret
    exact ⟨by simp [HNE.out], Fr.refl _ _⟩
end Go.Proofs.YtcaeppncippknaaGreatDoor
