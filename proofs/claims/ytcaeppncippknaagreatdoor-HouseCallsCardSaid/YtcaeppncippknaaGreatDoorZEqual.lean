/- slices.Equal at texts. Conditions: fewer than 2^40 texts. -/
import Derived.Test.YtcaeppncippknaaGreatDoorZSame
import Derived.Test.YtcaeppncippknaaGreatDoorZShelf
namespace Go.Proofs.YtcaeppncippknaaGreatDoor
open Go Go.RowKit

theorem map_bs_inj {l1 l2 : List (List UInt8)} (h : l1.map bs = l2.map bs) : l1 = l2 := by
  have := congrArg (fun l : List ByteArray => l.map (·.data.toList)) h
  simp only [List.map_map] at this
  have e : ∀ l : List (List UInt8), l.map ((fun x : ByteArray => x.data.toList) ∘ bs) = l := fun l => by
    conv => rhs; rw [← List.map_id l]
    exact List.map_congr_left fun x _ => bs_toList x
  rwa [e, e] at this
theorem equal_calls (b1 b2 : Nat) (v1 v2 : Value) (l1 l2 : List (List UInt8)) (w : World) (h1 : StrsIn w b1 v1 l1) (h2 : StrsIn w b2 v2 l2) (n1 : l1.length ≤ 1099511627776) (n2 : l2.length ≤ 1099511627776) :
    Calls Tryz.prog 52 #[v1, v2] w fun e w' => e = .returned (.bool (decide (l1 = l2))) ∧ Fr [] w w' := by
  obtain ⟨p1, c1, o1, rfl, k1⟩ := h1.form
  obtain ⟨p2, c2, o2, rfl, k2⟩ := h2.form
  by_cases hl : l1.length = l2.length
  · by_cases h0 : l1.length = 0
    · have e1 : l1 = [] := List.length_eq_zero_iff.1 h0
      have e2 : l2 = [] := List.length_eq_zero_iff.1 (by omega)
      subst e1; subst e2
      refine (Tryz.slices_Equal_string_empty p1 p2 c1 0 c2 w (by decide)).mono ?_
      rintro e w' ⟨rfl, rfl⟩
      exact ⟨by simp, Fr.refl _ _⟩
    · obtain ⟨rfl, _⟩ := k1 0 (by omega)
      obtain ⟨rfl, _⟩ := k2 0 (by omega)
      have cell : ∀ (b o : Nat) (l : List (List UInt8)), (∀ k (hk : k < l.length), w.cell? ⟨b, o + k, none⟩ = some (strV l[k])) → ∀ j, j < (l.map bs).length → w.cell? ⟨b, o + j, none⟩ = some (.string ((l.map bs).getD j ByteArray.empty)) := by
        intro b o l h j hj
        have hj2 : j < l.length := by simpa using hj
        rw [h j hj2]
        simp [List.getD, hj2, strV]
      refine (Tryz.slices_Equal_string b1 o1 l1.length c1 b2 o2 l2.length c2 (l1.map bs) (l2.map bs) w (by simp) (by simp) (by omega) (by omega) (cell b1 o1 l1 fun k hk => (k1 k hk).2) (cell b2 o2 l2 fun k hk => (k2 k hk).2)).mono ?_
      rintro e w' ⟨rfl, q, rfl⟩
      refine ⟨?_, (Fr.refl _ _).drewN q⟩
      rw [List.take_of_length_le (by simp), List.take_of_length_le (by simp)]
      congr 2
      rw [decide_eq_decide]
      exact ⟨map_bs_inj, fun h => by rw [h]⟩
  · refine (Tryz.slices_Equal_string_lens p1 p2 l1.length c1 l2.length c2 w hl).mono ?_
    rintro e w' ⟨rfl, rfl⟩
    refine ⟨?_, Fr.refl _ _⟩
    have : l1 ≠ l2 := fun e => hl (by rw [e])
    simp [this]
end Go.Proofs.YtcaeppncippknaaGreatDoor
