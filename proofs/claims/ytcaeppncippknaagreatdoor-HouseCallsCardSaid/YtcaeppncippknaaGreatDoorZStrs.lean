/- Slices of texts in memory: what an appended row holds; strings.Join and slices.Clone over it. Conditions: lengths below 2^40. -/
import Derived.Test.YtcaeppncippknaaGreatDoorZPut
import Derived.Test.YtcaeppncippknaaGreatDoorZShelf
import Derived.Lib.Join
import Derived.Laws.OwnMore
namespace Go.Proofs.YtcaeppncippknaaGreatDoor
open Go Go.RowKit

/-- A row of texts that a call owns, as a slice that holds them. -/
theorem strsIn_of_owns {w : World} {B : Nat} {v : Value} {l : List (List UInt8)} (h : w.ownsRow B 9 1 v l.length (l.map strV)) :
    (l = [] ∧ v = .slice none 0 0) ∨ ∃ g cap, B ≤ g ∧ g < w.heap.size ∧ l.length ≤ cap ∧ v = .slice (some ⟨g, 0, none⟩) l.length cap ∧ ∀ i (hi : i < l.length), w.cell? ⟨g, i, none⟩ = some (strV l[i]) := by
  have hh := h
  rcases h.2 with ⟨hv, h0⟩ | ⟨g, cap, cur, hv, hg, hh2, hn, hc, hs, ht⟩
  · exact .inl ⟨List.length_eq_zero_iff.1 h0, hv⟩
  · refine .inr ⟨g, cap, hg, lt_of_block hh2, hn, hv, fun i hi => ?_⟩
    subst hv
    rw [World.ownsRow.cellAt hh i (by omega)]
    simp [hi]
theorem strsIn_any {w : World} {B : Nat} {v : Value} {l : List (List UInt8)} (h : w.ownsRow B 9 1 v l.length (l.map strV)) : ∃ b, StrsIn w b v l := by
  rcases strsIn_of_owns h with ⟨h1, h2⟩ | ⟨g, cap, _, _, hn, hv, hc⟩
  · exact ⟨0, .inl ⟨h1, none, 0, h2⟩⟩
  · exact ⟨g, .inr ⟨0, cap, hv, hn, fun i hi => by rw [Nat.zero_add]; exact hc i hi⟩⟩
theorem owns_bs {w : World} {B : Nat} {v : Value} {n : Nat} {l : List (List UInt8)} (hn : n = l.length) (h : w.ownsRow B 9 1 v n (((l.map bs).take n).map Value.string)) : w.ownsRow B 9 1 v l.length (l.map strV) := by
  subst hn
  have e : ((l.map bs).take l.length).map Value.string = l.map strV := by
    rw [List.take_of_length_le (by simp), List.map_map]; rfl
  rwa [e] at h
theorem map_bs_back (l : List (List UInt8)) : (l.map bs).map (·.data.toList) = l := by
  rw [List.map_map]
  conv => rhs; rw [← List.map_id l]
  exact List.map_congr_left fun x _ => bs_toList x
theorem joinTail_bound {M : Nat} : ∀ {r : List (List UInt8)}, (∀ x ∈ r, x.length ≤ M) → (Lib.joinTail [32] r).length ≤ r.length * (M + 1)
  | [], _ => by simp [Lib.joinTail]
  | y :: r, h => by
    have h1 := joinTail_bound (r := r) fun x hx => h x (by simp [hx])
    have h2 := h y (by simp)
    have e : Lib.joinTail [32] (y :: r) = 32 :: (y ++ Lib.joinTail [32] r) := by simp [Lib.joinTail]
    rw [e, List.length_cons, List.length_append, List.length_cons, Nat.succ_mul]
    omega
theorem join_bound {M : Nat} {l : List (List UInt8)} (h : ∀ x ∈ l, x.length ≤ M) : (Lib.join l [32]).length ≤ l.length * (M + 1) := by
  cases l with
  | nil => simp [Lib.join_nil]
  | cons x r =>
    have h1 := joinTail_bound (r := r) fun y hy => h y (by simp [hy])
    have h2 := h x (by simp)
    rw [Lib.join_cons, List.length_append, List.length_cons, Nat.succ_mul]
    omega
/-- strings.Join at one blank. -/
theorem join_calls (l : List (List UInt8)) (g cap : Nat) (w : World) (hl : l.length ≤ 1048576) (hc : l.length ≤ cap) (hg : g < w.heap.size) (hw : ∀ x ∈ l, x.length ≤ 1048576) (hcell : ∀ i (hi : i < l.length), w.cell? ⟨g, i, none⟩ = some (strV l[i])) :
    Calls Tryz.prog 37 #[.slice (some ⟨g, 0, none⟩) l.length cap, .string (bs [32])] w fun e w' => e = .returned (.string (bs (Lib.join l [32]))) ∧ Fr [] w w' := by
  have hj := join_bound hw
  have e1 : (l.map bs).map (·.data.toList) = l := map_bs_back l
  have e2 : (bs [32]).data.toList = [32] := bs_toList _
  have e3 : (l.map bs).length = l.length := List.length_map _
  have hb : l.length * (1048576 + 1) ≤ 1048576 * (1048576 + 1) := Nat.mul_le_mul_right _ hl
  have h := Tryz.strings_Join g 0 cap (l.map bs) (bs [32]) w (fun j x hx => by
    rw [List.getElem?_map, Option.map_eq_some_iff] at hx
    obtain ⟨y, hy, rfl⟩ := hx
    obtain ⟨hj2, rfl⟩ := List.getElem?_eq_some_iff.1 hy
    rw [Nat.zero_add]
    exact hcell j hj2) hg (by rw [e3]; omega) (by rw [e3]; exact hc) (by rw [e1, e2]; omega)
  rw [e1, e2, e3] at h
  exact h.mono fun e w' ⟨h1, h2⟩ => ⟨h1, Fr.of_below h2⟩
/-- slices.Clone of a row that is not empty. -/
theorem clone_calls (l : List (List UInt8)) (g cap : Nat) (w : World) (hl : l.length ≤ 1048576) (hcell : ∀ i (hi : i < l.length), w.cell? ⟨g, i, none⟩ = some (strV l[i])) :
    Calls Tryz.prog 36 #[.slice (some ⟨g, 0, none⟩) l.length cap] w fun e w' => ∃ v, e = .returned v ∧ w'.ownsRow w.heap.size 9 1 v l.length (l.map strV) ∧ Fr [] w w' :=
  (Tryz.slices_Clone_string g 0 l.length cap (l.map bs) w (by simp) (by omega) (fun j hj => by
    have hj2 : j < l.length := by simpa using hj
    rw [Nat.zero_add, hcell j hj2]
    simp [List.getD, hj2, strV])).mono fun e w' ⟨v, h1, h2, _, h3⟩ => ⟨v, h1, owns_bs rfl h2, Fr.of_below h3⟩
end Go.Proofs.YtcaeppncippknaaGreatDoor
