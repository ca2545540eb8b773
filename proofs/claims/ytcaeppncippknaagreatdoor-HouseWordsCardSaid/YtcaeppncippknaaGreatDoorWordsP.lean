/- A line's words in plain: words that are joined by blanks are found again. Conditions: none. -/
import Derived.Test.YtcaeppncippknaaGreatDoorText0
import Derived.Test.YtcaeppncippknaaGreatDoorNumP
import Derived.Lib.Join
namespace Go.Proofs.YtcaeppncippknaaGreatDoor
open Go

theorem splitOn_no {c : UInt8} : ∀ {a : List UInt8}, c ∉ a → splitOn c a = [a]
  | [], _ => rfl
  | x :: r, h => by
    have h1 : ¬ x = c := fun e => h (by simp [e])
    have h2 : c ∉ r := fun e => h (by simp [e])
    rw [splitOn, if_neg h1, splitOn_no h2]
theorem splitOn_app (c : UInt8) : ∀ a b : List UInt8, splitOn c (a ++ c :: b) = splitOn c a ++ splitOn c b
  | [], b => by
    simp [splitOn]
  | x :: r, b => by
    have ih := splitOn_app c r b
    have hne := splitOn_ne c r
    by_cases hx : x = c
    · subst hx
      simp [splitOn, ih]
    · cases h : splitOn c r with
      | nil => exact absurd h hne
      | cons p ps =>
        rw [h] at ih
        simp [splitOn, hx, ih, h]
/-- A line's words. -/
def wordsP (l : List UInt8) : List (List UInt8) := (splitOn 32 l).filter fun w => !w.isEmpty
/-- What a word may be. -/
def IsWd (x : List UInt8) : Prop := x ≠ [] ∧ 32 ∉ x
theorem wordsP_app (a b : List UInt8) : wordsP (a ++ 32 :: b) = wordsP a ++ wordsP b := by
  unfold wordsP; rw [splitOn_app, List.filter_append]
theorem wordsP_nil : wordsP [] = [] := rfl
theorem wordsP_blank (b : List UInt8) : wordsP (32 :: b) = wordsP b := by
  have := wordsP_app [] b
  rwa [List.nil_append, wordsP_nil, List.nil_append] at this
theorem wordsP_one {x : List UInt8} (h : IsWd x) : wordsP x = [x] := by
  unfold wordsP
  rw [splitOn_no h.2]
  have : x.isEmpty = false := by simpa using h.1
  simp [this]
theorem wordsP_tail : ∀ (r : List (List UInt8)) (x : List UInt8), wordsP (x ++ Lib.joinTail [32] r) = wordsP x ++ r.flatMap wordsP
  | [], x => by simp [Lib.joinTail]
  | y :: r, x => by
    have e : Lib.joinTail [32] (y :: r) = 32 :: (y ++ Lib.joinTail [32] r) := by simp [Lib.joinTail]
    rw [e, wordsP_app, wordsP_tail r y, List.flatMap_cons]
theorem flatMap_words : ∀ {l : List (List UInt8)}, (∀ x ∈ l, IsWd x) → l.flatMap wordsP = l
  | [], _ => rfl
  | x :: r, h => by
    rw [List.flatMap_cons, wordsP_one (h x (by simp)), flatMap_words fun y hy => h y (by simp [hy])]; rfl
theorem wordsP_join {l : List (List UInt8)} (h : ∀ x ∈ l, IsWd x) : wordsP (Lib.join l [32]) = l := by
  cases l with
  | nil => rfl
  | cons x r =>
    rw [Lib.join_cons, wordsP_tail, wordsP_one (h x (by simp)), flatMap_words fun y hy => h y (by simp [hy])]; rfl
theorem wordsP_pre : ∀ (k : Nat) (b : List UInt8), wordsP (List.replicate k 32 ++ b) = wordsP b
  | 0, b => rfl
  | k + 1, b => by rw [List.replicate_succ, List.cons_append, wordsP_blank, wordsP_pre k b]
theorem wordsP_post (a : List UInt8) : ∀ k : Nat, wordsP (a ++ List.replicate k 32) = wordsP a
  | 0 => by simp
  | k + 1 => by
    have h := wordsP_pre k []
    rw [List.append_nil] at h
    rw [List.replicate_succ, wordsP_app, h, wordsP_nil, List.append_nil]
theorem wordsP_length (l : List UInt8) : (wordsP l).length ≤ l.length + 1 := by
  have h1 : (wordsP l).length ≤ (splitOn 32 l).length := List.length_filter_le _ _
  have h2 := splitOn_length 32 l
  omega
theorem wordsP_mem {l x : List UInt8} (h : x ∈ wordsP l) : x.length ≤ l.length := splitOn_part 32 l x (List.mem_filter.1 h).1
theorem wordsP_ne {l x : List UInt8} (h : x ∈ wordsP l) : x ≠ [] := by
  have := (List.mem_filter.1 h).2
  intro e; subst e; simp at this
theorem esc_wd (d : Bool) (c : UInt8) : ∀ x ∈ esc d c, 32 < x.toNat := by
  unfold esc
  have hh : ∀ n : Fin 16, 32 < (hexd n.val).toNat := by decide
  have hlt := c.toNat_lt
  split
  · rename_i h
    intro x hx
    simp only [List.mem_cons, List.not_mem_nil, or_false] at hx
    subst hx
    simp only [plainB, Bool.and_eq_true, decide_eq_true_eq] at h
    exact h.1.1.1
  · intro x hx
    simp only [List.mem_cons, List.not_mem_nil, or_false] at hx
    rcases hx with rfl | rfl | rfl
    · decide
    · exact hh ⟨c.toNat / 16, by omega⟩
    · exact hh ⟨c.toNat % 16, by omega⟩
theorem hWord_bytes (l : List UInt8) : ∀ x ∈ hWord l, 32 < x.toNat := by
  unfold hWord
  split
  · intro x hx
    simp only [List.mem_cons, List.not_mem_nil, or_false] at hx
    subst hx; decide
  · intro x hx
    obtain ⟨c, _, hc⟩ := List.mem_flatMap.1 hx
    exact esc_wd _ c x hc
theorem hWord_ne (l : List UInt8) : hWord l ≠ [] := by
  unfold hWord
  split
  · simp
  · rename_i h
    have := flat_pos (l == [45]) l
    intro e
    rw [e] at this
    cases l with
    | nil => simp at h
    | cons a b => simp at this
theorem isWd_hWord (l : List UInt8) : IsWd (hWord l) := ⟨hWord_ne l, fun h => absurd (hWord_bytes l _ h) (by decide)⟩
theorem isWd_dec (u : Nat) : IsWd (Lib.decDigits u) := ⟨decDigits_ne u, fun h => by have := (decDigits_all u _ h).1; revert this; decide⟩
theorem isWd_itoa (n : Int) : IsWd (Lib.itoa n) := by
  unfold Lib.itoa
  split
  · refine ⟨by simp, fun h => ?_⟩
    rcases List.mem_cons.1 h with h | h
    · exact absurd h (by decide)
    · exact (isWd_dec _).2 h
  · exact isWd_dec _
end Go.Proofs.YtcaeppncippknaaGreatDoor
