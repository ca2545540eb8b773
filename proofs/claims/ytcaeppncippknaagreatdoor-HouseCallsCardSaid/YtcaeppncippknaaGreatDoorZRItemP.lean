/- What hoardref31.item reads, in plain: exactly the items that Told writes. Conditions: none. -/
import Derived.Test.YtcaeppncippknaaGreatDoorZTakeA
import Derived.Test.YtcaeppncippknaaGreatDoorZAnsP
namespace Go.Proofs.YtcaeppncippknaaGreatDoor
open Go

def w_live : List UInt8 := [108, 105, 118, 101]
def m64 : Nat := 18446744073709551615
theorem dec_not48 {v : Nat} (h : 0 < v) : Lib.decDigits v ≠ [48] := fun e => dec_head v h (by rw [e]; rfl)
theorem iP_itoa {n : Int} (h : -9223372036854775808 ≤ n ∧ n ≤ 9223372036854775807) : iP (Lib.itoa n) = some n := by
  by_cases hn : n < 0
  · have e : Lib.itoa n = 45 :: Lib.decDigits n.natAbs := by unfold Lib.itoa; rw [if_pos hn]
    rw [e]
    unfold iP
    have h0 : ¬ (Lib.decDigits n.natAbs = [] ∨ Lib.decDigits n.natAbs = [48]) := by
      rintro (h1 | h1)
      · exact decDigits_ne _ h1
      · exact dec_not48 (by omega) h1
    have hu := uP_dec (most := 9223372036854775808) (v := n.natAbs) (by omega) (by omega)
    show (if _ then none else Option.map _ _) = _
    rw [if_neg h0, hu]
    show some (-(n.natAbs : Int)) = _
    congr 1; omega
  · have e : Lib.itoa n = Lib.decDigits n.toNat := by unfold Lib.itoa; rw [if_neg hn]
    have hh : (Lib.decDigits n.toNat).head? ≠ some 45 := by
      intro h1
      have h2 := decDigits_all n.toNat 45 (List.mem_of_mem_head? h1)
      revert h2; decide
    rw [e, iP_other hh, uP_dec (most := 9223372036854775807) (by omega) (by omega)]
    show some ((n.toNat : Nat) : Int) = _
    congr 1; omega
theorem iP_range {W : List UInt8} {v : Int} (hw : W ≠ []) (h : iP W = some v) : -9223372036854775808 ≤ v ∧ v ≤ 9223372036854775807 := by
  by_cases h45 : W.head? = some 45
  · cases W with
    | nil => exact absurd rfl hw
    | cons c y =>
      obtain rfl : c = 45 := by simpa using h45
      have h2 : (if y = [] ∨ y = [48] then none else Option.map (fun v : Nat => -(v : Int)) (uP 9223372036854775808 y)) = some v := h
      split at h2
      · cases h2
      · rename_i hy
        rw [Option.map_eq_some_iff] at h2
        obtain ⟨u, h3, rfl⟩ := h2
        have := (uP_some (fun e => hy (.inl e)) h3).2
        omega
  · rw [iP_other h45, Option.map_eq_some_iff] at h
    obtain ⟨u, h3, rfl⟩ := h
    have := (uP_some hw h3).2
    omega
theorem tiV_range {l : List (List UInt8)} {bad : Bool} (hl : ∀ x ∈ l, x ≠ []) : -9223372036854775808 ≤ tiV l bad ∧ tiV l bad ≤ 9223372036854775807 := by
  unfold tiV tiO
  cases hb : nextB l bad with
  | true => simp
  | false =>
    simp only [Bool.false_eq_true, if_false]
    cases h : iP (nextW l bad) with
    | none => simp
    | some v => exact iP_range (hl _ (nextW_mem hb)) h

/-- The item that a line is, and whether it is one. -/
def itR (l1 : List (List UInt8)) (b1 : Bool) : AItem × Bool :=
  let l2 := nextL l1 b1
  let b2 := rtxB l1 b1
  let l3 := nextL l2 b2
  let b3 := unB m64 l2 b2
  let l4 := tiL l3 b3
  let b4 := tiB l3 b3
  (⟨textV l1 b1, unV m64 l2 b2, tiV l3 b3, nextW l4 b4 == w_gone⟩, !nextB l4 b4 && (nextL l4 b4).isEmpty && (nextW l4 b4 == w_gone || nextW l4 b4 == w_live))
def itP (line : List UInt8) : AItem × Bool :=
  if nextW (wordsP line) false = w_item then itR (nextL (wordsP line) false) (nextB (wordsP line) false) else (⟨[], 0, 0, false⟩, false)
theorem un_dec {most n : Nat} (h : n ≤ most) (hm : most < 18446744073709551616) (r : List (List UInt8)) : unV most (Lib.decDigits n :: r) false = n ∧ unB most (Lib.decDigits n :: r) false = false :=
  un_some (show unO most (Lib.decDigits n :: r) false = some n from uP_dec h hm)
theorem ti_itoa {n : Int} (h : -9223372036854775808 ≤ n ∧ n ≤ 9223372036854775807) (r : List (List UInt8)) : tiV (Lib.itoa n :: r) false = n ∧ tiB (Lib.itoa n :: r) false = false ∧ tiL (Lib.itoa n :: r) false = r := by
  have h1 := ti_some (show tiO (Lib.itoa n :: r) false = some n from iP_itoa h)
  refine ⟨h1.1, h1.2, ?_⟩
  unfold tiL
  rw [if_neg]
  · rfl
  · have h2 := iP_itoa h
    rintro ⟨_, h3 | h3⟩
    · rw [show Lib.itoa n = [45] from Option.some.inj h3] at h2
      cases h2
    · rw [show Lib.itoa n = [45, 48] from Option.some.inj h3] at h2
      cases h2
theorem tx_word (t : List UInt8) (r : List (List UInt8)) : textV (hWord t :: r) false = t ∧ rtxB (hWord t :: r) false = false := by
  refine ⟨textV_word t r, ?_⟩
  show (false || !(hText (hWord t)).isSome) = false
  rw [hText_word]; rfl
theorem itR_item {x : AItem} (h : x.Wf) : itR [hWord x.name, Lib.decDigits x.n, Lib.itoa x.len, stW x.gone] false = (x, true) := by
  have h1 := tx_word x.name [Lib.decDigits x.n, Lib.itoa x.len, stW x.gone]
  have h2 := un_dec (most := m64) (n := x.n) (by have := h.n; unfold m64; omega) (by unfold m64; omega) [Lib.itoa x.len, stW x.gone]
  have h3 := ti_itoa h.len [stW x.gone]
  unfold itR
  simp only [h1.1, h1.2]
  show ((⟨x.name, unV m64 (Lib.decDigits x.n :: [Lib.itoa x.len, stW x.gone]) false, _, _⟩ : AItem), _) = _
  rw [h2.1]
  simp only [show nextL [hWord x.name, Lib.decDigits x.n, Lib.itoa x.len, stW x.gone] false = Lib.decDigits x.n :: [Lib.itoa x.len, stW x.gone] from rfl, h2.2, show nextL (Lib.decDigits x.n :: [Lib.itoa x.len, stW x.gone]) false = Lib.itoa x.len :: [stW x.gone] from rfl, h3.1, h3.2.1, h3.2.2]
  cases x with
  | mk a b c g => cases g <;> rfl
theorem itP_item {x : AItem} (h : x.Wf) : itP (itemL x) = (x, true) := by
  unfold itP
  rw [words_item]
  show (if w_item = w_item then _ else _) = _
  rw [if_pos rfl]
  exact itR_item h
theorem itR_wf {l1 : List (List UInt8)} {b1 : Bool} (h : ∀ x ∈ l1, x ≠ [] ∧ x.length ≤ 1048576) : (itR l1 b1).1.Wf := by
  have hs2 : ∀ x ∈ nextL l1 b1, x ≠ [] := fun x hx => (h x (nextL_sub.1 x hx)).1
  refine ⟨textV_length (fun x hx => (h x hx).2) b1, ?_, tiV_range fun x hx => hs2 x (nextL_sub.1 x hx)⟩
  have := unV_le (most := m64) (bad := rtxB l1 b1) hs2
  show unV m64 (nextL l1 b1) (rtxB l1 b1) < _
  unfold m64 at this ⊢
  omega
theorem words_ok (l : List UInt8) : ∀ x ∈ wordsP l, x ≠ [] ∧ x.length ≤ l.length := by
  intro x hx
  unfold wordsP at hx
  obtain ⟨h1, h2⟩ := List.mem_filter.1 hx
  refine ⟨?_, splitOn_part 32 l x h1⟩
  intro e
  subst e
  cases h2
theorem itP_wf {line : List UInt8} (h : line.length ≤ 1048576) : (itP line).1.Wf := by
  unfold itP
  split
  · exact itR_wf fun x hx => by
      have := words_ok line x (nextL_sub.1 x hx)
      exact ⟨this.1, by omega⟩
  · exact ⟨Nat.zero_le _, by decide, by decide⟩
end Go.Proofs.YtcaeppncippknaaGreatDoor
