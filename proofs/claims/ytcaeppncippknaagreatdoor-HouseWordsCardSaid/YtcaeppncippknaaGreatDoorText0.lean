/- Texts out of words, as functions on lists of bytes, and the laws that tie them: a word is read back. Conditions: none. -/
import Derived.Test.YtcaeppncippknaaGreatDoorSpec
import Derived.Lib.Split
import Derived.Lib.SplitLaws
import Derived.Lib.CountLaws
namespace Go.Proofs.YtcaeppncippknaaGreatDoor

/-- A list, cut at a byte. -/
def splitOn (c : UInt8) : List UInt8 → List (List UInt8)
  | [] => [[]]
  | x :: r => if x = c then [] :: splitOn c r else match splitOn c r with
    | [] => [[x]]
    | p :: ps => (x :: p) :: ps
theorem splitOn_ne (c : UInt8) : ∀ l, splitOn c l ≠ []
  | [] => by simp [splitOn]
  | x :: r => by
    unfold splitOn
    split
    · simp
    · split <;> simp
theorem splitOn_length (c : UInt8) : ∀ l, (splitOn c l).length ≤ l.length + 1
  | [] => by simp [splitOn]
  | x :: r => by
    have := splitOn_length c r
    unfold splitOn
    split
    · simp; omega
    · split
      · simp
      · rename_i h; rw [h] at this; simp at this ⊢; omega
theorem splitOn_part (c : UInt8) : ∀ l, ∀ p ∈ splitOn c l, p.length ≤ l.length
  | [] => by simp [splitOn]
  | x :: r => by
    have := splitOn_part c r
    unfold splitOn
    split
    · intro p hp
      simp only [List.mem_cons] at hp
      rcases hp with rfl | hp
      · simp
      · have := this p hp; simp; omega
    · split
      · intro p hp; simp at hp; subst hp; simp
      · rename_i q qs h
        rw [h] at this
        intro p hp
        simp only [List.mem_cons] at hp this
        rcases hp with rfl | hp
        · have := this q (.inl rfl); simp; omega
        · have := this p (.inr hp); simp; omega
theorem index_cons_ne {x c : UInt8} (h : x ≠ c) (l : List UInt8) : Lib.index (x :: l) [c] = if Lib.index l [c] == -1 then -1 else Lib.index l [c] + 1 := by
  have hp : ([c] : List UInt8).isPrefixOf (x :: l) = false := by simp [List.isPrefixOf, Ne.symm h]
  rw [Lib.index, hp]; simp
theorem splitK_one (c : UInt8) : ∀ l, Lib.splitK [c] 0 (Lib.count l [c]) l = splitOn c l
  | [] => by
    have : Lib.index ([] : List UInt8) [c] = -1 := by simp [Lib.index]
    rw [Lib.count_miss this]; rfl
  | x :: r => by
    have ih := splitK_one c r
    by_cases h : x = c
    · subst h
      have hix : Lib.index (x :: r) [x] = 0 := by rw [Lib.index]; simp [List.isPrefixOf]
      rw [Lib.count_cons_eq, Nat.add_comm]
      unfold Lib.splitK splitOn
      rw [hix]
      simp [ih]
    · rw [Lib.count_cons_ne x c r h]
      unfold splitOn
      rw [if_neg h, ← ih]
      have hix := index_cons_ne h r
      by_cases hm : Lib.index r [c] = -1
      · rw [Lib.count_miss hm]; rfl
      · have hge := Lib.index_ge r [c]
        obtain ⟨j, hj⟩ : ∃ j : Nat, Lib.index r [c] = j := ⟨(Lib.index r [c]).toNat, by omega⟩
        have hix' : Lib.index (x :: r) [c] = ((j + 1 : Nat) : Int) := by rw [hix, if_neg (fun e => hm (beq_iff_eq.1 e)), hj]; omega
        rw [Lib.count_hit (by simp) hj, Nat.add_comm]
        simp only [Lib.splitK]
        rw [hix', hj]
        have e1 : (((j + 1 : Nat) : Int) == -1) = false := by rw [beq_eq_false_iff_ne]; omega
        have e2 : ((j : Int) == -1) = false := by rw [beq_eq_false_iff_ne]; omega
        rw [e1, e2]
        simp

/-- The value of a digit of sixteen, small letters alone. -/
def hexv (c : UInt8) : Option Nat := if 48 ≤ c.toNat ∧ c.toNat ≤ 57 then some (c.toNat - 48) else if 97 ≤ c.toNat ∧ c.toNat ≤ 102 then some (c.toNat - 87) else none
/-- A word's bytes, where it is one. -/
def dec : List UInt8 → Option (List UInt8)
  | [] => some []
  | 37 :: a :: b :: r => (hexv a).bind fun x => (hexv b).bind fun y => (dec r).map (UInt8.ofNat (16 * x + y) :: ·)
  | c :: r => if c = 37 then none else (dec r).map (c :: ·)
/-- The text that a word is: none, where it is no word. -/
def hText (w : List UInt8) : Option (List UInt8) := (if w = [45] then some [] else dec w).bind fun s => if hWord s = w then some s else none

theorem hexv_hexd : ∀ n : Fin 16, hexv (hexd n.val) = some n.val := by decide
theorem hexd_ne : ∀ n : Fin 16, hexd n.val ≠ 37 := by decide
theorem ofNat_parts (c : UInt8) : UInt8.ofNat (16 * (c.toNat / 16) + c.toNat % 16) = c := by
  rw [Nat.div_add_mod]; simp
theorem dec_esc (d : Bool) (c : UInt8) (r : List UInt8) : dec (esc d c ++ r) = (dec r).map (c :: ·) := by
  unfold esc
  by_cases h : plainB d c = true
  · rw [if_pos h]
    have hc : c ≠ 37 := by
      simp only [plainB, Bool.and_eq_true, decide_eq_true_eq, Bool.not_eq_true', beq_eq_false_iff_ne, ne_eq] at h
      exact h.1.2
    show dec (c :: r) = _
    rw [dec]
    · rw [if_neg hc]
    · intro a b r' h1 _; exact hc h1
  · rw [if_neg h]
    have hlt := c.toNat_lt
    have h1 := hexv_hexd ⟨c.toNat / 16, by omega⟩
    have h2 := hexv_hexd ⟨c.toNat % 16, by omega⟩
    show dec (37 :: hexd (c.toNat / 16) :: hexd (c.toNat % 16) :: r) = _
    rw [dec, h1, h2]
    simp only [Option.bind_some, ofNat_parts]
theorem dec_flat (d : Bool) : ∀ s : List UInt8, dec (s.flatMap (esc d)) = some s
  | [] => rfl
  | c :: r => by
    rw [List.flatMap_cons, dec_esc, dec_flat d r]; rfl
theorem esc_pos (d : Bool) (c : UInt8) : 1 ≤ (esc d c).length := by unfold esc; split <;> simp
theorem flat_pos (d : Bool) : ∀ l : List UInt8, l.length ≤ (l.flatMap (esc d)).length
  | [] => by simp
  | c :: r => by
    have := esc_pos d c; have := flat_pos d r
    rw [List.flatMap_cons, List.length_append, List.length_cons]; omega
theorem hWord_dash {s : List UInt8} (h : hWord s = [45]) : s = [] := by
  cases s with
  | nil => rfl
  | cons c r =>
    exfalso
    unfold hWord at h
    simp only [List.isEmpty_cons, Bool.false_eq_true, if_false] at h
    have hl := flat_pos ((c :: r) == [45]) (c :: r)
    rw [h] at hl
    have hr : r = [] := by cases r with | nil => rfl | cons a b => simp at hl
    subst hr
    rw [List.flatMap_cons, List.flatMap_nil, List.append_nil] at h
    unfold esc at h
    split at h
    · rename_i hp
      simp only [List.cons.injEq, and_true] at h
      subst h
      revert hp; decide
    · simp at h
theorem hText_word (s : List UInt8) : hText (hWord s) = some s := by
  unfold hText
  by_cases hs : s = []
  · subst hs; rfl
  · have hd : hWord s ≠ [45] := fun h => hs (hWord_dash h)
    rw [if_neg hd]
    have : dec (hWord s) = some s := by
      unfold hWord
      have : s.isEmpty = false := by simpa using hs
      rw [this]
      exact dec_flat _ s
    rw [this]
    simp
theorem hText_eq {w s : List UInt8} (h : hText w = some s) : hWord s = w := by
  unfold hText at h
  rw [Option.bind_eq_some_iff] at h
  obtain ⟨x, _, h⟩ := h
  split at h
  · obtain rfl := Option.some.inj h; assumption
  · cases h
theorem hText_none {w : List UInt8} (h : ∀ s, hWord s ≠ w) : hText w = none := by
  cases e : hText w with
  | none => rfl
  | some s => exact absurd (hText_eq e) (h s)
theorem hWord_inj {a b : List UInt8} (h : hWord a = hWord b) : a = b := by
  have := hText_word a
  rw [h, hText_word] at this
  exact (Option.some.inj this).symm

/-! What house.Text does, part by part. -/
/-- A digit of sixteen as strconv takes it. -/
def hexvA (c : UInt8) : Option Nat := if 48 ≤ c.toNat ∧ c.toNat ≤ 57 then some (c.toNat - 48) else if 97 ≤ c.toNat ∧ c.toNat ≤ 102 then some (c.toNat - 87) else if 65 ≤ c.toNat ∧ c.toNat ≤ 70 then some (c.toNat - 55) else none
def px (a b : UInt8) : Option Nat := (hexvA a).bind fun x => (hexvA b).map fun y => 16 * x + y
def partD (i : Nat) (p : List UInt8) : Option (List UInt8) := if 0 < i ∧ 2 ≤ p.length then (px (p.getD 0 0) (p.getD 1 0)).map fun v => UInt8.ofNat v :: p.drop 2 else some p
def preD (l : List (List UInt8)) : Nat → Option (List UInt8)
  | 0 => some []
  | k + 1 => (preD l k).bind fun a => (partD k (l.getD k [])).map (a ++ ·)
def restD : List (List UInt8) → Option (List UInt8)
  | [] => some []
  | p :: ps => (partD 1 p).bind fun a => (restD ps).map (a ++ ·)
theorem partD_pos {i : Nat} (h : 0 < i) (p : List UInt8) : partD i p = partD 1 p := by unfold partD; simp [h]
theorem restD_snoc : ∀ (l : List (List UInt8)) (p : List UInt8), restD (l ++ [p]) = (restD l).bind fun a => (partD 1 p).map (a ++ ·)
  | [], p => by cases h : partD 1 p <;> simp [restD, h]
  | q :: l, p => by
    rw [List.cons_append, restD, restD_snoc l p, restD]
    cases partD 1 q <;> cases restD l <;> cases partD 1 p <;> simp
theorem preD_rest (p0 : List UInt8) (ps : List (List UInt8)) : ∀ k, k ≤ ps.length → preD (p0 :: ps) (k + 1) = (restD (ps.take k)).map (p0 ++ ·)
  | 0, _ => by simp [preD, restD, partD]
  | k + 1, hk => by
    rw [preD, preD_rest p0 ps k (by omega), List.take_succ_eq_append_getElem (by omega), restD_snoc]
    have e1 : (p0 :: ps).getD (k + 1) [] = ps[k] := by
      rw [List.getD_cons_succ, List.getD, List.getElem?_eq_getElem (by omega)]; rfl
    rw [e1, partD_pos (by omega)]
    cases restD (ps.take k) <;> cases partD 1 ps[k] <;> simp
theorem px_hexd : ∀ a b : Fin 16, px (hexd a.val) (hexd b.val) = some (16 * a.val + b.val) := by decide
theorem split_flat (d : Bool) : ∀ s : List UInt8, ∃ p0 ps, splitOn 37 (s.flatMap (esc d)) = p0 :: ps ∧ (restD ps).map (p0 ++ ·) = some s
  | [] => ⟨[], [], rfl, rfl⟩
  | c :: r => by
    obtain ⟨p0, ps, h1, h2⟩ := split_flat d r
    rw [List.flatMap_cons]
    unfold esc
    by_cases h : plainB d c = true
    · rw [if_pos h]
      have hc : c ≠ 37 := by
        simp only [plainB, Bool.and_eq_true, decide_eq_true_eq, Bool.not_eq_true', beq_eq_false_iff_ne, ne_eq] at h
        exact h.1.2
      refine ⟨c :: p0, ps, ?_, ?_⟩
      · show splitOn 37 (c :: r.flatMap (esc d)) = _
        rw [splitOn, if_neg hc, h1]
      · rw [Option.map_eq_some_iff] at h2 ⊢
        obtain ⟨a, h3, h4⟩ := h2
        exact ⟨a, h3, by rw [← h4]; rfl⟩
    · rw [if_neg h]
      have hlt := c.toNat_lt
      have n1 := hexd_ne ⟨c.toNat / 16, by omega⟩
      have n2 := hexd_ne ⟨c.toNat % 16, by omega⟩
      have hp := px_hexd ⟨c.toNat / 16, by omega⟩ ⟨c.toNat % 16, by omega⟩
      refine ⟨[], (hexd (c.toNat / 16) :: hexd (c.toNat % 16) :: p0) :: ps, ?_, ?_⟩
      · show splitOn 37 (37 :: hexd (c.toNat / 16) :: hexd (c.toNat % 16) :: r.flatMap (esc d)) = _
        rw [splitOn, if_pos rfl, splitOn, if_neg n1, splitOn, if_neg n2, h1]
      · rw [Option.map_eq_some_iff] at h2
        obtain ⟨a, h3, h4⟩ := h2
        simp only [restD, partD]
        rw [if_pos ⟨by omega, by simp⟩]
        simp only [List.getD_cons_zero, List.getD_cons_succ]
        simp only at hp
        rw [hp, h3]
        simp only [Option.map_some, Option.bind_some, List.drop_succ_cons, List.drop_zero, ofNat_parts]
        rw [← h4]; rfl
/-- What the loop gathers of a word that is one. -/
theorem preD_word (s : List UInt8) (h : s ≠ []) : preD (splitOn 37 (hWord s)) (splitOn 37 (hWord s)).length = some s := by
  have he : s.isEmpty = false := by simpa using h
  unfold hWord
  rw [he]
  simp only [Bool.false_eq_true, if_false]
  obtain ⟨p0, ps, h1, h2⟩ := split_flat (s == [45]) s
  rw [h1, List.length_cons, preD_rest p0 ps _ (Nat.le_refl _), List.take_length]
  exact h2
theorem preD_none {l : List (List UInt8)} {k : Nat} (h : preD l k = none) : ∀ m, k ≤ m → preD l m = none
  | m, hm => by
    induction m with
    | zero => obtain rfl : k = 0 := by omega
              exact h
    | succ m ih =>
      by_cases e : k = m + 1
      · subst e; exact h
      · rw [preD, ih (by omega)]; rfl
end Go.Proofs.YtcaeppncippknaaGreatDoor
