/- What the layer's functions compute, as functions on lists of bytes: words. Conditions: none. -/
import Derived.WalkKit
import Derived.Lib.Split
import Derived.Lib.SplitLaws
import Derived.Lib.CountLaws
import Derived.Lib.ParseIntBTie
import Derived.Lib.ItoaNum
import Derived.Lib.AtoiAllCases
import Derived.Lib.Join
namespace Go.Proofs.YtcaeppncippknaaGreatDoor

def hexs : List UInt8 := [48, 49, 50, 51, 52, 53, 54, 55, 56, 57, 97, 98, 99, 100, 101, 102]
def hexd (n : Nat) : UInt8 := hexs.getD n 48
/-- Does a byte stand for itself? -/
def plainB (dash : Bool) (c : UInt8) : Bool := decide (32 < c.toNat) && decide (c.toNat < 127) && !(c == 37) && !dash
def esc (dash : Bool) (c : UInt8) : List UInt8 := if plainB dash c then [c] else [37, hexd (c.toNat / 16), hexd (c.toNat % 16)]
/-- A text's word. -/
def hWord (l : List UInt8) : List UInt8 := if l.isEmpty then [45] else l.flatMap (esc (l == [45]))
theorem esc_length (d : Bool) (c : UInt8) : (esc d c).length ≤ 3 := by unfold esc; split <;> simp
theorem flat_length (d : Bool) : ∀ l : List UInt8, (l.flatMap (esc d)).length ≤ 3 * l.length
  | [] => by simp
  | c :: r => by
    have := esc_length d c; have := flat_length d r
    rw [List.flatMap_cons, List.length_append, List.length_cons]; omega
theorem hWord_length (l : List UInt8) : (hWord l).length ≤ 3 * l.length + 1 := by
  have := flat_length (l == [45]) l
  unfold hWord; split
  · simp
  · omega
theorem flat_snoc (d : Bool) (l : List UInt8) (k : Nat) (h : k < l.length) : (l.take (k + 1)).flatMap (esc d) = (l.take k).flatMap (esc d) ++ esc d l[k] := by
  rw [List.take_succ_eq_append_getElem h, List.flatMap_append]; simp
end Go.Proofs.YtcaeppncippknaaGreatDoor
/- Texts out of words, as functions on lists of bytes, and the laws that tie them: a word is read back. Conditions: none. -/
namespace Go.Proofs.YtcaeppncippknaaGreatDoor

/-- A list, cut at a byte. -/
def splitOn (c : UInt8) : List UInt8 → List (List UInt8)
  | [] => [[]]
  | x :: r => if x = c then [] :: splitOn c r else match splitOn c r with
    | [] => [[x]]
    | p :: ps => (x :: p) :: ps
theorem splitOn_ne (c : UInt8) : ∀ l, splitOn c l ≠ []
  | [] => by simp [splitOn]
  | x :: r => by
    unfold splitOn
    split
    · simp
    · split <;> simp
theorem splitOn_length (c : UInt8) : ∀ l, (splitOn c l).length ≤ l.length + 1
  | [] => by simp [splitOn]
  | x :: r => by
    have := splitOn_length c r
    unfold splitOn
    split
    · simp; omega
    · split
      · simp
      · rename_i h; rw [h] at this; simp at this ⊢; omega
theorem splitOn_part (c : UInt8) : ∀ l, ∀ p ∈ splitOn c l, p.length ≤ l.length
  | [] => by simp [splitOn]
  | x :: r => by
    have := splitOn_part c r
    unfold splitOn
    split
    · intro p hp
      simp only [List.mem_cons] at hp
      rcases hp with rfl | hp
      · simp
      · have := this p hp; simp; omega
    · split
      · intro p hp; simp at hp; subst hp; simp
      · rename_i q qs h
        rw [h] at this
        intro p hp
        simp only [List.mem_cons] at hp this
        rcases hp with rfl | hp
        · have := this q (.inl rfl); simp; omega
        · have := this p (.inr hp); simp; omega
theorem index_cons_ne {x c : UInt8} (h : x ≠ c) (l : List UInt8) : Lib.index (x :: l) [c] = if Lib.index l [c] == -1 then -1 else Lib.index l [c] + 1 := by
  have hp : ([c] : List UInt8).isPrefixOf (x :: l) = false := by simp [List.isPrefixOf, Ne.symm h]
  rw [Lib.index, hp]; simp
theorem splitK_one (c : UInt8) : ∀ l, Lib.splitK [c] 0 (Lib.count l [c]) l = splitOn c l
  | [] => by
    have : Lib.index ([] : List UInt8) [c] = -1 := by simp [Lib.index]
    rw [Lib.count_miss this]; rfl
  | x :: r => by
    have ih := splitK_one c r
    by_cases h : x = c
    · subst h
      have hix : Lib.index (x :: r) [x] = 0 := by rw [Lib.index]; simp [List.isPrefixOf]
      rw [Lib.count_cons_eq, Nat.add_comm]
      unfold Lib.splitK splitOn
      rw [hix]
      simp [ih]
    · rw [Lib.count_cons_ne x c r h]
      unfold splitOn
      rw [if_neg h, ← ih]
      have hix := index_cons_ne h r
      by_cases hm : Lib.index r [c] = -1
      · rw [Lib.count_miss hm]; rfl
      · have hge := Lib.index_ge r [c]
        obtain ⟨j, hj⟩ : ∃ j : Nat, Lib.index r [c] = j := ⟨(Lib.index r [c]).toNat, by omega⟩
        have hix' : Lib.index (x :: r) [c] = ((j + 1 : Nat) : Int) := by rw [hix, if_neg (fun e => hm (beq_iff_eq.1 e)), hj]; omega
        rw [Lib.count_hit (by simp) hj, Nat.add_comm]
        simp only [Lib.splitK]
        rw [hix', hj]
        have e1 : (((j + 1 : Nat) : Int) == -1) = false := by rw [beq_eq_false_iff_ne]; omega
        have e2 : ((j : Int) == -1) = false := by rw [beq_eq_false_iff_ne]; omega
        rw [e1, e2]
        simp

/-- The value of a digit of sixteen, small letters alone. -/
def hexv (c : UInt8) : Option Nat := if 48 ≤ c.toNat ∧ c.toNat ≤ 57 then some (c.toNat - 48) else if 97 ≤ c.toNat ∧ c.toNat ≤ 102 then some (c.toNat - 87) else none
/-- A word's bytes, where it is one. -/
def dec : List UInt8 → Option (List UInt8)
  | [] => some []
  | 37 :: a :: b :: r => (hexv a).bind fun x => (hexv b).bind fun y => (dec r).map (UInt8.ofNat (16 * x + y) :: ·)
  | c :: r => if c = 37 then none else (dec r).map (c :: ·)
/-- The text that a word is: none, where it is no word. -/
def hText (w : List UInt8) : Option (List UInt8) := (if w = [45] then some [] else dec w).bind fun s => if hWord s = w then some s else none

theorem hexv_hexd : ∀ n : Fin 16, hexv (hexd n.val) = some n.val := by decide
theorem hexd_ne : ∀ n : Fin 16, hexd n.val ≠ 37 := by decide
theorem ofNat_parts (c : UInt8) : UInt8.ofNat (16 * (c.toNat / 16) + c.toNat % 16) = c := by
  rw [Nat.div_add_mod]; simp
theorem dec_esc (d : Bool) (c : UInt8) (r : List UInt8) : dec (esc d c ++ r) = (dec r).map (c :: ·) := by
  unfold esc
  by_cases h : plainB d c = true
  · rw [if_pos h]
    have hc : c ≠ 37 := by
      simp only [plainB, Bool.and_eq_true, decide_eq_true_eq, Bool.not_eq_true', beq_eq_false_iff_ne, ne_eq] at h
      exact h.1.2
    show dec (c :: r) = _
    rw [dec]
    · rw [if_neg hc]
    · intro a b r' h1 _; exact hc h1
  · rw [if_neg h]
    have hlt := c.toNat_lt
    have h1 := hexv_hexd ⟨c.toNat / 16, by omega⟩
    have h2 := hexv_hexd ⟨c.toNat % 16, by omega⟩
    show dec (37 :: hexd (c.toNat / 16) :: hexd (c.toNat % 16) :: r) = _
    rw [dec, h1, h2]
    simp only [Option.bind_some, ofNat_parts]
theorem dec_flat (d : Bool) : ∀ s : List UInt8, dec (s.flatMap (esc d)) = some s
  | [] => rfl
  | c :: r => by
    rw [List.flatMap_cons, dec_esc, dec_flat d r]; rfl
theorem esc_pos (d : Bool) (c : UInt8) : 1 ≤ (esc d c).length := by unfold esc; split <;> simp
theorem flat_pos (d : Bool) : ∀ l : List UInt8, l.length ≤ (l.flatMap (esc d)).length
  | [] => by simp
  | c :: r => by
    have := esc_pos d c; have := flat_pos d r
    rw [List.flatMap_cons, List.length_append, List.length_cons]; omega
theorem hWord_dash {s : List UInt8} (h : hWord s = [45]) : s = [] := by
  cases s with
  | nil => rfl
  | cons c r =>
    exfalso
    unfold hWord at h
    simp only [List.isEmpty_cons, Bool.false_eq_true, if_false] at h
    have hl := flat_pos ((c :: r) == [45]) (c :: r)
    rw [h] at hl
    have hr : r = [] := by cases r with | nil => rfl | cons a b => simp at hl
    subst hr
    rw [List.flatMap_cons, List.flatMap_nil, List.append_nil] at h
    unfold esc at h
    split at h
    · rename_i hp
      simp only [List.cons.injEq, and_true] at h
      subst h
      revert hp; decide
    · simp at h
theorem hText_word (s : List UInt8) : hText (hWord s) = some s := by
  unfold hText
  by_cases hs : s = []
  · subst hs; rfl
  · have hd : hWord s ≠ [45] := fun h => hs (hWord_dash h)
    rw [if_neg hd]
    have : dec (hWord s) = some s := by
      unfold hWord
      have : s.isEmpty = false := by simpa using hs
      rw [this]
      exact dec_flat _ s
    rw [this]
    simp
theorem hText_eq {w s : List UInt8} (h : hText w = some s) : hWord s = w := by
  unfold hText at h
  rw [Option.bind_eq_some_iff] at h
  obtain ⟨x, _, h⟩ := h
  split at h
  · obtain rfl := Option.some.inj h; assumption
  · cases h
theorem hText_none {w : List UInt8} (h : ∀ s, hWord s ≠ w) : hText w = none := by
  cases e : hText w with
  | none => rfl
  | some s => exact absurd (hText_eq e) (h s)
theorem hWord_inj {a b : List UInt8} (h : hWord a = hWord b) : a = b := by
  have := hText_word a
  rw [h, hText_word] at this
  exact (Option.some.inj this).symm

/-! What house.Text does, part by part. -/
/-- A digit of sixteen as strconv takes it. -/
def hexvA (c : UInt8) : Option Nat := if 48 ≤ c.toNat ∧ c.toNat ≤ 57 then some (c.toNat - 48) else if 97 ≤ c.toNat ∧ c.toNat ≤ 102 then some (c.toNat - 87) else if 65 ≤ c.toNat ∧ c.toNat ≤ 70 then some (c.toNat - 55) else none
def px (a b : UInt8) : Option Nat := (hexvA a).bind fun x => (hexvA b).map fun y => 16 * x + y
def partD (i : Nat) (p : List UInt8) : Option (List UInt8) := if 0 < i ∧ 2 ≤ p.length then (px (p.getD 0 0) (p.getD 1 0)).map fun v => UInt8.ofNat v :: p.drop 2 else some p
def preD (l : List (List UInt8)) : Nat → Option (List UInt8)
  | 0 => some []
  | k + 1 => (preD l k).bind fun a => (partD k (l.getD k [])).map (a ++ ·)
def restD : List (List UInt8) → Option (List UInt8)
  | [] => some []
  | p :: ps => (partD 1 p).bind fun a => (restD ps).map (a ++ ·)
theorem partD_pos {i : Nat} (h : 0 < i) (p : List UInt8) : partD i p = partD 1 p := by unfold partD; simp [h]
theorem restD_snoc : ∀ (l : List (List UInt8)) (p : List UInt8), restD (l ++ [p]) = (restD l).bind fun a => (partD 1 p).map (a ++ ·)
  | [], p => by cases h : partD 1 p <;> simp [restD, h]
  | q :: l, p => by
    rw [List.cons_append, restD, restD_snoc l p, restD]
    cases partD 1 q <;> cases restD l <;> cases partD 1 p <;> simp
theorem preD_rest (p0 : List UInt8) (ps : List (List UInt8)) : ∀ k, k ≤ ps.length → preD (p0 :: ps) (k + 1) = (restD (ps.take k)).map (p0 ++ ·)
  | 0, _ => by simp [preD, restD, partD]
  | k + 1, hk => by
    rw [preD, preD_rest p0 ps k (by omega), List.take_succ_eq_append_getElem (by omega), restD_snoc]
    have e1 : (p0 :: ps).getD (k + 1) [] = ps[k] := by
      rw [List.getD_cons_succ, List.getD, List.getElem?_eq_getElem (by omega)]; rfl
    rw [e1, partD_pos (by omega)]
    cases restD (ps.take k) <;> cases partD 1 ps[k] <;> simp
theorem px_hexd : ∀ a b : Fin 16, px (hexd a.val) (hexd b.val) = some (16 * a.val + b.val) := by decide
theorem split_flat (d : Bool) : ∀ s : List UInt8, ∃ p0 ps, splitOn 37 (s.flatMap (esc d)) = p0 :: ps ∧ (restD ps).map (p0 ++ ·) = some s
  | [] => ⟨[], [], rfl, rfl⟩
  | c :: r => by
    obtain ⟨p0, ps, h1, h2⟩ := split_flat d r
    rw [List.flatMap_cons]
    unfold esc
    by_cases h : plainB d c = true
    · rw [if_pos h]
      have hc : c ≠ 37 := by
        simp only [plainB, Bool.and_eq_true, decide_eq_true_eq, Bool.not_eq_true', beq_eq_false_iff_ne, ne_eq] at h
        exact h.1.2
      refine ⟨c :: p0, ps, ?_, ?_⟩
      · show splitOn 37 (c :: r.flatMap (esc d)) = _
        rw [splitOn, if_neg hc, h1]
      · rw [Option.map_eq_some_iff] at h2 ⊢
        obtain ⟨a, h3, h4⟩ := h2
        exact ⟨a, h3, by rw [← h4]; rfl⟩
    · rw [if_neg h]
      have hlt := c.toNat_lt
      have n1 := hexd_ne ⟨c.toNat / 16, by omega⟩
      have n2 := hexd_ne ⟨c.toNat % 16, by omega⟩
      have hp := px_hexd ⟨c.toNat / 16, by omega⟩ ⟨c.toNat % 16, by omega⟩
      refine ⟨[], (hexd (c.toNat / 16) :: hexd (c.toNat % 16) :: p0) :: ps, ?_, ?_⟩
      · show splitOn 37 (37 :: hexd (c.toNat / 16) :: hexd (c.toNat % 16) :: r.flatMap (esc d)) = _
        rw [splitOn, if_pos rfl, splitOn, if_neg n1, splitOn, if_neg n2, h1]
      · rw [Option.map_eq_some_iff] at h2
        obtain ⟨a, h3, h4⟩ := h2
        simp only [restD, partD]
        rw [if_pos ⟨by omega, by simp⟩]
        simp only [List.getD_cons_zero, List.getD_cons_succ]
        simp only at hp
        rw [hp, h3]
        simp only [Option.map_some, Option.bind_some, List.drop_succ_cons, List.drop_zero, ofNat_parts]
        rw [← h4]; rfl
/-- What the loop gathers of a word that is one. -/
theorem preD_word (s : List UInt8) (h : s ≠ []) : preD (splitOn 37 (hWord s)) (splitOn 37 (hWord s)).length = some s := by
  have he : s.isEmpty = false := by simpa using h
  unfold hWord
  rw [he]
  simp only [Bool.false_eq_true, if_false]
  obtain ⟨p0, ps, h1, h2⟩ := split_flat (s == [45]) s
  rw [h1, List.length_cons, preD_rest p0 ps _ (Nat.le_refl _), List.take_length]
  exact h2
theorem preD_none {l : List (List UInt8)} {k : Nat} (h : preD l k = none) : ∀ m, k ≤ m → preD l m = none
  | m, hm => by
    induction m with
    | zero => obtain rfl : k = 0 := by omega
              exact h
    | succ m ih =>
      by_cases e : k = m + 1
      · subst e; exact h
      · rw [preD, ih (by omega)]; rfl
end Go.Proofs.YtcaeppncippknaaGreatDoor
/- Numerals in plain: what is written in tens is read back. Conditions: none. -/
namespace Go.Proofs.YtcaeppncippknaaGreatDoor
open Go

theorem parseM_app (M : Nat) : ∀ (a b : List UInt8) (acc : Nat), Lib.parseUintM M acc (a ++ b) = (match Lib.parseUintM M acc a with | Lib.NumEnd.ok v => Lib.parseUintM M v b | e => e)
  | [], b, acc => by simp [Lib.parseUintM]
  | c :: r, b, acc => by
    simp only [List.cons_append, Lib.parseUintM]
    split
    · split
      · rfl
      · split
        · rfl
        · exact parseM_app M r b _
    · rfl
theorem dig_toNat {d : Nat} (h : d < 10) : (UInt8.ofNat (48 + d)).toNat = 48 + d := by
  simp; omega
theorem parseM_dec (M : Nat) (hM : M < 18446744073709551616) (u : Nat) (hu : u ≤ M) : Lib.parseUintM M 0 (Lib.decDigits u) = .ok u := by
  induction u using Nat.strongRecOn with
  | _ u ih =>
    rw [Lib.decDigits]
    split
    · rename_i h
      simp only [Lib.parseUintM, dig_toNat h]
      rw [if_pos (by omega), if_neg (by omega), if_neg (by omega)]
      congr 1
      omega
    · rename_i h
      rw [parseM_app, ih (u / 10) (by omega) (by omega)]
      have hd : u % 10 < 10 := by omega
      simp only [Lib.parseUintM, dig_toNat hd]
      rw [if_pos (by omega), if_neg (by omega), if_neg (by omega)]
      congr 1
      omega
theorem decDigits_all (u : Nat) : ∀ c ∈ Lib.decDigits u, 48 ≤ c.toNat ∧ c.toNat ≤ 57 := by
  induction u using Nat.strongRecOn with
  | _ u ih =>
    rw [Lib.decDigits]
    split
    · rename_i h
      intro c hc
      simp only [List.mem_cons, List.not_mem_nil, or_false] at hc
      subst hc
      rw [dig_toNat h]; omega
    · rename_i h
      intro c hc
      rw [List.mem_append] at hc
      rcases hc with hc | hc
      · exact ih (u / 10) (by omega) c hc
      · simp only [List.mem_cons, List.not_mem_nil, or_false] at hc
        subst hc
        rw [dig_toNat (by omega)]; omega
theorem decDigits_ne (u : Nat) : Lib.decDigits u ≠ [] := by
  rw [Lib.decDigits]
  split
  · simp
  · simp
theorem parse10_M : ∀ (l : List UInt8) (acc : Nat), Lib.parseUint10 acc l = Lib.parseUintM 18446744073709551615 acc l
  | [], acc => rfl
  | c :: r, acc => by
    simp only [Lib.parseUint10, Lib.parseUintM]
    split
    · split
      · rfl
      · by_cases h : 18446744073709551616 ≤ acc * 10 + (c.toNat - 48)
        · rw [if_pos h, if_pos (by omega)]
        · rw [if_neg h, if_neg (by omega)]
          exact parse10_M r _
    · rfl
theorem parseB_dec (u : Nat) (hu : u < 18446744073709551616) : Lib.parseUintB 64 (Lib.decDigits u) = .ok u := by
  unfold Lib.parseUintB
  rw [if_neg (decDigits_ne u)]
  exact parseM_dec _ (by decide) u (by omega)
theorem parseMag_dec (u : Nat) (hu : u < 18446744073709551616) : Lib.parseMag (Lib.decDigits u) = .ok u := by
  unfold Lib.parseMag
  rw [if_neg (decDigits_ne u), parse10_M]
  exact parseM_dec _ (by decide) u (by omega)
theorem atoi_itoa (n : Int) (h0 : -9223372036854775808 ≤ n) (h1 : n ≤ 9223372036854775807) : Lib.atoiAll (Lib.itoa n) = .ok n := by
  unfold Lib.itoa
  split
  · rename_i h
    rw [Lib.atoiAll_minus, parseMag_dec _ (by omega)]
    simp only [Lib.signed]
    rw [if_neg (by omega)]
    congr 1
    omega
  · rename_i h
    have hne := decDigits_ne n.toNat
    have hall := decDigits_all n.toNat
    have hp := parseMag_dec n.toNat (by omega)
    revert hne hall hp
    generalize Lib.decDigits n.toNat = l
    intro hne hall hp
    cases l with
    | nil => exact absurd rfl hne
    | cons c r =>
      have hc := hall c (by simp)
      rw [Lib.atoiAll_plain c r (by omega) (by omega), hp]
      simp only [Lib.signless]
      rw [if_neg (by omega)]
      congr 1
      omega
theorem decDigits_inj {a b : Nat} (ha : a < 18446744073709551616) (hb : b < 18446744073709551616) (h : Lib.decDigits a = Lib.decDigits b) : a = b := by
  have h1 := parseB_dec a ha
  rw [h, parseB_dec b hb] at h1
  injection h1 with h1
  exact h1.symm
end Go.Proofs.YtcaeppncippknaaGreatDoor
/- A line's words in plain: words that are joined by blanks are found again. Conditions: none. -/
namespace Go.Proofs.YtcaeppncippknaaGreatDoor
open Go

theorem splitOn_no {c : UInt8} : ∀ {a : List UInt8}, c ∉ a → splitOn c a = [a]
  | [], _ => rfl
  | x :: r, h => by
    have h1 : ¬ x = c := fun e => h (by simp [e])
    have h2 : c ∉ r := fun e => h (by simp [e])
    rw [splitOn, if_neg h1, splitOn_no h2]
theorem splitOn_app (c : UInt8) : ∀ a b : List UInt8, splitOn c (a ++ c :: b) = splitOn c a ++ splitOn c b
  | [], b => by
    simp [splitOn]
  | x :: r, b => by
    have ih := splitOn_app c r b
    have hne := splitOn_ne c r
    by_cases hx : x = c
    · subst hx
      simp [splitOn, ih]
    · cases h : splitOn c r with
      | nil => exact absurd h hne
      | cons p ps =>
        rw [h] at ih
        simp [splitOn, hx, ih, h]
/-- A line's words. -/
def wordsP (l : List UInt8) : List (List UInt8) := (splitOn 32 l).filter fun w => !w.isEmpty
/-- What a word may be. -/
def IsWd (x : List UInt8) : Prop := x ≠ [] ∧ 32 ∉ x
theorem wordsP_app (a b : List UInt8) : wordsP (a ++ 32 :: b) = wordsP a ++ wordsP b := by
  unfold wordsP; rw [splitOn_app, List.filter_append]
theorem wordsP_nil : wordsP [] = [] := rfl
theorem wordsP_blank (b : List UInt8) : wordsP (32 :: b) = wordsP b := by
  have := wordsP_app [] b
  rwa [List.nil_append, wordsP_nil, List.nil_append] at this
theorem wordsP_one {x : List UInt8} (h : IsWd x) : wordsP x = [x] := by
  unfold wordsP
  rw [splitOn_no h.2]
  have : x.isEmpty = false := by simpa using h.1
  simp [this]
theorem wordsP_tail : ∀ (r : List (List UInt8)) (x : List UInt8), wordsP (x ++ Lib.joinTail [32] r) = wordsP x ++ r.flatMap wordsP
  | [], x => by simp [Lib.joinTail]
  | y :: r, x => by
    have e : Lib.joinTail [32] (y :: r) = 32 :: (y ++ Lib.joinTail [32] r) := by simp [Lib.joinTail]
    rw [e, wordsP_app, wordsP_tail r y, List.flatMap_cons]
theorem flatMap_words : ∀ {l : List (List UInt8)}, (∀ x ∈ l, IsWd x) → l.flatMap wordsP = l
  | [], _ => rfl
  | x :: r, h => by
    rw [List.flatMap_cons, wordsP_one (h x (by simp)), flatMap_words fun y hy => h y (by simp [hy])]; rfl
theorem wordsP_join {l : List (List UInt8)} (h : ∀ x ∈ l, IsWd x) : wordsP (Lib.join l [32]) = l := by
  cases l with
  | nil => rfl
  | cons x r =>
    rw [Lib.join_cons, wordsP_tail, wordsP_one (h x (by simp)), flatMap_words fun y hy => h y (by simp [hy])]; rfl
theorem wordsP_pre : ∀ (k : Nat) (b : List UInt8), wordsP (List.replicate k 32 ++ b) = wordsP b
  | 0, b => rfl
  | k + 1, b => by rw [List.replicate_succ, List.cons_append, wordsP_blank, wordsP_pre k b]
theorem wordsP_post (a : List UInt8) : ∀ k : Nat, wordsP (a ++ List.replicate k 32) = wordsP a
  | 0 => by simp
  | k + 1 => by
    have h := wordsP_pre k []
    rw [List.append_nil] at h
    rw [List.replicate_succ, wordsP_app, h, wordsP_nil, List.append_nil]
theorem wordsP_length (l : List UInt8) : (wordsP l).length ≤ l.length + 1 := by
  have h1 : (wordsP l).length ≤ (splitOn 32 l).length := List.length_filter_le _ _
  have h2 := splitOn_length 32 l
  omega
theorem wordsP_mem {l x : List UInt8} (h : x ∈ wordsP l) : x.length ≤ l.length := splitOn_part 32 l x (List.mem_filter.1 h).1
theorem wordsP_ne {l x : List UInt8} (h : x ∈ wordsP l) : x ≠ [] := by
  have := (List.mem_filter.1 h).2
  intro e; subst e; simp at this
theorem esc_wd (d : Bool) (c : UInt8) : ∀ x ∈ esc d c, 32 < x.toNat := by
  unfold esc
  have hh : ∀ n : Fin 16, 32 < (hexd n.val).toNat := by decide
  have hlt := c.toNat_lt
  split
  · rename_i h
    intro x hx
    simp only [List.mem_cons, List.not_mem_nil, or_false] at hx
    subst hx
    simp only [plainB, Bool.and_eq_true, decide_eq_true_eq] at h
    exact h.1.1.1
  · intro x hx
    simp only [List.mem_cons, List.not_mem_nil, or_false] at hx
    rcases hx with rfl | rfl | rfl
    · decide
    · exact hh ⟨c.toNat / 16, by omega⟩
    · exact hh ⟨c.toNat % 16, by omega⟩
theorem hWord_bytes (l : List UInt8) : ∀ x ∈ hWord l, 32 < x.toNat := by
  unfold hWord
  split
  · intro x hx
    simp only [List.mem_cons, List.not_mem_nil, or_false] at hx
    subst hx; decide
  · intro x hx
    obtain ⟨c, _, hc⟩ := List.mem_flatMap.1 hx
    exact esc_wd _ c x hc
theorem hWord_ne (l : List UInt8) : hWord l ≠ [] := by
  unfold hWord
  split
  · simp
  · rename_i h
    have := flat_pos (l == [45]) l
    intro e
    rw [e] at this
    cases l with
    | nil => simp at h
    | cons a b => simp at this
theorem isWd_hWord (l : List UInt8) : IsWd (hWord l) := ⟨hWord_ne l, fun h => absurd (hWord_bytes l _ h) (by decide)⟩
theorem isWd_dec (u : Nat) : IsWd (Lib.decDigits u) := ⟨decDigits_ne u, fun h => by have := (decDigits_all u _ h).1; revert this; decide⟩
theorem isWd_itoa (n : Int) : IsWd (Lib.itoa n) := by
  unfold Lib.itoa
  split
  · refine ⟨by simp, fun h => ?_⟩
    rcases List.mem_cons.1 h with h | h
    · exact absurd h (by decide)
    · exact (isWd_dec _).2 h
  · exact isWd_dec _
end Go.Proofs.YtcaeppncippknaaGreatDoor
