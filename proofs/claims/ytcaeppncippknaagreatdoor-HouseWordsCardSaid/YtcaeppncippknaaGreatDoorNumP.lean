/- Numerals in plain: what is written in tens is read back. Conditions: none. -/
import Derived.Lib.ParseIntBTie
import Derived.Lib.ItoaNum
import Derived.Lib.AtoiAllCases
namespace Go.Proofs.YtcaeppncippknaaGreatDoor
open Go

theorem parseM_app (M : Nat) : ∀ (a b : List UInt8) (acc : Nat), Lib.parseUintM M acc (a ++ b) = (match Lib.parseUintM M acc a with | Lib.NumEnd.ok v => Lib.parseUintM M v b | e => e)
  | [], b, acc => by simp [Lib.parseUintM]
  | c :: r, b, acc => by
    simp only [List.cons_append, Lib.parseUintM]
    split
    · split
      · rfl
      · split
        · rfl
        · exact parseM_app M r b _
    · rfl
theorem dig_toNat {d : Nat} (h : d < 10) : (UInt8.ofNat (48 + d)).toNat = 48 + d := by
  simp; omega
theorem parseM_dec (M : Nat) (hM : M < 18446744073709551616) (u : Nat) (hu : u ≤ M) : Lib.parseUintM M 0 (Lib.decDigits u) = .ok u := by
  induction u using Nat.strongRecOn with
  | _ u ih =>
    rw [Lib.decDigits]
    split
    · rename_i h
      simp only [Lib.parseUintM, dig_toNat h]
      rw [if_pos (by omega), if_neg (by omega), if_neg (by omega)]
      congr 1
      omega
    · rename_i h
      rw [parseM_app, ih (u / 10) (by omega) (by omega)]
      have hd : u % 10 < 10 := by omega
      simp only [Lib.parseUintM, dig_toNat hd]
      rw [if_pos (by omega), if_neg (by omega), if_neg (by omega)]
      congr 1
      omega
theorem decDigits_all (u : Nat) : ∀ c ∈ Lib.decDigits u, 48 ≤ c.toNat ∧ c.toNat ≤ 57 := by
  induction u using Nat.strongRecOn with
  | _ u ih =>
    rw [Lib.decDigits]
    split
    · rename_i h
      intro c hc
      simp only [List.mem_cons, List.not_mem_nil, or_false] at hc
      subst hc
      rw [dig_toNat h]; omega
    · rename_i h
      intro c hc
      rw [List.mem_append] at hc
      rcases hc with hc | hc
      · exact ih (u / 10) (by omega) c hc
      · simp only [List.mem_cons, List.not_mem_nil, or_false] at hc
        subst hc
        rw [dig_toNat (by omega)]; omega
theorem decDigits_ne (u : Nat) : Lib.decDigits u ≠ [] := by
  rw [Lib.decDigits]
  split
  · simp
  · simp
theorem parse10_M : ∀ (l : List UInt8) (acc : Nat), Lib.parseUint10 acc l = Lib.parseUintM 18446744073709551615 acc l
  | [], acc => rfl
  | c :: r, acc => by
    simp only [Lib.parseUint10, Lib.parseUintM]
    split
    · split
      · rfl
      · by_cases h : 18446744073709551616 ≤ acc * 10 + (c.toNat - 48)
        · rw [if_pos h, if_pos (by omega)]
        · rw [if_neg h, if_neg (by omega)]
          exact parse10_M r _
    · rfl
theorem parseB_dec (u : Nat) (hu : u < 18446744073709551616) : Lib.parseUintB 64 (Lib.decDigits u) = .ok u := by
  unfold Lib.parseUintB
  rw [if_neg (decDigits_ne u)]
  exact parseM_dec _ (by decide) u (by omega)
theorem parseMag_dec (u : Nat) (hu : u < 18446744073709551616) : Lib.parseMag (Lib.decDigits u) = .ok u := by
  unfold Lib.parseMag
  rw [if_neg (decDigits_ne u), parse10_M]
  exact parseM_dec _ (by decide) u (by omega)
theorem atoi_itoa (n : Int) (h0 : -9223372036854775808 ≤ n) (h1 : n ≤ 9223372036854775807) : Lib.atoiAll (Lib.itoa n) = .ok n := by
  unfold Lib.itoa
  split
  · rename_i h
    rw [Lib.atoiAll_minus, parseMag_dec _ (by omega)]
    simp only [Lib.signed]
    rw [if_neg (by omega)]
    congr 1
    omega
  · rename_i h
    have hne := decDigits_ne n.toNat
    have hall := decDigits_all n.toNat
    have hp := parseMag_dec n.toNat (by omega)
    revert hne hall hp
    generalize Lib.decDigits n.toNat = l
    intro hne hall hp
    cases l with
    | nil => exact absurd rfl hne
    | cons c r =>
      have hc := hall c (by simp)
      rw [Lib.atoiAll_plain c r (by omega) (by omega), hp]
      simp only [Lib.signless]
      rw [if_neg (by omega)]
      congr 1
      omega
theorem decDigits_inj {a b : Nat} (ha : a < 18446744073709551616) (hb : b < 18446744073709551616) (h : Lib.decDigits a = Lib.decDigits b) : a = b := by
  have h1 := parseB_dec a ha
  rw [h, parseB_dec b hb] at h1
  injection h1 with h1
  exact h1.symm
end Go.Proofs.YtcaeppncippknaaGreatDoor
