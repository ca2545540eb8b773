/- strconv.ParseUint of two bytes at base 16: two digits of sixteen, large letters too, or an error. Conditions: the package variables' facts (Env). -/
import Derived.Test.YtcaeppncippknaaGreatDoorZNumA
import Derived.Test.YtcaeppncippknaaGreatDoorZPlainA
namespace Go.Proofs.YtcaeppncippknaaGreatDoor
open Go Go.RowKit

def preH (l : List UInt8) : Nat → Option Nat
  | 0 => some 0
  | k + 1 => (preH l k).bind fun v => (hexvA (l.getD k 0)).map fun d => v * 16 + d
theorem preH_two (a b : UInt8) : preH [a, b] 2 = px a b := by
  unfold px
  cases h1 : hexvA a <;> cases h2 : hexvA b <;> simp [preH, h1, h2, Nat.mul_comm]
theorem hexvA_lt {c : UInt8} {d : Nat} (h : hexvA c = some d) : d ≤ 15 := by
  unfold hexvA at h
  split at h
  · obtain rfl := Option.some.inj h; omega
  · split at h
    · obtain rfl := Option.some.inj h; omega
    · split at h
      · obtain rfl := Option.some.inj h; omega
      · cases h
/-- What the lower-case turn makes of a byte. -/
def lowN (n : Nat) : Nat := (bits BinOp.or IntKind.u8 (n : Nat) 32).toNat
theorem lowN_eq (n : Nat) (h : n ≤ 255) : bits BinOp.or IntKind.u8 (n : Nat) 32 = ((lowN n : Nat) : Int) := by
  have : ∀ m : Fin 256, bits BinOp.or IntKind.u8 (m.val : Nat) 32 = ((lowN m.val : Nat) : Int) := by decide +kernel
  exact this ⟨n, by omega⟩
theorem lowN_class (n : Nat) (h : n ≤ 255) : lowN n ≤ 255 ∧ ((97 ≤ lowN n ∧ lowN n ≤ 102 ∧ ¬ (48 ≤ n ∧ n ≤ 57)) → (97 ≤ n ∧ n ≤ 102 ∧ lowN n = n) ∨ (65 ≤ n ∧ n ≤ 70 ∧ lowN n = n + 32)) ∧ ((97 ≤ n ∧ n ≤ 102 ∨ 65 ≤ n ∧ n ≤ 70) → 97 ≤ lowN n ∧ lowN n ≤ 102) := by
  have : ∀ m : Fin 256, lowN m.val ≤ 255 ∧ ((97 ≤ lowN m.val ∧ lowN m.val ≤ 102 ∧ ¬ (48 ≤ m.val ∧ m.val ≤ 57)) → (97 ≤ m.val ∧ m.val ≤ 102 ∧ lowN m.val = m.val) ∨ (65 ≤ m.val ∧ m.val ≤ 70 ∧ lowN m.val = m.val + 32)) ∧ ((97 ≤ m.val ∧ m.val ≤ 102 ∨ 65 ≤ m.val ∧ m.val ≤ 70) → 97 ≤ lowN m.val ∧ lowN m.val ≤ 102) := by decide +kernel
  exact this ⟨n, by omega⟩
def errV (n : Nat) : Value := .iface 130 (.int .i64 n)

def Res16 (o : Option Nat) : Value := match o with | some v => .tuple #[.int .u64 (v : Nat), .nilIface] | none => .tuple #[.int .u64 0, errV 2]

set_option maxHeartbeats 1000000 in
set_option maxRecDepth 100000 in
theorem parse16_in (a b : UInt8) (w : World) :
    Calls Tryz.prog 61 #[.string (bs [a, b]), .int .i64 16, .int .i64 8] w fun e w' =>
      e = .returned (Res16 (px a b)) ∧ Fr [] w w' := by
  go_enter Tryz.func61, Tryz.ntmps61
  go_wp2_with (refine wpList_bytes (by rfl) (.tmp 98) 9 61 5 (by rfl) Tryz.underlying9 Tryz.underlying61 Tryz.underlying5 _ (by rfl) ?_; intro cap w2 hby hfr2 hsz2 hfz2)
  have hc0 : w2.cell? ⟨w.heap.size, 0, none⟩ = some (.int .u8 (a.toNat : Nat)) := hby 0 (by simp)
  have hc1 : w2.cell? ⟨w.heap.size, 1, none⟩ = some (.int .u8 (b.toNat : Nat)) := hby 1 (by simp)
  have HC : Hid (∀ k : Nat, k < 2 → w2.cell? ⟨w.heap.size, k, none⟩ = some (.int .u8 (([a, b].getD k 0).toNat : Nat))) := by
    intro k hk
    match k, hk with
    | 0, _ => exact hc0
    | 1, _ => exact hc1
  clear hc0 hc1 hby hsz2 hfz2
  generalize hCut : (1152921504606846976 : Int) = C
  have hCut1 : 300 ≤ C := by omega
  clear hCut
  go_loopw [12, 13, 101] (fun u n i wr => wr = w2 ∧ u = .bool false ∧ ∃ k v : Nat, k ≤ 2 ∧ i = .int .i64 k ∧ n = .int .u64 v ∧ (k = 0 → v = 0) ∧ (k = 1 → v ≤ 15) ∧ Hid (preH [a, b] k = some v))
    (fun _ _ i _ => 2 - (intOf i).toNat)
  case atStart => exact ⟨rfl, rfl, 0, 0, by omega, rfl, rfl, fun _ => rfl, fun h => by omega, rfl⟩
  case round =>
    obtain ⟨rfl, rfl, k, v, hk, rfl, rfl, hv0, hv1, HV⟩ := hrel
    by_cases hlt : k < 2
    · have hv : v ≤ 15 := by
        by_cases h : k = 0
        · have := hv0 h; omega
        · exact hv1 (by omega)
      have hcell := HC.out k hlt
      have HS : Hid (∀ d, hexvA ([a, b].getD k 0) = some d → preH [a, b] (k + 1) = some (v * 16 + d)) := by
        intro d hd
        show (preH [a, b] k).bind _ = _
        rw [HV.out, Option.bind_some, hd]; rfl
      have HN : Hid (hexvA ([a, b].getD k 0) = none → px a b = none) := by
        intro hn
        rw [← preH_two]
        have h1 : preH [a, b] (k + 1) = none := by
          show (preH [a, b] k).bind _ = _
          rw [HV.out, Option.bind_some, hn]; rfl
        by_cases h : k = 1
        · subst h; exact h1
        · obtain rfl : k = 0 := by omega
          show (preH [a, b] 1).bind _ = _
          rw [h1]; rfl
      have HV0 := Lib.hid hv0
      clear hv0 hv1
      generalize hc : [a, b].getD k 0 = c at hcell HS HN
      clear hc
      have hn255 : c.toNat ≤ 255 := by have := c.toNat_lt; omega
      obtain ⟨n, hn⟩ : ∃ n, n = c.toNat := ⟨_, rfl⟩
      rw [← hn] at hcell hn255
      obtain ⟨b95, hb95⟩ : ∃ b, ((n : Int) == 95) = b := ⟨_, rfl⟩
      have hlow := lowN_eq n hn255
      obtain ⟨hcl0, hcl1, hcl2⟩ := lowN_class n hn255
      have HE := Lib.hid hn
      clear hn
      have HL : Hid (hexvA c = if 48 ≤ n ∧ n ≤ 57 then some (n - 48) else if 97 ≤ n ∧ n ≤ 102 then some (n - 87) else if 65 ≤ n ∧ n ≤ 70 then some (n - 55) else none) := by
        rw [HE.out]; rfl
      generalize lowN n = m at hlow hcl0 hcl1 hcl2
      have HCL := Lib.hid (And.intro hcl1 hcl2)
      clear hcl1 hcl2
      have hcs : (48 ≤ n ∧ n ≤ 57) ∨ ((n < 48 ∨ 57 < n) ∧ 97 ≤ m ∧ m ≤ 102) ∨ ((n < 48 ∨ 57 < n) ∧ 102 < m ∧ m ≤ 122) ∨ ((n < 48 ∨ 57 < n) ∧ (m < 97 ∨ 122 < m)) := by omega
      have hpx : hexvA c = none → px a b = none := HN.out
      have HPX := Lib.hid hpx
      clear hpx HN
      rcases hcs with ⟨h1, h2⟩ | ⟨h0, h1, h2⟩ | ⟨h0, h1, h2⟩ | ⟨h0, h1⟩
      · have HD : Hid (hexvA c = some (n - 48)) := by
          show _ = _
          rw [HL.out, if_pos ⟨h1, h2⟩]
        go_wp2
        all_goals
          go_roundw
          case rel => exact ⟨by first | rfl | trivial, by first | rfl | trivial, k + 1, v * 16 + (n - 48), by omega, by go_num, by congr 1; omega, by omega, (fun h => by have := HV0.out (by omega); omega), HS.out _ HD.out⟩
          case measure => simp [intOf]; omega
      · have HD : Hid (hexvA c = some (m - 87)) := by
          show _ = _
          rw [HL.out]
          rcases HCL.out.1 ⟨h1, h2, by omega⟩ with ⟨h3, h4, h5⟩ | ⟨h3, h4, h5⟩
          · rw [if_neg (by omega), if_pos (by omega), h5]
          · rw [if_neg (by omega), if_neg (by omega), if_pos (by omega), h5]
            first | rfl | (congr 1; omega)
        rcases h0 with h0 | h0
        all_goals
          go_wp2_with (go_at_call 87; refine (Tryz.internal_strconv_lower _ _).mono ?_; rintro e w' ⟨rfl, rfl⟩)
          all_goals
            go_roundw
            case rel => exact ⟨by first | rfl | trivial, by first | rfl | trivial, k + 1, v * 16 + (m - 87), by omega, by go_num, by congr 1; omega, by omega, (fun h => by have := HV0.out (by omega); omega), HS.out _ HD.out⟩
            case measure => simp [intOf]; omega
      · have HD : Hid (px a b = none) := by
          refine HPX.out ?_
          rw [HL.out, if_neg (by omega), if_neg (fun h => by have := HCL.out.2 (.inl h); omega), if_neg (fun h => by have := HCL.out.2 (.inr h); omega)]
        rcases h0 with h0 | h0
        all_goals
          go_wp2_with (go_at_call 87; refine (Tryz.internal_strconv_lower _ _).mono ?_; rintro e w' ⟨rfl, rfl⟩)
          all_goals (go_ret2; exact ⟨by rw [HD.out]; rfl, hfr2⟩)
      · have HD : Hid (px a b = none) := by
          refine HPX.out ?_
          rw [HL.out, if_neg (by omega), if_neg (fun h => by have := HCL.out.2 (.inl h); omega), if_neg (fun h => by have := HCL.out.2 (.inr h); omega)]
        rcases h0 with h0 | h0 <;> rcases h1 with h1 | h1
        all_goals
          go_wp2_with (go_at_call 87; refine (Tryz.internal_strconv_lower _ _).mono ?_; rintro e w' ⟨rfl, rfl⟩)
          all_goals (go_ret2; exact ⟨by rw [HD.out]; rfl, hfr2⟩)
    · have hk2 : k = 2 := by omega
      subst hk2
      have hp : px a b = some v := by rw [← preH_two]; exact HV.out
      have HP := Lib.hid hp
      clear hp
      go_wp2
      go_ret2
      exact ⟨by rw [HP.out]; rfl, hfr2⟩
end Go.Proofs.YtcaeppncippknaaGreatDoor
