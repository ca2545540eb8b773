/- house.Word: the word of a text. Conditions: the text's length is below 2^40. -/
import Derived.Test.YtcaeppncippknaaGreatDoorZBuilder
import Derived.Test.YtcaeppncippknaaGreatDoorZBaseA
import Derived.Test.YtcaeppncippknaaGreatDoorZPlainA
import Derived.Test.YtcaeppncippknaaGreatDoorZShelf
import Derived.StillTailTactics
namespace Go.Proofs.YtcaeppncippknaaGreatDoor
open Go Go.RowKit

theorem word_empty (w : World) : Calls Tryz.prog 10 #[.string (bs [])] w fun e w' => e = .returned (.string (bs [45])) ∧ w = w' := by
  go_enter Tryz.func10, Tryz.ntmps10
  go_wp2
  go_ret
  exact ⟨rfl, rfl⟩

set_option maxRecDepth 100000 in
theorem slice_hex (w : World) : ∀ m : Nat, m < 16 → (Instr.slice 9 (.string ⟨#[48, 49, 50, 51, 52, 53, 54, 55, 56, 57, 97, 98, 99, 100, 101, 102]⟩) (some (.int .u8 (m : Nat))) (some (.int .u8 (IntKind.u8.wrap ((m : Nat) + 1)))) none).run Tryz.prog w = .ok (.string (bs [hexd m])) w
  | 0, _ => by kernel_rfl
  | 1, _ => by kernel_rfl
  | 2, _ => by kernel_rfl
  | 3, _ => by kernel_rfl
  | 4, _ => by kernel_rfl
  | 5, _ => by kernel_rfl
  | 6, _ => by kernel_rfl
  | 7, _ => by kernel_rfl
  | 8, _ => by kernel_rfl
  | 9, _ => by kernel_rfl
  | 10, _ => by kernel_rfl
  | 11, _ => by kernel_rfl
  | 12, _ => by kernel_rfl
  | 13, _ => by kernel_rfl
  | 14, _ => by kernel_rfl
  | 15, _ => by kernel_rfl
  | m + 16, h => absurd h (by omega)

theorem and15 (n : Nat) (h : n ≤ 255) : bits BinOp.and IntKind.u8 (n : Nat) 15 = ((n % 16 : Nat) : Int) := by
  have : ∀ m : Fin 256, bits BinOp.and IntKind.u8 (m.val : Nat) 15 = ((m.val % 16 : Nat) : Int) := by decide +kernel
  exact this ⟨n, by omega⟩

set_option maxHeartbeats 1000000 in
set_option maxRecDepth 100000 in
theorem word_some (l : List UInt8) (hne : l ≠ []) (hl : l.length ≤ 17592186044416) (w : World) :
    Calls Tryz.prog 10 #[.string (bs l)] w fun e w' => e = .returned (.string (bs (hWord l))) ∧ Fr [] w w' := by
  have hn0 : l.isEmpty = false := by simpa using hne
  have hsz : (bs l).size = l.length := bs_size l
  have HSZ := Lib.hid hsz
  clear hsz
  go_enter Tryz.func10, Tryz.ntmps10
  go_wp2_with (refine wpList_bytes (by rfl) (.tmp 8) 9 61 5 (by rfl) Tryz.underlying9 Tryz.underlying61 Tryz.underlying5 _ (by rfl) ?_; intro cap w2 hby hfr2 hsz2 hfz2)
  have hs2 : w2.heap.size = w.heap.size + 2 := by simp at hsz2; omega
  have HS2 := Lib.hid hs2
  clear hs2 hsz2 hfz2
  have hB0 : Bld w.heap.size (w.heap.size + 2) [] w2 := (Bld.made w _).fr hfr2 (by simp)
  go_loopw [11] (fun i wr => ∃ k : Nat, k ≤ l.length ∧ i = .int .i64 k ∧ Bld w.heap.size (w.heap.size + 2) (Lib.byteCells ((l.take k).flatMap (esc (l == [45])))) wr ∧ But (w.heap.size + 2) w.heap.size w2 wr)
    (fun i _ => l.length - (intOf i).toNat)
  case atStart => exact ⟨0, Nat.zero_le _, rfl, by simpa [Lib.byteCells] using hB0, But.refl _ _ _⟩
  case round =>
    obtain ⟨k, hk, rfl, hbld, hbut⟩ := hrel
    by_cases hlt : k < l.length
    · have hcell : wr.cell? ⟨w.heap.size + 1, k, none⟩ = some (.int .u8 (l[k].toNat : Nat)) := by
        rw [hbut.cell (by simp) (by simp)]
        have := hby k (by simpa using hlt)
        simpa using this
      obtain ⟨n, hn⟩ : ∃ n, n = l[k].toNat := ⟨_, rfl⟩
      have hn255 : n ≤ 255 := by have := l[k].toNat_lt; omega
      rw [← hn] at hcell
      have HN := Lib.hid hn
      clear hn
      have hfl := flat_length (l == [45]) (l.take k)
      have hfl2 : (Lib.byteCells ((l.take k).flatMap (esc (l == [45])))).length = ((l.take k).flatMap (esc (l == [45]))).length := Lib.byteCells_length _
      have htk : (l.take k).length ≤ k := List.length_take_le _ _
      have hbsz : w.heap.size + 2 ≤ wr.heap.size := by have := hbut.size; have := HS2.out; omega
      have HL : Hid ((Lib.byteCells ((l.take k).flatMap (esc (l == [45])))).length + 3 ≤ 140737488355328) := by
        show _ ≤ _
        omega
      clear hfl hfl2 htk
      have HF := Lib.hid (flat_snoc (l == [45]) l k hlt)
      by_cases hp : plainB (l == [45]) l[k] = true
      · have hp2 := hp
        simp only [plainB, Bool.and_eq_true, decide_eq_true_eq, Bool.not_eq_true', beq_eq_false_iff_ne, ne_eq] at hp2
        obtain ⟨⟨⟨h1, h2⟩, h3⟩, h4⟩ := hp2
        rw [← HN.out] at h1 h2
        have h3' : ((n : Int) != 37) = true := by
          rw [bne_iff_ne]
          intro e
          refine h3 (UInt8.toNat_inj.1 ?_)
          rw [← HN.out]; simp; omega
        have h4' : (l == [45]) = false := by simpa using h4
        have HP := Lib.hid hp
        clear hp h3 h4
        go_wp2_with fail
        refine (writeByte_calls _ _ _ _ _ hbld (by omega) hbsz (by have := HL.out; omega)).mono ?_
        rintro e w3 ⟨rfl, hb3, ht3⟩
        go_wp2_with fail
        go_roundw
        case rel =>
          refine ⟨k + 1, by omega, by go_num, ?_, hbut.trans ht3⟩
          have e1 : esc (l == [45]) l[k] = [l[k]] := by unfold esc; rw [if_pos HP.out]
          rw [HF.out, e1]
          have e2 : Lib.byteCells (List.flatMap (esc (l == [45])) (List.take k l) ++ [l[k]]) = Lib.byteCells (List.flatMap (esc (l == [45])) (List.take k l)) ++ [Value.int IntKind.u8 (n : Nat)] := by
            simp only [Lib.byteCells, List.map_append, List.map_cons, List.map_nil]
            rw [HN.out]
          rw [e2]
          exact hb3
        case measure => simp [intOf]; omega
      · have e1 : (n : Int) / 16 = ((n / 16 : Nat) : Int) := by omega
        have hs1 := fun w => slice_hex w (n / 16) (by omega)
        rw [← e1] at hs1
        clear e1
        have hs2 := fun w => slice_hex w (n % 16) (by omega)
        rw [← and15 n hn255] at hs2
        have HP := Lib.hid hp
        have hcs : ¬ 32 < n ∨ (32 < n ∧ ¬ n < 127) ∨ (32 < n ∧ n < 127 ∧ ((n : Int) != 37) = false) ∨ (32 < n ∧ n < 127 ∧ ((n : Int) != 37) = true ∧ (l == [45]) = true) := by
          by_cases h1 : 32 < n
          · by_cases h2 : n < 127
            · by_cases h3 : n = 37
              · exact .inr (.inr (.inl ⟨h1, h2, by subst h3; rfl⟩))
              · refine .inr (.inr (.inr ⟨h1, h2, by rw [bne_iff_ne]; omega, ?_⟩))
                have h3' : ¬ l[k] = 37 := fun e => h3 (by rw [HN.out, e]; rfl)
                have h1' : 32 < l[k].toNat := by rw [← HN.out]; exact h1
                have h2' : l[k].toNat < 127 := by rw [← HN.out]; exact h2
                simp only [plainB, h1', h2', decide_true, Bool.true_and, Bool.and_eq_true, Bool.not_eq_true', beq_eq_false_iff_ne, ne_eq, h3', not_false_eq_true, true_and] at hp
                simpa using hp
            · exact .inr (.inl ⟨h1, h2⟩)
          · exact .inl h1
        clear hp
        rcases hcs with h1 | ⟨h1, h2⟩ | ⟨h1, h2, h3⟩ | ⟨h1, h2, h3, h4⟩
        all_goals
          go_wp2_with fail
          go_still_tail 14, (by kernel_rfl)
          change wpList _ _ _ _ _ wr.drew
          have hbld3 : Bld w.heap.size (w.heap.size + 2) (Lib.byteCells ((l.take k).flatMap (esc (l == [45])))) wr.drew := hbld
          have hbut3 : But (w.heap.size + 2) w.heap.size w2 wr.drew := hbut.drew
          have hbsz3 : w.heap.size + 2 ≤ wr.drew.heap.size := hbsz
          clear hbld hbut hbsz
          generalize wr.drew = w3 at hbld3 hbut3 hbsz3 ⊢
          go_wp2_with fail
          refine (writeString_calls _ _ _ _ _ hbld3 (by omega) hbsz3 (by have := HL.out; show _ + 3 ≤ _; omega)).mono ?_
          rintro e w4 ⟨rfl, hb4, ht4⟩
          go_wp2_with fail
          go_roundw
          case rel =>
            refine ⟨k + 1, by omega, by go_num, ?_, hbut3.trans ht4⟩
            have e1 : esc (l == [45]) l[k] = [37, hexd (n / 16), hexd (n % 16)] := by unfold esc; rw [if_neg HP.out, HN.out]
            rw [HF.out, e1]
            have e2 : Lib.byteCells (List.flatMap (esc (l == [45])) (List.take k l) ++ [37, hexd (n / 16), hexd (n % 16)]) = Lib.byteCells (List.flatMap (esc (l == [45])) (List.take k l)) ++ Lib.strCells ({ data := #[37] } ++ bs [hexd (n / 16)] ++ bs [hexd (n % 16)]) := by
              simp only [Lib.byteCells, List.map_append]
              rfl
            rw [e2]
            exact hb4
          case measure => simp [intOf]; omega
    · have hkl : k = l.length := by omega
      have HK := Lib.hid hkl
      clear hkl
      go_wp2_with fail
      refine (Tryz.Builder_String_any _ _ _ _ (hbld.is (by omega)) (by have := hbut.size; have := HS2.out; omega)).mono ?_
      rintro e w3 ⟨rfl, hb3⟩
      go_wp2_with fail
      go_ret
      refine ⟨?_, ?_⟩
      · rw [HK.out, List.take_length]
        unfold hWord
        rw [hn0]
        rfl
      · have h1 : Below w.heap.size w2 wr := hbut.below (by omega) (by omega)
        have h2 : Fr [] w w2 := ((Fr.refl [] w).alloc _).trans hfr2 (by simp)
        exact Fr.of_below ((h2.below.trans h1).trans hb3)

theorem word_calls (l : List UInt8) (hl : l.length ≤ 17592186044416) (w : World) :
    Calls Tryz.prog 10 #[.string (bs l)] w fun e w' => e = .returned (.string (bs (hWord l))) ∧ Fr [] w w' := by
  by_cases h : l = []
  · subst h
    exact (word_empty w).mono fun e w' ⟨h1, h2⟩ => ⟨h1, h2 ▸ Fr.refl _ _⟩
  · exact word_some l h hl w
end Go.Proofs.YtcaeppncippknaaGreatDoor
