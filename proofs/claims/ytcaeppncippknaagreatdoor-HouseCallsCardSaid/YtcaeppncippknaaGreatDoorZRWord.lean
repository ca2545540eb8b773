/- hoardref31.Word: the word of a text, as house.Word has it. Conditions: the text's length is below 2^40. -/
import Derived.Test.YtcaeppncippknaaGreatDoorZBuilder
import Derived.Test.YtcaeppncippknaaGreatDoorZBaseA
import Derived.Test.YtcaeppncippknaaGreatDoorZPlainA
import Derived.Test.YtcaeppncippknaaGreatDoorZShelf
import Derived.Deep.RegionHeld3
import Derived.Deep.AppendLies
namespace Go.Proofs.YtcaeppncippknaaGreatDoor
open Go Go.RowKit

/-- A row of bytes of the call's own, from block B on. -/
def OwnB (B : Nat) (w : World) (v : Value) (l : List UInt8) : Prop := w.ownsRow B 5 1 v l.length (Lib.byteCells l)

theorem string_own {B : Nat} {w : World} {v : Value} {l : List UInt8} (h : OwnB B w v l) : (convert 61 9 v).run Tryz.prog w = .ok (.string (bs l)) w := by
  obtain ⟨_, ⟨rfl, h0⟩ | ⟨g, cap, cur, rfl, _, hb, _, _, _, ht⟩⟩ := h
  · obtain rfl := List.length_eq_zero_iff.1 h0
    kernel_rfl
  · refine run_convert_bytes_back (P := Tryz.prog) w 61 9 5 ⟨g, 0, none⟩ cap l Tryz.underlying61 Tryz.underlying5 Tryz.underlying9 ?_
    intro j hj
    rw [Lib.add_plain, Nat.zero_add, Lib.cell_of_heap hb, ← Array.getElem?_toList]
    have e : (cur.toList.take (l.length * 1))[j]? = cur.toList[j]? := List.getElem?_take_of_lt (by omega)
    rw [← e, ht]
    simp [Lib.byteCells, hj]
theorem index_hex (w : World) : ∀ m : Nat, m < 16 → (Instr.index 9 (.string ⟨#[48, 49, 50, 51, 52, 53, 54, 55, 56, 57, 97, 98, 99, 100, 101, 102]⟩) (.int .u8 (m : Nat))).run Tryz.prog w = .ok (.int .u8 ((hexd m).toNat : Nat)) w
  | 0, _ => by kernel_rfl
  | 1, _ => by kernel_rfl
  | 2, _ => by kernel_rfl
  | 3, _ => by kernel_rfl
  | 4, _ => by kernel_rfl
  | 5, _ => by kernel_rfl
  | 6, _ => by kernel_rfl
  | 7, _ => by kernel_rfl
  | 8, _ => by kernel_rfl
  | 9, _ => by kernel_rfl
  | 10, _ => by kernel_rfl
  | 11, _ => by kernel_rfl
  | 12, _ => by kernel_rfl
  | 13, _ => by kernel_rfl
  | 14, _ => by kernel_rfl
  | 15, _ => by kernel_rfl
  | m + 16, h => absurd h (by omega)
theorem rand15 (n : Nat) (h : n ≤ 255) : bits BinOp.and IntKind.u8 (n : Nat) 15 = ((n % 16 : Nat) : Int) := by
  have : ∀ m : Fin 256, bits BinOp.and IntKind.u8 (m.val : Nat) 15 = ((m.val % 16 : Nat) : Int) := by decide +kernel
  exact this ⟨n, by omega⟩

set_option maxHeartbeats 2000000 in
set_option maxRecDepth 100000 in
theorem rword_calls (l : List UInt8) (hl : l.length ≤ 17592186044416) (w : World) :
    Calls Tryz.prog 11 #[.string (bs l)] w fun e w' => e = .returned (.string (bs (hWord l))) ∧ Fr [] w w' := by
  have hsz : (bs l).size = l.length := bs_size l
  go_enter Tryz.func11, Tryz.ntmps11
  by_cases hne : l = []
  · subst hne
    go_wp2
    go_ret
    exact ⟨rfl, Fr.refl _ _⟩
  have hn0 : l.isEmpty = false := by simpa using hne
  go_wp2_with fail
  go_loopg [3, 4] l.length (fun g v i wr => ∃ (k : Nat) (u : Value), k + g = l.length ∧ i = .int .i64 k ∧ u = v ∧ OwnB w.heap.size wr u ((l.take k).flatMap (esc (l == [45]))) ∧ Below w.heap.size w wr)
  case atStart => exact ⟨0, _, by omega, rfl, rfl, ⟨rfl, .inl ⟨rfl, rfl⟩⟩, Below.refl _ _⟩
  case round =>
    obtain ⟨k, v, hkg, rfl, rfl, hown, hbk⟩ := hrel
    by_cases hlt : k < l.length
    · obtain ⟨n, hn⟩ : ∃ n, n = (bs l)[k].toNat := ⟨_, rfl⟩
      have hnl : n = l[k].toNat := by rw [hn]; rfl
      have hn255 : n ≤ 255 := by have := l[k].toNat_lt; omega
      obtain ⟨i0, hi, hz0, hz1, hz2⟩ := info_parts infoByte
      have HF := Lib.hid (flat_snoc (l == [45]) l k hlt)
      have hfl := flat_length (l == [45]) (l.take k)
      have htk : (l.take k).length ≤ k := List.length_take_le _ _
      go_upto_region 8 with fail
      rw [← hn]
      clear hn hsz
      have hszr : w.heap.size ≤ wr.heap.size := hbk.size
      have HB := Lib.hid hbk
      have HNL := Lib.hid hnl
      clear hbk hnl
      generalize hacc : (l.take k).flatMap (esc (l == [45])) = acc at *
      have hlen : acc.length + 3 ≤ 140737488355328 := by omega
      have hown' : wr.ownsRow w.heap.size 5 1 v acc.length (Lib.byteCells acc) := hown
      have HOWN := Lib.hid hown'
      clear hown hown' hfl htk hacc
      by_cases hp : plainB (l == [45]) l[k] = true
      · have hp2 := hp
        simp only [plainB, Bool.and_eq_true, decide_eq_true_eq, Bool.not_eq_true', beq_eq_false_iff_ne, ne_eq] at hp2
        obtain ⟨⟨⟨h1, h2⟩, h3⟩, h4⟩ := hp2
        rw [← HNL.out] at h1 h2
        have h3' : ((n : Int) != 37) = true := by
          rw [bne_iff_ne]
          intro e
          refine h3 (UInt8.toNat_inj.1 ?_)
          rw [← HNL.out]; simp; omega
        have h4' : (l == [45]) = false := by simpa using h4
        have HP := Lib.hid hp
        clear hp h3 h4
        go_wp2_with (at_builtin; refine wpList_append_own _ rfl _ _ 61 rfl w.heap.size 5 i0 (.int .u8 0) 1 1 Tryz.underlying61 hi hz0 hz1 hz2 rfl (by decide) _ _ _ rfl (HOWN.out.alloc _) ⟨wr.heap.size, 0, none⟩ 1 1 [.int .u8 (n : Nat)] rfl rfl ?c1 ?c2 ?c3 ?c4 ?c5 ?_)
        case c1 =>
          intro j u hj
          match j, hj with
          | 0, hj => simp at hj; subst hj; simp [Addr.add]
        case c2 => intro u hu; simp at hu; subst hu; rfl
        case c3 => unfold maxLen; omega
        case c4 => omega
        case c5 => simp; omega
        intro v' w3 hown' hgrow _
        go_wp2_with fail
        go_roundg (gk - 1)
        case measure => omega
        case rel =>
          refine ⟨k + 1, v', by omega, by go_num, rfl, ?_, ?_⟩
          · have e1 : esc (l == [45]) l[k] = [l[k]] := by unfold esc; rw [if_pos HP.out]
            rw [HF.out, e1]
            show World.ownsRow _ _ _ _ _ _ _
            have e2 : Lib.byteCells (acc ++ [l[k]]) = Lib.byteCells acc ++ [Value.int IntKind.u8 (n : Nat)] := by
              simp only [Lib.byteCells, List.map_append, List.map_cons, List.map_nil]
              rw [HNL.out]
            rw [e2, List.length_append]
            exact hown'
          · exact (HB.out.alloc hszr _).grown hgrow (by simp; omega) (fun q hq => (HOWN.out.lt q hq).1)
      · have e1 : (n : Int) / 16 = ((n / 16 : Nat) : Int) := by omega
        have hs1 := fun w => index_hex w (n / 16) (by omega)
        rw [← e1] at hs1
        clear e1
        have hs2 := fun w => index_hex w (n % 16) (by omega)
        rw [← rand15 n hn255] at hs2
        have HP := Lib.hid hp
        have hcs : ¬ 32 < n ∨ (32 < n ∧ ¬ n < 127) ∨ (32 < n ∧ n < 127 ∧ ((n : Int) != 37) = false) ∨ (32 < n ∧ n < 127 ∧ ((n : Int) != 37) = true ∧ (l == [45]) = true) := by
          by_cases h1 : 32 < n
          · by_cases h2 : n < 127
            · by_cases h3 : n = 37
              · exact .inr (.inr (.inl ⟨h1, h2, by subst h3; rfl⟩))
              · refine .inr (.inr (.inr ⟨h1, h2, by rw [bne_iff_ne]; omega, ?_⟩))
                have h3' : ¬ l[k] = 37 := fun e => h3 (by rw [HNL.out, e]; rfl)
                have h1' : 32 < l[k].toNat := by rw [← HNL.out]; exact h1
                have h2' : l[k].toNat < 127 := by rw [← HNL.out]; exact h2
                simp only [plainB, h1', h2', decide_true, Bool.true_and, Bool.and_eq_true, Bool.not_eq_true', beq_eq_false_iff_ne, ne_eq, h3', not_false_eq_true, true_and] at hp
                simpa using hp
            · exact .inr (.inl ⟨h1, h2⟩)
          · exact .inl h1
        clear hp
        rcases hcs with h1 | ⟨h1, h2⟩ | ⟨h1, h2, h3⟩ | ⟨h1, h2, h3, h4⟩
        all_goals
          go_wp2_with fail
          have hown3 : wr.drew.ownsRow w.heap.size 5 1 v acc.length (Lib.byteCells acc) := HOWN.out
          have hb3 : Below w.heap.size w wr.drew := ⟨HB.out.os, HB.out.tape, HB.out.output, HB.out.size, HB.out.block⟩
          have HOWN3 := Lib.hid hown3
          have HB3 := Lib.hid hb3
          clear hown3 hb3
          go_region_held3 (fun _ => True) (trivial)
            (first | (refine step_append_lies _ (by rfl) _ _ _ (by rfl) w.heap.size 5 i0 (.int .u8 0) 1 1 Tryz.underlying61 hi hz0 hz1 hz2 rfl (by decide) v _ _ (by rfl) (HOWN3.out.alloc _) ⟨wr.heap.size, 0, none⟩ 3 3 [.int .u8 37, .int .u8 ((hexd (n / 16)).toNat : Nat), .int .u8 ((hexd (n % 16)).toNat : Nat)] (by rfl) (by rfl) (World.news_of_block (cs := #[.int .u8 37, .int .u8 ((hexd (n / 16)).toNat : Nat), .int .u8 ((hexd (n % 16)).toNat : Nat)]) (t := 5) (fr := (0, 0)) (heap_alloc_new wr.drew _)) (by simp [Value.oneCell']) (by decide) (by unfold maxLen; omega) (by omega) (by simp; omega) (wr.heap.size + 1) (by simp) ?_
                      intro gg cap w4 hown' hgrow hat hlt4))
          all_goals
            go_wp2_with fail
            go_roundg (gk - 1)
            case measure => omega
            case rel =>
              refine ⟨k + 1, _, by omega, by go_num, rfl, ?_, ?_⟩
              · have e1 : esc (l == [45]) l[k] = [37, hexd (n / 16), hexd (n % 16)] := by unfold esc; rw [if_neg HP.out, HNL.out]
                rw [HF.out, e1]
                show World.ownsRow _ _ _ _ _ _ _
                have e2 : Lib.byteCells (acc ++ [37, hexd (n / 16), hexd (n % 16)]) = Lib.byteCells acc ++ [.int .u8 37, .int .u8 ((hexd (n / 16)).toNat : Nat), .int .u8 ((hexd (n % 16)).toNat : Nat)] := by
                  simp only [Lib.byteCells, List.map_append]
                  rfl
                rw [e2, List.length_append]
                exact hown'
              · exact (HB3.out.alloc hszr _).grown hgrow (by simp; omega) (fun q hq => (HOWN3.out.lt q hq).1)
    · have hkl : k = l.length := by omega
      have HK := Lib.hid hkl
      clear hkl
      have hcv := string_own hown
      go_wp2_with fail
      go_ret
      refine ⟨?_, Fr.of_below hbk⟩
      rw [HK.out, List.take_length]
      unfold hWord
      rw [hn0]
      rfl
end Go.Proofs.YtcaeppncippknaaGreatDoor
