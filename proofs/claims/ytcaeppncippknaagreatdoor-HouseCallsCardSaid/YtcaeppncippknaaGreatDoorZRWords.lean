/- hoardref31.Words: a line's words, as house.words finds them. Conditions: the line's length is below 2^20. -/
import Derived.Test.YtcaeppncippknaaGreatDoorZTextR
import Derived.Test.YtcaeppncippknaaGreatDoorZRTold
import Derived.Test.YtcaeppncippknaaGreatDoorZPlainA
namespace Go.Proofs.YtcaeppncippknaaGreatDoor
open Go Go.RowKit

theorem extract_bs (l : List UInt8) (j k : Nat) : (bs l).extract j k = bs ((l.drop j).take (k - j)) := by
  apply ByteArray.ext
  simp [ByteArray.data_extract]
def frV : Option Nat → Int
  | some j => (j : Nat)
  | none => -1
/-- Where the loop stands: the words found so far, and the one that is begun. -/
structure RW (l : List UInt8) (k : Nat) (j : Option Nat) (acc : List (List UInt8)) : Prop where
  words : wordsP l = acc ++ wordsP (l.drop (j.getD k))
  open_ : ∀ m, j = some m → m < k ∧ k ≤ l.length ∧ 32 ∉ (l.drop m).take (k - m)
  few : acc.length ≤ k
theorem RW.start (l : List UInt8) : RW l 0 none [] := ⟨by simp, fun m h => (by cases h), Nat.le_refl _⟩
theorem RW.begin {l : List UInt8} {k : Nat} {acc : List (List UInt8)} (h : RW l k none acc) (hk : k < l.length) (hc : l[k] ≠ 32) : RW l (k + 1) (some k) acc := by
  refine ⟨h.words, fun m hm => ?_, by have := h.few; omega⟩
  obtain rfl := Option.some.inj hm
  refine ⟨by omega, by omega, ?_⟩
  have e : k + 1 - k = 1 := by omega
  rw [e, List.drop_eq_getElem_cons hk, List.take_succ_cons, List.take_zero]
  simpa using Ne.symm hc
theorem RW.more {l : List UInt8} {k j : Nat} {acc : List (List UInt8)} (h : RW l k (some j) acc) (hk : k < l.length) (hc : l[k] ≠ 32) : RW l (k + 1) (some j) acc := by
  refine ⟨h.words, fun m hm => ?_, by have := h.few; omega⟩
  obtain rfl := Option.some.inj hm
  obtain ⟨h1, h2, h3⟩ := h.open_ j rfl
  refine ⟨by omega, by omega, ?_⟩
  have e : k + 1 - j = (k - j) + 1 := by omega
  have hl : k - j < (l.drop j).length := by rw [List.length_drop]; omega
  rw [e, List.take_succ_eq_append_getElem hl]
  intro hm
  rcases List.mem_append.1 hm with hm | hm
  · exact h3 hm
  · have e2 : (l.drop j)[k - j] = l[k] := by
      rw [List.getElem_drop]
      congr 1; omega
    rw [e2] at hm
    exact hc (List.mem_singleton.1 hm).symm
theorem RW.blank {l : List UInt8} {k : Nat} {acc : List (List UInt8)} (h : RW l k none acc) (hk : ∀ (h : k < l.length), l[k] = 32) : RW l (k + 1) none acc := by
  refine ⟨?_, fun m hm => by (cases hm), by have := h.few; omega⟩
  rw [h.words]
  congr 1
  show wordsP (l.drop k) = wordsP (l.drop (k + 1))
  by_cases hlt : k < l.length
  · rw [List.drop_eq_getElem_cons hlt, hk hlt, wordsP_blank]
  · rw [List.drop_eq_nil_of_le (by omega), List.drop_eq_nil_of_le (by omega)]
theorem RW.shut {l : List UInt8} {k j : Nat} {acc : List (List UInt8)} (h : RW l k (some j) acc) (hk : ∀ (h : k < l.length), l[k] = 32) : RW l (k + 1) none (acc ++ [(l.drop j).take (k - j)]) := by
  obtain ⟨h1, h2, h3⟩ := h.open_ j rfl
  refine ⟨?_, fun m hm => by (cases hm), by rw [List.length_append, List.length_singleton]; have := h.few; omega⟩
  rw [h.words, List.append_assoc]
  congr 1
  show wordsP (l.drop j) = [(l.drop j).take (k - j)] ++ wordsP (l.drop (k + 1))
  have hw : IsWd ((l.drop j).take (k - j)) := by
    refine ⟨fun e => ?_, h3⟩
    have := congrArg List.length e
    rw [List.length_take, List.length_drop] at this
    simp at this; omega
  have e1 : l.drop j = (l.drop j).take (k - j) ++ l.drop k := by
    conv => lhs; rw [← List.take_append_drop (k - j) (l.drop j)]
    rw [List.drop_drop, show j + (k - j) = k by omega]
  conv => lhs; rw [e1]
  by_cases hlt : k < l.length
  · rw [List.drop_eq_getElem_cons hlt, hk hlt, wordsP_app, wordsP_one hw]
  · rw [List.drop_eq_nil_of_le (show l.length ≤ k by omega), List.drop_eq_nil_of_le (show l.length ≤ k + 1 by omega), List.append_nil, wordsP_one hw]
    rfl

set_option maxHeartbeats 4000000 in
set_option maxRecDepth 100000 in
theorem rwords_calls (l : List UInt8) (hl : l.length ≤ 1048576) (w : World) :
    Calls Tryz.prog 44 #[.string (bs l)] w fun e w' => ∃ v, e = .returned v ∧ Own w.heap.size w' v (wordsP l) ∧ Fr [] w w' := by
  have hsz : (bs l).size = l.length := bs_size l
  go_enter Tryz.func44, Tryz.ntmps44
  go_wp2_with fail
  go_loopg [3, 4, 5] (l.length + 1) (fun g v f i wr => ∃ (k : Nat) (j : Option Nat) (u : Value) (acc : List (List UInt8)), k + g = l.length + 1 ∧ i = .int .i64 k ∧ f = .int .i64 (frV j) ∧ u = v ∧ Own w.heap.size wr u acc ∧ Below w.heap.size w wr ∧ RW l k j acc)
  case atStart => exact ⟨0, none, _, [], by omega, rfl, rfl, rfl, ⟨rfl, .inl ⟨rfl, rfl⟩⟩, Below.refl _ _, RW.start l⟩
  case round =>
    obtain ⟨k, j, v, acc, hkg, rfl, rfl, rfl, hown, hbk, hrw⟩ := hrel
    have hszr : w.heap.size ≤ wr.heap.size := hbk.size
    have HB := Lib.hid hbk
    have HOWN := Lib.hid hown
    have HRW := Lib.hid hrw
    clear hbk hown hrw
    by_cases hle : k ≤ l.length
    · by_cases hin : ∃ h : k < l.length, l[k] ≠ 32
      · obtain ⟨hlt, hc⟩ := hin
        have hx0 := run_index_str hlt
        have HC := Lib.hid hc
        obtain ⟨n, hn⟩ : ∃ n, n = l[k].toNat := ⟨_, rfl⟩
        have hn32 : n ≠ 32 := fun e => hc (UInt8.toNat_inj.1 (by rw [← hn, e]; rfl))
        have hn32' : ((n : Int) != 32) = true := by rw [bne_iff_ne]; omega
        rw [← hn] at hx0
        clear hn hc
        cases j with
        | none =>
          unfold frV
          go_wp2_with fail
          go_roundg (gk - 1)
          case measure => omega
          case rel => exact ⟨k + 1, some k, v, acc, by omega, by go_num, rfl, rfl, HOWN.out, HB.out, HRW.out.begin hlt HC.out⟩
        | some j =>
          have hj := HRW.out.open_ j rfl
          unfold frV
          go_wp2_with fail
          go_roundg (gk - 1)
          case measure => omega
          case rel => exact ⟨k + 1, some j, v, acc, by omega, by go_num, rfl, rfl, HOWN.out, HB.out, HRW.out.more hlt HC.out⟩
      · have HK : Hid (∀ (h : k < l.length), l[k] = 32) := fun h => Classical.byContradiction fun e => hin ⟨h, e⟩
        clear hin
        have hcs : ¬ k < l.length ∨ ∃ h : k < l.length, (Instr.index 9 (.string (bs l)) (.int .i64 (k : Nat))).run Tryz.prog wr = .ok (.int .u8 32) wr := by
          by_cases hlt : k < l.length
          · refine .inr ⟨hlt, ?_⟩
            rw [run_index_str hlt wr, HK.out hlt]
            rfl
          · exact .inl hlt
        cases j with
        | none =>
          unfold frV
          rcases hcs with hkl | ⟨hlt, hx0⟩
          · go_wp2_with fail
            go_roundg (gk - 1)
            case measure => omega
            case rel => exact ⟨k + 1, none, v, acc, by omega, by go_num, rfl, rfl, HOWN.out, HB.out, HRW.out.blank HK.out⟩
          · go_wp2_with fail
            go_roundg (gk - 1)
            case measure => omega
            case rel => exact ⟨k + 1, none, v, acc, by omega, by go_num, rfl, rfl, HOWN.out, HB.out, HRW.out.blank HK.out⟩
        | some j =>
          have hj := HRW.out.open_ j rfl
          obtain ⟨hj1, hj2, _⟩ := hj
          have hex := extract_bs l j k
          have HSH := Lib.hid (HRW.out.shut HK.out)
          have hxl : ((l.drop j).take (k - j)).length ≤ 1048576 := by rw [List.length_take, List.length_drop]; omega
          have hfew := HRW.out.few
          generalize (l.drop j).take (k - j) = x at hex HSH hxl
          have hown' : wr.ownsRow w.heap.size 9 1 v acc.length (acc.map strV) := HOWN.out
          have HOWN2 := Lib.hid hown'
          clear hown'
          obtain ⟨i0, hi, hz0, hz1, hz2⟩ := info_parts infoStr
          unfold frV
          rcases hcs with hkl | ⟨hlt, hx0⟩
          all_goals
            go_wp2_with (at_builtin; refine wpList_append_own _ rfl _ _ 48 rfl w.heap.size 9 i0 (.string ⟨#[]⟩) 1 16 Tryz.underlying48 hi hz0 hz1 hz2 rfl (by decide) _ _ _ rfl (HOWN2.out.alloc _) ⟨wr.heap.size, 0, none⟩ 1 1 [.string (bs x)] rfl rfl ?c1 ?c2 ?c3 ?c4 ?c5 ?_)
            case c1 =>
              intro q u hq
              match q, hq with
              | 0, hq => simp at hq; subst hq; simp [Addr.add]
            case c2 => intro u hu; simp at hu; subst hu; rfl
            case c3 => unfold maxLen; omega
            case c4 => omega
            case c5 => simp; omega
            intro v' w3 hown' hgrow _
            go_wp2_with fail
            go_roundg (gk - 1)
            case measure => omega
            case rel =>
              refine ⟨k + 1, none, v', acc ++ [x], by omega, by go_num, rfl, rfl, ?_, (HB.out.alloc hszr _).grown hgrow (by simp; omega) (fun q hq => (HOWN2.out.lt q hq).1), HSH.out⟩
              show World.ownsRow _ _ _ _ _ _ _
              rw [List.length_append, List.map_append]
              exact hown'
    · have hj : j = none := by
        cases j with
        | none => rfl
        | some m => have := (HRW.out.open_ m rfl).2.1; omega
      subst hj
      have HW : Hid (wordsP l = acc) := by
        show _ = _
        rw [HRW.out.words]
        show acc ++ wordsP (l.drop k) = acc
        rw [List.drop_eq_nil_of_le (by omega), wordsP_nil, List.append_nil]
      go_wp2_with fail
      go_ret
      exact ⟨v, rfl, by rw [HW.out]; exact HOWN.out, Fr.of_below HB.out⟩
end Go.Proofs.YtcaeppncippknaaGreatDoor
