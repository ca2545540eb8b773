/- hoardref31.digit: the value of a digit of sixteen, or -1. Conditions: none. -/
import Derived.Test.YtcaeppncippknaaGreatDoorZRWord
import Derived.Test.YtcaeppncippknaaGreatDoorZPlainA
import Derived.Test.YtcaeppncippknaaGreatDoorZText
namespace Go.Proofs.YtcaeppncippknaaGreatDoor
open Go Go.RowKit

def dgV : Option Nat → Int
  | some x => (x : Nat)
  | none => -1
theorem hexv_none : ∀ c : Fin 256, (∀ j : Fin 16, (hexd j.val).toNat ≠ c.val) → hexv (UInt8.ofNat c.val) = none := by decide +kernel
theorem index_hex64 (w : World) : ∀ m : Nat, m < 16 → (Instr.index 9 (.string ⟨#[48, 49, 50, 51, 52, 53, 54, 55, 56, 57, 97, 98, 99, 100, 101, 102]⟩) (.int .i64 (m : Nat))).run Tryz.prog w = .ok (.int .u8 ((hexd m).toNat : Nat)) w
  | 0, _ => by kernel_rfl
  | 1, _ => by kernel_rfl
  | 2, _ => by kernel_rfl
  | 3, _ => by kernel_rfl
  | 4, _ => by kernel_rfl
  | 5, _ => by kernel_rfl
  | 6, _ => by kernel_rfl
  | 7, _ => by kernel_rfl
  | 8, _ => by kernel_rfl
  | 9, _ => by kernel_rfl
  | 10, _ => by kernel_rfl
  | 11, _ => by kernel_rfl
  | 12, _ => by kernel_rfl
  | 13, _ => by kernel_rfl
  | 14, _ => by kernel_rfl
  | 15, _ => by kernel_rfl
  | m + 16, h => absurd h (by omega)

set_option maxRecDepth 100000 in
theorem digit_calls (c : UInt8) (w : World) : Calls Tryz.prog 32 #[.int .u8 (c.toNat : Nat)] w fun e w' => e = .returned (.int .i64 (dgV (hexv c))) ∧ w = w' := by
  obtain ⟨n, hn⟩ : ∃ n, n = c.toNat := ⟨_, rfl⟩
  rw [← hn]
  have HN := Lib.hid hn
  clear hn
  go_enter Tryz.func32, Tryz.ntmps32
  go_wp2_with fail
  go_loopw [3] (fun i wr => ∃ k : Nat, k ≤ 16 ∧ i = .int .i64 k ∧ w = wr ∧ Hid (∀ j, j < k → (hexd j).toNat ≠ n)) (fun i _ => 16 - (intOf i).toNat)
  case atStart => exact ⟨0, by omega, rfl, rfl, fun j hj => by omega⟩
  case round =>
    obtain ⟨k, hk, rfl, rfl, HJ⟩ := hrel
    by_cases hlt : k < 16
    · have hs := fun w => index_hex64 w k hlt
      obtain ⟨m, hm⟩ : ∃ m, m = (hexd k).toNat := ⟨_, rfl⟩
      have HM := Lib.hid hm
      rw [← hm] at hs
      clear hm
      by_cases hq : m = n
      · subst hq
        have HV : Hid (dgV (hexv c) = (k : Int)) := by
          show _ = _
          have e : c = hexd k := UInt8.toNat_inj.1 (HN.out.symm.trans HM.out)
          rw [e, hexv_hexd ⟨k, hlt⟩]
          rfl
        go_wp2_with fail
        go_ret
        exact ⟨by rw [HV.out]; rfl, rfl⟩
      · go_wp2_with fail
        go_roundw
        case rel =>
          refine ⟨k + 1, by omega, by go_num, trivial, ?_⟩
          show ∀ j, j < k + 1 → (hexd j).toNat ≠ n
          intro j hj
          by_cases e : j = k
          · subst e; rw [← HM.out]; exact hq
          · exact HJ.out j (by omega)
        case measure => simp [intOf]; omega
    · have HV : Hid (dgV (hexv c) = -1) := by
        show _ = _
        have h := hexv_none ⟨c.toNat, c.toNat_lt⟩ (fun j e => HJ.out j.val (by omega) (by rw [e, HN.out]))
        have e : UInt8.ofNat c.toNat = c := by simp
        rw [e] at h
        rw [h]
        rfl
      go_wp2_with fail
      go_ret
      exact ⟨by rw [HV.out]; rfl, rfl⟩
end Go.Proofs.YtcaeppncippknaaGreatDoor
/- hoardref31.Text: the text that a word is, or none, as house.Text has it. Conditions: the word's length is below 2^20. -/
namespace Go.Proofs.YtcaeppncippknaaGreatDoor
open Go Go.RowKit

theorem run_index_str {l : List UInt8} {k : Nat} (h : k < l.length) (w : World) : (Instr.index 9 (.string (bs l)) (.int .i64 (k : Nat))).run Tryz.prog w = .ok (.int .u8 (l[k].toNat : Nat)) w := by
  rw [run_index_string w 9 (bs l) .i64 (k : Nat) Tryz.underlying9, dif_pos ⟨by omega, by rw [bs_size]; omega⟩]
  rfl
theorem drop_at {l : List UInt8} {k : Nat} (h : k < l.length) : l.drop k = l[k] :: l.drop (k + 1) := List.drop_eq_getElem_cons h
theorem dec_short1 : dec [37] = none := rfl
theorem dec_short2 (a : UInt8) : dec [37, a] = none := rfl
theorem dec_plain {c : UInt8} (h : c ≠ 37) (r : List UInt8) : dec (c :: r) = (dec r).map (c :: ·) := by
  rw [dec]
  · rw [if_neg h]
  · intro a b r' h1 _; exact h h1
theorem hexv_le {c : UInt8} {x : Nat} (h : hexv c = some x) : x ≤ 15 := by
  unfold hexv at h
  split at h
  · have := Option.some.inj h; omega
  · split at h
    · have := Option.some.inj h; omega
    · cases h
theorem dec_no {l : List UInt8} (hd : l ≠ [45]) (h : dec l = none) : hText l = none := by
  unfold hText
  rw [if_neg hd, h]
  rfl
theorem dec_yes {l acc : List UInt8} (hd : l ≠ [45]) (h : dec l = some acc) : hText l = if hWord acc = l then some acc else none := by
  unfold hText
  rw [if_neg hd, h]
  rfl
theorem digit_n {n : Nat} {V : Int} (h : Hid (∃ c : UInt8, n = c.toNat ∧ dgV (hexv c) = V)) (w : World) : Calls Tryz.prog 32 #[.int .u8 (n : Nat)] w fun e w' => e = .returned (.int .i64 V) ∧ w = w' := by
  obtain ⟨c, rfl, rfl⟩ := h.out
  exact digit_calls c w
theorem OwnB.fr {B : Nat} {w w' : World} {v : Value} {l : List UInt8} (h : OwnB B w v l) (hf : Fr [] w w') : OwnB B w' v l := by
  refine ⟨h.1, ?_⟩
  rcases h.2 with h | ⟨g, cap, cur, hv, hg, hh, r⟩
  · exact .inl h
  · exact .inr ⟨g, cap, cur, hv, hg, hf.blockAs hh (by simp), r⟩

set_option maxRecDepth 100000 in
theorem rtext_dash (w : World) : Calls Tryz.prog 9 #[.string (bs [45])] w fun e w' => e = .returned (ResT (hText [45])) ∧ Fr [] w w' := by
  have hcv : ∀ w, (convert 61 9 (.slice none 0 0)).run Tryz.prog w = .ok (.string (bs [])) w := fun w => string_own (B := 0) (l := []) ⟨rfl, .inl ⟨rfl, rfl⟩⟩
  have e1 : hWord [] = [45] := rfl
  have HT : Hid (hText [45] = some []) := hText_word []
  go_enter Tryz.func9, Tryz.ntmps9
  go_wp2_with fail
  go_loopg [4, 5] 1 (fun _ v i wr => v = .slice none 0 0 ∧ i = .int .i64 0 ∧ w = wr)
  case atStart => exact ⟨rfl, rfl, rfl⟩
  case round =>
    obtain ⟨rfl, rfl, rfl⟩ := hrel
    go_wp2_with (go_at_call 11; refine (rword_calls [] (by decide) _).mono ?_)
    rintro e w2 ⟨rfl, hf2⟩
    rw [e1]
    go_wp2_with fail
    go_ret2
    rw [HT.out]
    exact ⟨rfl, hf2⟩

set_option maxHeartbeats 4000000 in
set_option maxRecDepth 100000 in
theorem rtext_other (l : List UInt8) (hd : l ≠ [45]) (hl : l.length ≤ 1048576) (w : World) :
    Calls Tryz.prog 9 #[.string (bs l)] w fun e w' => e = .returned (ResT (hText l)) ∧ Fr [] w w' := by
  have hsz : (bs l).size = l.length := bs_size l
  go_enter Tryz.func9, Tryz.ntmps9
  go_wp2_with fail
  go_loopg [4, 5] l.length (fun g v i wr => ∃ (k : Nat) (u : Value) (acc : List UInt8), k + g = l.length ∧ i = .int .i64 k ∧ u = v ∧ OwnB w.heap.size wr u acc ∧ Below w.heap.size w wr ∧ acc.length ≤ k ∧ Hid (dec l = (dec (l.drop k)).map (acc ++ ·)))
  case atStart => exact ⟨0, _, [], by omega, rfl, rfl, ⟨rfl, .inl ⟨rfl, rfl⟩⟩, Below.refl _ _, Nat.le_refl _, by show _ = _; simp⟩
  case round =>
    obtain ⟨k, v, acc, hkg, rfl, rfl, hown, hbk, hacc, HD⟩ := hrel
    obtain ⟨i0, hi, hz0, hz1, hz2⟩ := info_parts infoByte
    have hszr : w.heap.size ≤ wr.heap.size := hbk.size
    have HB := Lib.hid hbk
    have hown' : wr.ownsRow w.heap.size 5 1 v acc.length (Lib.byteCells acc) := hown
    have HOWN := Lib.hid hown'
    have hdash : (l == [45]) = false := by simpa using hd
    by_cases hlt : k < l.length
    · clear hown hown' hbk
      have hx0 := run_index_str hlt
      have hdr := drop_at hlt
      generalize l[k] = c at hx0 hdr
      by_cases hc : c = 37
      · by_cases h2 : k + 2 < l.length
        · have hx1 := fun w => run_index_str (l := l) (k := k + 1) (by omega) w
          have hx2 := run_index_str (l := l) (k := k + 2) h2
          have hdr1 := drop_at (l := l) (k := k + 1) (by omega)
          have hdr2 := drop_at (l := l) (k := k + 2) h2
          rw [hdr1, hdr2] at hdr
          clear hdr1 hdr2
          generalize l[k + 1] = a at hx1 hdr
          generalize l[k + 2] = b at hx2 hdr
          subst hc
          have e37 : (((37 : UInt8).toNat : Nat) : Int) = 37 := rfl
          rw [e37] at hx0
          have c1 : ((k + 1 : Nat) : Int) = (k : Int) + 1 := by omega
          have c2 : ((k + 2 : Nat) : Int) = (k : Int) + 2 := by omega
          simp only [c1] at hx1
          simp only [c2] at hx2
          clear c1 c2
          have HDR := Lib.hid hdr
          clear hdr e37
          obtain ⟨na, hna⟩ : ∃ n, n = a.toNat := ⟨_, rfl⟩
          obtain ⟨nb, hnb⟩ : ∃ n, n = b.toNat := ⟨_, rfl⟩
          rw [← hna] at hx1
          rw [← hnb] at hx2
          have HNA := Lib.hid hna
          have HNB := Lib.hid hnb
          clear hna hnb
          by_cases hok : ∃ x y, hexv a = some x ∧ hexv b = some y
          · obtain ⟨x, y, ha, hb⟩ := hok
            have HVA : Hid (∃ c : UInt8, na = c.toNat ∧ dgV (hexv c) = (x : Nat)) := ⟨a, HNA.out, by rw [ha]; rfl⟩
            have HVB : Hid (∃ c : UInt8, nb = c.toNat ∧ dgV (hexv c) = (y : Nat)) := ⟨b, HNB.out, by rw [hb]; rfl⟩
            have hx15 := hexv_le ha
            have hy15 := hexv_le hb
            have HDD : Hid (dec l = (dec (l.drop (k + 3))).map ((acc ++ [UInt8.ofNat (16 * x + y)]) ++ ·)) := by
              show _ = _
              rw [HD.out, HDR.out, dec, ha, hb]
              simp only [Option.bind_some, Option.map_map]
              congr 1
              funext z
              simp
            clear ha hb HD
            have hw : IntKind.u8.wrap (16 * (x : Int) + y) = ((16 * x + y : Nat) : Int) := by rw [IntKind.wrap_u8]; omega
            go_upto_region 9 with fail
            refine (digit_n HVA _).mono ?_
            rintro e w2 ⟨rfl, rfl⟩
            go_upto_region 9 with fail
            refine (digit_n HVB _).mono ?_
            rintro e w2 ⟨rfl, rfl⟩
            go_upto_region 9 with fail
            have hown3 : wr.drew.ownsRow w.heap.size 5 1 v acc.length (Lib.byteCells acc) := HOWN.out
            have hb3 : Below w.heap.size w wr.drew := ⟨HB.out.os, HB.out.tape, HB.out.output, HB.out.size, HB.out.block⟩
            have HOWN3 := Lib.hid hown3
            have HB3 := Lib.hid hb3
            clear hown3 hb3
            have f1 : (0 : Int) ≤ (k : Int) + 1 := by omega
            have f2 : (k : Int) + 1 < l.length := by omega
            have f3 : (0 : Int) ≤ (k : Int) + 2 := by omega
            have f4 : (k : Int) + 2 < l.length := by omega
            have g1 : IntKind.i64.wrap ((k : Int) + 1) = (k : Int) + 1 := by rw [IntKind.wrap_i64]; omega
            have g2 : IntKind.i64.wrap ((k : Int) + 2) = (k : Int) + 2 := by rw [IntKind.wrap_i64]; omega
            have g3 : IntKind.i64.wrap (16 * (x : Int)) = 16 * (x : Int) := by rw [IntKind.wrap_i64]; omega
            have g4 : IntKind.i64.wrap (16 * (x : Int) + y) = 16 * (x : Int) + y := by rw [IntKind.wrap_i64]; omega
            go_region_held3 (fun _ => True) (trivial)
              (first
                | (go_at_call 32; refine (digit_n HVA _).mono ?_; rintro e w2 ⟨rfl, rfl⟩; have HVB2 := HVB; clear HVA)
                | (go_at_call 32; refine (digit_n HVB2 _).mono ?_; rintro e w2 ⟨rfl, rfl⟩; have HOWN4 := HOWN3)
                | (refine step_append_lies _ (by rfl) _ _ _ (by rfl) w.heap.size 5 i0 (.int .u8 0) 1 1 Tryz.underlying61 hi hz0 hz1 hz2 rfl (by decide) v _ _ (by rfl) (HOWN4.out.alloc _) ⟨wr.heap.size, 0, none⟩ 1 1 [.int .u8 ((16 * x + y : Nat) : Int)] (by rfl) (by rfl) (World.news_of_block (cs := #[.int .u8 ((16 * x + y : Nat) : Int)]) (t := 5) (fr := (0, 0)) (heap_alloc_new wr.drew _)) (by simp [Value.oneCell']) (by decide) (by unfold maxLen; omega) (by omega) (by simp; omega) (wr.heap.size + 1) (by simp) ?_
                   intro gg cap w4 hown' hgrow hat hlt4))
            all_goals
              go_wp2_with fail
              go_roundg (gk - 3)
              case measure => omega
              case rel =>
                refine ⟨k + 3, _, acc ++ [UInt8.ofNat (16 * x + y)], by omega, by go_num, rfl, ?_, ?_, by simp; omega, HDD.out⟩
                · show World.ownsRow _ _ _ _ _ _ _
                  have e2 : Lib.byteCells (acc ++ [UInt8.ofNat (16 * x + y)]) = Lib.byteCells acc ++ [Value.int IntKind.u8 ((16 * x + y : Nat) : Int)] := by
                    simp only [Lib.byteCells, List.map_append, List.map_cons, List.map_nil]
                    rw [UInt8.toNat_ofNat_of_lt' (by show 16 * x + y < 256; omega)]
                  rw [e2, List.length_append]
                  exact hown'
                · exact (HB3.out.alloc hszr _).grown hgrow (by simp; omega) (fun q hq => (HOWN3.out.lt q hq).1)
          · have hn : dec l = none := by
              rw [HD.out, HDR.out, dec]
              cases ha : hexv a with
              | none => rfl
              | some x =>
                cases hb : hexv b with
                | none => rfl
                | some y => exact absurd ⟨x, y, ha, hb⟩ hok
            have HR := Lib.hid (dec_no hd hn)
            clear hn
            have HOK := Lib.hid hok
            clear hok
            cases ha : hexv a with
            | none =>
              have HVA : Hid (∃ c : UInt8, na = c.toNat ∧ dgV (hexv c) = -1) := ⟨a, HNA.out, by rw [ha]; rfl⟩
              clear ha
              go_wp2_with fail
              refine (digit_n HVA _).mono ?_
              rintro e w2 ⟨rfl, rfl⟩
              go_wp2_with fail
              go_ret2
              rw [HR.out]
              exact ⟨rfl, Fr.of_below HB.out⟩
            | some x =>
              have HVA : Hid (∃ c : UInt8, na = c.toNat ∧ dgV (hexv c) = (x : Nat)) := ⟨a, HNA.out, by rw [ha]; rfl⟩
              have HVB : Hid (∃ c : UInt8, nb = c.toNat ∧ dgV (hexv c) = -1) := by
                refine ⟨b, HNB.out, ?_⟩
                cases hb : hexv b with
                | none => rfl
                | some y => exact absurd ⟨x, y, ha, hb⟩ HOK.out
              clear ha
              go_wp2_with fail
              refine (digit_n HVA _).mono ?_
              rintro e w2 ⟨rfl, rfl⟩
              go_wp2_with fail
              refine (digit_n HVB _).mono ?_
              rintro e w2 ⟨rfl, rfl⟩
              go_wp2_with fail
              go_ret2
              rw [HR.out]
              exact ⟨rfl, Fr.of_below HB.out⟩
        · have hn : dec l = none := by
            rw [HD.out, hdr, hc]
            have : (l.drop (k + 1)).length ≤ 1 := by rw [List.length_drop]; omega
            match l.drop (k + 1), this with
            | [], _ => rfl
            | [a], _ => rfl
          have HR := Lib.hid (dec_no hd hn)
          subst hc
          have e37 : (((37 : UInt8).toNat : Nat) : Int) = 37 := rfl
          rw [e37] at hx0
          clear hdr e37 hn
          go_wp2_with fail
          go_ret2
          rw [HR.out]
          exact ⟨rfl, Fr.of_below HB.out⟩
      · have hcn : c.toNat ≠ 37 := fun e => hc (UInt8.toNat_inj.1 e)
        obtain ⟨n, hn⟩ : ∃ n, n = c.toNat := ⟨_, rfl⟩
        rw [← hn] at hx0 hcn
        have hcn' : ((n : Int) != 37) = true := by rw [bne_iff_ne]; omega
        have HN := Lib.hid hn
        have HDR := Lib.hid hdr
        have HC := Lib.hid hc
        clear hn hdr hc
        go_wp2_with (at_builtin; refine wpList_append_own _ rfl _ _ 61 rfl w.heap.size 5 i0 (.int .u8 0) 1 1 Tryz.underlying61 hi hz0 hz1 hz2 rfl (by decide) _ _ _ rfl (HOWN.out.alloc _) ⟨wr.heap.size, 0, none⟩ 1 1 [.int .u8 (n : Nat)] rfl rfl ?c1 ?c2 ?c3 ?c4 ?c5 ?_)
        case c1 =>
          intro j u hj
          match j, hj with
          | 0, hj => simp at hj; subst hj; simp [Addr.add]
        case c2 => intro u hu; simp at hu; subst hu; rfl
        case c3 => unfold maxLen; omega
        case c4 => omega
        case c5 => simp; omega
        intro v' w3 hown' hgrow _
        go_wp2_with fail
        go_roundg (gk - 1)
        case measure => omega
        case rel =>
          refine ⟨k + 1, v', acc ++ [c], by omega, by go_num, rfl, ?_, ?_, by simp; omega, ?_⟩
          · show World.ownsRow _ _ _ _ _ _ _
            have e2 : Lib.byteCells (acc ++ [c]) = Lib.byteCells acc ++ [Value.int IntKind.u8 (n : Nat)] := by
              simp only [Lib.byteCells, List.map_append, List.map_cons, List.map_nil]
              rw [HN.out]
            rw [e2, List.length_append]
            exact hown'
          · exact (HB.out.alloc hszr _).grown hgrow (by simp; omega) (fun q hq => (HOWN.out.lt q hq).1)
          · show dec l = _
            rw [HD.out, HDR.out, dec_plain HC.out, Option.map_map]
            congr 1
            funext z
            simp
    · have hkl : k = l.length := by omega
      have hdl : dec l = some acc := by
        rw [HD.out, hkl, List.drop_length]
        show some (acc ++ []) = _
        rw [List.append_nil]
      have HR := Lib.hid (dec_yes hd hdl)
      have hcv := string_own hown
      clear hdl HD
      have hal : acc.length ≤ 1048576 := by omega
      go_wp2_with (go_at_call 11; refine (rword_calls acc (by omega) _).mono ?_)
      rintro e w2 ⟨rfl, hf2⟩
      have hcv2 := string_own (hown.fr hf2)
      by_cases he : hWord acc = l
      · have he' : (hWord acc == l) = true := by simpa using he
        go_wp2_with fail
        go_ret2
        rw [HR.out, if_pos he]
        exact ⟨rfl, Fr.of_below (hbk.trans (hf2.belowOf hszr (by simp)))⟩
      · have he' : (hWord acc == l) = false := by simpa using he
        go_wp2_with fail
        go_ret2
        rw [HR.out, if_neg he]
        exact ⟨rfl, Fr.of_below (hbk.trans (hf2.belowOf hszr (by simp)))⟩

theorem rtext_calls (l : List UInt8) (hl : l.length ≤ 1048576) (w : World) :
    Calls Tryz.prog 9 #[.string (bs l)] w fun e w' => e = .returned (ResT (hText l)) ∧ Fr [] w w' := by
  by_cases hd : l = [45]
  · subst hd
    exact rtext_dash w
  · exact rtext_other l hd hl w
end Go.Proofs.YtcaeppncippknaaGreatDoor
