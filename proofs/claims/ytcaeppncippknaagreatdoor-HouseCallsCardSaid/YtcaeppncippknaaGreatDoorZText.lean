/- house.Text: the text that a word is, or none. Conditions: the word's length is below 2^30; the package variables' facts (Env). -/
import Derived.Test.YtcaeppncippknaaGreatDoorZHex
import Derived.Test.YtcaeppncippknaaGreatDoorZCoder
import Derived.Test.YtcaeppncippknaaGreatDoorZWord
namespace Go.Proofs.YtcaeppncippknaaGreatDoor
open Go Go.RowKit

theorem res16_some {a b : UInt8} {v : Nat} (h : px a b = some v) : Res16 (px a b) = .tuple #[.int .u64 (v : Nat), .nilIface] := by rw [h]; rfl
set_option maxRecDepth 100000 in
theorem parse16_calls (a b : UInt8) (w : World) (henv : Env w) :
    Calls Tryz.prog 28 #[.string (bs [a, b]), .int .i64 16, .int .i64 8] w fun e w' => ∃ ev, e = .returned (.tuple #[.int .u64 ((px a b).getD 0 : Nat), ev]) ∧ ErrIs (px a b).isSome ev ∧ Fr [] w w' := by
  obtain ⟨te, pe, hsy⟩ := henv.syn
  cases h : px a b with
  | some v =>
    have H : Hid (Res16 (px a b) = .tuple #[.int .u64 (v : Nat), .nilIface]) := res16_some h
    go_enter Tryz.func28, Tryz.ntmps28
    go_wp2_with (go_at_call 61; refine (parse16_in a b w).mono ?_; rintro e w' ⟨rfl, hf⟩; rw [H.out])
    go_ret2
    exact ⟨.nilIface, rfl, rfl, hf⟩
  | none =>
    have H : Hid (Res16 (px a b) = .tuple #[.int .u64 0, errV 2]) := by show _ = _; rw [h]; rfl
    go_enter Tryz.func28, Tryz.ntmps28
    go_wp2_with (go_at_call 61; refine (parse16_in a b w).mono ?_; rintro e w' ⟨rfl, hf⟩; rw [H.out]; unfold errV)
    refine (Tryz.strconv_toError_syntax _ _ _ _ _ _ (by rw [bs_size]; simp) (hf.cellAs hsy (by simp)) (.inr ⟨_, _, rfl⟩)).mono ?_
    rintro e w2 ⟨n, rfl, h1, h2, h3⟩
    go_wp2
    go_ret2
    exact ⟨_, rfl, ⟨_, _, rfl⟩, hf.andThen (Fr.of_below h3)⟩

theorem splitB_one (c : UInt8) (l : List UInt8) : Lib.splitB (bs [c]) 0 (Lib.countB (bs l) (bs [c])) (bs l) = (splitOn c l).map bs := by
  have h := Lib.splitB_data (bs [c]) 0 (Lib.countB (bs l) (bs [c])) (bs l)
  have h2 : Lib.splitK (bs [c]).data.toList 0 (Lib.countB (bs l) (bs [c])) (bs l).data.toList = splitOn c l := by
    rw [bs_toList, bs_toList]
    have : Lib.countB (bs l) (bs [c]) = Lib.count l [c] := by unfold Lib.countB; rw [bs_toList, bs_toList]
    rw [this]
    exact splitK_one c l
  rw [h2] at h
  rw [← h, List.map_map]
  conv => lhs; rw [← List.map_id (Lib.splitB _ _ _ _)]
  refine List.map_congr_left fun x _ => ?_
  show x = bs x.data.toList
  rw [bs_of]
/-- strings.Split at one byte. -/
theorem split_calls (c : UInt8) (l : List UInt8) (hl : l.length ≤ 1073741824) (w : World) (henv : Env w) :
    Calls Tryz.prog 27 #[.string (bs l), .string (bs [c])] w fun e w' => e = .returned (.slice (some ⟨w.heap.size, 0, none⟩) (splitOn c l).length (splitOn c l).length) ∧ w.alloc (.cells ((splitOn c l).map strV).toArray 9) = w' := by
  obtain ⟨m, hm⟩ := henv.len
  refine (Tryz.strings_Split (bs l) (bs [c]) m w (by rw [bs_size]; omega) hm (by rw [bs_size]; simp)).mono ?_
  rintro e w' ⟨h1, h2⟩
  have h3 : (Lib.splitB (bs [c]) 0 (Lib.countB (bs l) (bs [c])) (bs l)).length = Lib.countB (bs l) (bs [c]) + 1 := Lib.splitB_all (bs [c]) (by rw [bs_size]; simp) 0 _ _ rfl
  rw [← h3] at h1
  rw [splitB_one, List.length_map] at h1
  rw [splitB_one, List.map_map] at h2
  exact ⟨h1, h2.symm⟩

theorem Env.but {B b : Nat} {w w' : World} (h : Env w) (hf : But B b w w') (hB : 8 ≤ B) (hb : 8 ≤ b) : Env w' :=
  h.of_blocks hf.size fun k hk => hf.block k (by omega) (by omega)
theorem partD_length {i : Nat} {p a : List UInt8} (h : partD i p = some a) : a.length ≤ p.length := by
  unfold partD at h
  split at h
  · rename_i hc
    rw [Option.map_eq_some_iff] at h
    obtain ⟨v, _, rfl⟩ := h
    have := hc.2
    simp; omega
  · obtain rfl := Option.some.inj h; omega
theorem preD_length {l : List (List UInt8)} {M : Nat} (hM : ∀ p ∈ l, p.length ≤ M) : ∀ {k : Nat} {a : List UInt8}, k ≤ l.length → preD l k = some a → a.length ≤ k * M
  | 0, a, _, h => by obtain rfl := Option.some.inj h; simp
  | k + 1, a, hk, h => by
    rw [preD, Option.bind_eq_some_iff] at h
    obtain ⟨x, h1, h2⟩ := h
    rw [Option.map_eq_some_iff] at h2
    obtain ⟨y, h3, rfl⟩ := h2
    have h4 := preD_length hM (by omega) h1
    have h5 := partD_length h3
    have h6 : (l.getD k []).length ≤ M := by
      rw [List.getD, List.getElem?_eq_getElem (by omega)]
      exact hM _ (List.getElem_mem _)
    rw [List.length_append, Nat.succ_mul]
    omega
theorem hText_fail {l : List UInt8} {k : Nat} (hk : k ≤ (splitOn 37 l).length) (h : preD (splitOn 37 l) k = none) : hText l = none := by
  refine hText_none fun s hs => ?_
  have hn := preD_none h _ hk
  by_cases e : s = []
  · subst e
    rw [← hs] at hn
    revert hn; decide
  · rw [← hs, preD_word s e] at hn; cases hn
theorem hText_end {l acc : List UInt8} (h : preD (splitOn 37 l) (splitOn 37 l).length = some acc) (hl : l ≠ [45]) : hText l = if hWord acc = l then some acc else none := by
  split
  · rename_i e; rw [← e, hText_word]
  · rename_i e
    refine hText_none fun s hs => ?_
    have hse : s ≠ [] := fun e' => hl (by rw [← hs, e']; rfl)
    have := preD_word s hse
    rw [hs, h] at this
    obtain rfl := Option.some.inj this
    exact e hs
/-- What house.Text hands back. -/
def ResT (o : Option (List UInt8)) : Value := .tuple #[.string (bs (o.getD [])), .bool o.isSome]
theorem resT_none {l : List UInt8} (h : hText l = none) : ResT (hText l) = .tuple #[.string (bs []), .bool false] := by rw [h]; rfl
theorem resT_some {l s : List UInt8} (h : hText l = some s) : ResT (hText l) = .tuple #[.string (bs s), .bool true] := by rw [h]; rfl
theorem extract_two (a b : UInt8) (r : List UInt8) : (bs (a :: b :: r)).extract 0 2 = bs [a, b] := by
  apply ByteArray.ext
  simp [ByteArray.data_extract]
theorem extract_from (a b : UInt8) (r : List UInt8) (n : Nat) (hn : n = r.length + 2) : (bs (a :: b :: r)).extract 2 n = bs r := by
  subst hn
  apply ByteArray.ext
  simp [ByteArray.data_extract]
theorem px_lt {a b : UInt8} {v : Nat} (h : px a b = some v) : v ≤ 255 := by
  unfold px at h
  rw [Option.bind_eq_some_iff] at h
  obtain ⟨x, h1, h2⟩ := h
  rw [Option.map_eq_some_iff] at h2
  obtain ⟨y, h3, rfl⟩ := h2
  have := hexvA_lt h1; have := hexvA_lt h3; omega

set_option maxHeartbeats 1000000 in
set_option maxRecDepth 100000 in
theorem text_calls (l : List UInt8) (hl : l.length ≤ 1048576) (w : World) (henv : Env w) :
    Calls Tryz.prog 8 #[.string (bs l)] w fun e w' => e = .returned (ResT (hText l)) ∧ Fr [] w w' := by
  have hpl := splitOn_length 37 l
  have hpp := splitOn_part 37 l
  have HFAIL : Hid (∀ k, k ≤ (splitOn 37 l).length → preD (splitOn 37 l) k = none → hText l = none) := fun _ => hText_fail
  have HEND : Hid (∀ acc, preD (splitOn 37 l) (splitOn 37 l).length = some acc → l ≠ [45] → hText l = if hWord acc = l then some acc else none) := fun _ => hText_end
  have HPL : Hid (∀ k a, k ≤ (splitOn 37 l).length → preD (splitOn 37 l) k = some a → a.length ≤ 2199023255552) := fun k a hk h => by
    have h1 := preD_length hpp hk h
    have h2 : k * l.length ≤ 1048577 * 1048576 := Nat.mul_le_mul (by omega) hl
    omega
  have HPP := Lib.hid hpp
  clear hpp
  generalize hparts : splitOn 37 l = parts at hpl HFAIL HEND HPL HPP
  have HPARTS := Lib.hid hparts
  clear hparts
  go_enter Tryz.func8, Tryz.ntmps8
  go_wp2_with fail
  refine (split_calls 37 l (by omega) _ (henv.fr ((Fr.refl [] w).alloc _) (by simp))).mono ?_
  rintro e w' ⟨rfl, rfl⟩
  rw [HPARTS.out]
  have hcells : ∀ k (h : k < parts.length), ((w.alloc (.cells #[.pointer none, .slice none 0 0] 63)).alloc (.cells (parts.map strV).toArray 9)).cell? ⟨w.heap.size + 1, k, none⟩ = some (strV parts[k]) := by
    intro k h
    rw [World.cell?_alloc_at _ _ _ _ (by simp)]
    simp [h]
  have hB0 : Bld w.heap.size (w.heap.size + 2) [] ((w.alloc (.cells #[.pointer none, .slice none 0 0] 63)).alloc (.cells (parts.map strV).toArray 9)) := (Bld.made w _).fr (M := []) ((Fr.refl _ _).alloc _) (by simp)
  have hfr2 : Fr [] w ((w.alloc (.cells #[.pointer none, .slice none 0 0] 63)).alloc (.cells (parts.map strV).toArray 9)) := ((Fr.refl _ _).alloc _).alloc _
  have hsz2 : w.heap.size + 2 ≤ ((w.alloc (.cells #[.pointer none, .slice none 0 0] 63)).alloc (.cells (parts.map strV).toArray 9)).heap.size := by simp
  generalize (w.alloc (.cells #[.pointer none, .slice none 0 0] 63)).alloc (.cells (parts.map strV).toArray 9) = w2 at hcells hB0 hfr2 hsz2 ⊢
  have h8 := henv.size
  have henv2 := henv.fr hfr2 (by simp)
  have HCELLS := Lib.hid hcells
  clear hcells
  have hpos : 0 < parts.length := by
    have := splitOn_ne 37 l
    rw [HPARTS.out] at this
    exact List.length_pos_iff.2 this
  go_wp2_with fail
  go_loopw [13] (fun i wr => ∃ (k : Nat) (acc : List UInt8), k ≤ parts.length ∧ i = .int .i64 k ∧ Bld w.heap.size (w.heap.size + 2) (Lib.byteCells acc) wr ∧ But (w.heap.size + 2) w.heap.size w2 wr ∧ Hid (preD parts k = some acc))
    (fun i _ => parts.length - (intOf i).toNat)
  case atStart => exact ⟨0, [], Nat.zero_le _, rfl, hB0, But.refl _ _ _, rfl⟩
  case round =>
    obtain ⟨k, acc, hk, rfl, hbld, hbut, HP⟩ := hrel
    have hlen := HPL.out k acc hk HP.out
    have hbl : (Lib.byteCells acc).length = acc.length := Lib.byteCells_length _
    have hbsz : w.heap.size + 2 ≤ wr.heap.size := by have := hbut.size; omega
    by_cases hlt : k < parts.length
    · have hcell : wr.cell? ⟨w.heap.size + 1, k, none⟩ = some (.string (bs parts[k])) := by
        rw [hbut.cell (by simp) (by simp)]
        exact HCELLS.out k hlt
      have hplen := HPP.out parts[k] (List.getElem_mem _)
      have HS : Hid (∀ a, partD k parts[k] = some a → preD parts (k + 1) = some (acc ++ a)) := by
        intro a ha
        show (preD parts k).bind _ = _
        rw [HP.out, Option.bind_some, List.getD, List.getElem?_eq_getElem hlt]
        show (partD k parts[k]).map _ = _
        rw [ha]; rfl
      have HN : Hid (partD k parts[k] = none → hText l = none) := by
        intro hn
        refine HFAIL.out (k + 1) (by omega) ?_
        show (preD parts k).bind _ = _
        rw [HP.out, Option.bind_some, List.getD, List.getElem?_eq_getElem hlt]
        show (partD k parts[k]).map _ = _
        rw [hn]; rfl
      generalize parts[k] = p at hcell hplen HS HN
      by_cases hc : 0 < k ∧ 2 ≤ p.length
      · obtain ⟨hk0, hp2⟩ := hc
        obtain ⟨a, b, r, rfl⟩ : ∃ a b r, p = a :: b :: r := by
          match p, hp2 with
          | a :: b :: r, _ => exact ⟨a, b, r, rfl⟩
        have HD : Hid (partD k (a :: b :: r) = (px a b).map fun v => UInt8.ofNat v :: r) := by
          show _ = _
          unfold partD
          rw [if_pos ⟨hk0, hp2⟩]
          rfl
        have hx2 := extract_two a b r
        have hxr := fun n => extract_from a b r n
        have hrl : r.length + 2 ≤ l.length := by simpa using hplen
        clear hplen hp2
        have HX := Lib.hid hxr
        clear hxr
        go_wp2_with fail
        refine (parse16_calls a b wr (henv2.but hbut (by omega) h8)).mono ?_
        rintro e w3 ⟨ev, rfl, hev, hf3⟩
        have hbld3 := hbld.fr hf3 (by simp)
        have hbut3 : But (w.heap.size + 2) w.heap.size w2 w3 := hbut.trans ⟨hf3.os, hf3.tape, hf3.output, hf3.size, fun q hq _ => hf3.block q (by omega) (by simp)⟩
        have hbsz3 : w.heap.size + 2 ≤ w3.heap.size := by have := hf3.size; omega
        clear hbld hbut hbsz hf3
        cases hpx : px a b with
        | none =>
          rw [hpx] at hev
          obtain ⟨te, pe, rfl⟩ := hev
          have hres : Hid (ResT (hText l) = .tuple #[.string (bs []), .bool false]) := resT_none (HN.out (by rw [HD.out, hpx]; rfl))
          clear hpx
          go_wp2_with fail
          go_ret2
          refine ⟨by rw [hres.out]; rfl, ?_⟩
          exact Fr.of_below (hfr2.below.trans (hbut3.below (by omega) (by omega)))
        | some v =>
          rw [hpx] at hev
          obtain rfl : ev = .nilIface := hev
          have hv := px_lt hpx
          have HD2 : Hid (partD k (a :: b :: r) = some (UInt8.ofNat v :: r)) := by
            show _ = _
            rw [HD.out, hpx]; rfl
          rw [Option.getD_some]
          clear hpx
          go_wp2_with fail
          refine (writeByte_calls _ _ _ _ _ hbld3 (by omega) hbsz3 (by omega)).mono ?_
          rintro e w4 ⟨rfl, hb4, ht4⟩
          have hbsz4 : w.heap.size + 2 ≤ w4.heap.size := by have := ht4.size; omega
          clear hbld3 hbsz3
          have hxr' := HX.out
          go_wp2_with fail
          refine (writeString_calls _ _ _ (bs r) _ hb4 (by omega) hbsz4 (by rw [bs_size, List.length_append]; simp; omega)).mono ?_
          rintro e w5 ⟨rfl, hb5, ht5⟩
          clear hxr'
          go_wp2_with fail
          go_roundw
          case rel =>
            refine ⟨k + 1, acc ++ (UInt8.ofNat v :: r), by omega, by go_num, ?_, (hbut3.trans ht4).trans ht5, HS.out _ HD2.out⟩
            have e2 : Lib.byteCells (acc ++ (UInt8.ofNat v :: r)) = Lib.byteCells acc ++ [Value.int IntKind.u8 (v : Nat)] ++ Lib.strCells (bs r) := by
              simp only [Lib.byteCells, List.map_append, List.map_cons, List.append_assoc, List.cons_append, List.nil_append]
              have : (UInt8.ofNat v).toNat = v := by simp; omega
              rw [this]
              rfl
            rw [e2]
            exact hb5
          case measure => simp [intOf]; omega
      · have HD : Hid (partD k p = some p) := by
          show _ = _
          unfold partD
          rw [if_neg hc]
        have hcs : ¬ 0 < k ∨ (0 < k ∧ ¬ 2 ≤ p.length) := by omega
        clear hc
        rcases hcs with h0 | ⟨h0, h1⟩
        all_goals
          go_wp2_with fail
          refine (writeString_calls _ _ _ (bs p) _ hbld (by omega) hbsz (by rw [bs_size]; omega)).mono ?_
          rintro e w3 ⟨rfl, hb3, ht3⟩
          go_wp2_with fail
          go_roundw
          case rel =>
            refine ⟨k + 1, acc ++ p, by omega, by go_num, ?_, hbut.trans ht3, HS.out _ HD.out⟩
            have e2 : Lib.byteCells (acc ++ p) = Lib.byteCells acc ++ Lib.strCells (bs p) := by
              simp only [Lib.byteCells, List.map_append]
              rfl
            rw [e2]
            exact hb3
          case measure => simp [intOf]; omega
    · have hkl : k = parts.length := by omega
      have HE : Hid (l ≠ [45] → hText l = if hWord acc = l then some acc else none) := fun h => HEND.out acc (by rw [← hkl]; exact HP.out) h
      clear hkl
      go_wp2_with fail
      refine (Tryz.Builder_String_any _ _ _ _ (hbld.is (by omega)) (by omega)).mono ?_
      rintro e w3 ⟨rfl, hb3⟩
      have hfr3 : Fr [] w w3 := Fr.of_below ((hfr2.below.trans (hbut.below (by omega) (by omega))).trans hb3)
      clear hb3 hbld hbut
      by_cases hd : l = [45]
      · subst hd
        have HR : Hid (ResT (hText [45]) = .tuple #[.string (bs []), .bool true]) := resT_some (hText_word [])
        go_wp2_with fail
        refine (word_calls [] (by simp) w3).mono ?_
        rintro e w4 ⟨rfl, hf4⟩
        have hf := hfr3.andThen hf4
        rw [show hWord [] = [45] from rfl]
        go_wp2_with fail
        go_ret2
        exact ⟨by rw [HR.out]; rfl, hf⟩
      · have hd' : (l == [45]) = false := by simpa using hd
        have HE2 := Lib.hid (HE.out hd)
        clear hd HE
        go_wp2_with fail
        refine (word_calls acc (by omega) w3).mono ?_
        rintro e w4 ⟨rfl, hf4⟩
        have hf := hfr3.andThen hf4
        by_cases hw : hWord acc = l
        · have hw' : (hWord acc == l) = true := by simpa using hw
          have HR : Hid (ResT (hText l) = .tuple #[.string (bs acc), .bool true]) := resT_some (by rw [HE2.out, if_pos hw])
          clear hw
          go_wp2_with fail
          go_ret2
          exact ⟨by rw [HR.out]; rfl, hf⟩
        · have hw' : (hWord acc == l) = false := by simpa using hw
          have HR : Hid (ResT (hText l) = .tuple #[.string (bs []), .bool false]) := resT_none (by rw [HE2.out, if_neg hw])
          clear hw
          go_wp2_with fail
          go_ret2
          exact ⟨by rw [HR.out]; rfl, hf⟩
end Go.Proofs.YtcaeppncippknaaGreatDoor
