/- hoardlaw31.HouseWords: true, whatever the input. Conditions: the package variables' facts (Env). -/
import Derived.Test.YtcaeppncippknaaGreatDoorAlive
import Derived.Test.YtcaeppncippknaaGreatDoorRText
import Derived.Test.YtcaeppncippknaaGreatDoorWord
import Derived.Test.YtcaeppncippknaaGreatDoorAns0
namespace Go.Proofs.YtcaeppncippknaaGreatDoor
open Go Go.RowKit

set_option maxHeartbeats 4000000 in
set_option maxRecDepth 100000 in
theorem sayWords_calls (s l : List UInt8) (w : World) (henv : Env w) :
    Calls Tryz.prog 3 #[.string (bs s), .string (bs l)] w fun e w' => e = .returned (.bool true) ∧ Fr [] w w' := by
  have hs0 : (bs s).size = s.length := bs_size s
  have hl0 : (bs l).size = l.length := bs_size l
  have HENV := Lib.hid henv
  clear henv
  go_enter Tryz.func3, Tryz.ntmps3
  by_cases h1 : 2048 < s.length
  · go_wp2_with fail
    refine (alive_calls w HENV.out).mono ?_
    rintro e w1 ⟨rfl, hf1⟩
    go_wp2_with fail
    go_ret
    exact ⟨rfl, hf1⟩
  by_cases h2 : 2048 < l.length
  · go_wp2_with fail
    refine (alive_calls w HENV.out).mono ?_
    rintro e w1 ⟨rfl, hf1⟩
    go_wp2_with fail
    go_ret
    exact ⟨rfl, hf1⟩
  clear hs0 hl0
  have hs0 : (bs s).size = s.length := bs_size s
  have hl0 : (bs l).size = l.length := bs_size l
  go_wp2_with fail
  clear hs0 hl0
  refine (text_calls l (by omega) w HENV.out).mono ?_
  rintro e w1 ⟨rfl, hf1⟩
  have HF1 := Lib.hid hf1
  clear hf1
  cases ht : hText l with
  | none =>
    rw [show ResT none = .tuple #[.string (bs []), .bool false] from rfl]
    go_wp2_with fail
    have h2 := rtext_calls l (by omega) w1
    rw [ht] at h2
    refine h2.mono ?_
    clear h2
    rintro e w2 ⟨rfl, hf2⟩
    rw [show ResT none = .tuple #[.string (bs []), .bool false] from rfl]
    have HF2 := Lib.hid (HF1.out.andThen hf2)
    clear hf2
    go_wp2_with fail
    refine (word_calls s (by omega) w2).mono ?_
    rintro e w3 ⟨rfl, hf3⟩
    have HF3 := Lib.hid (HF2.out.andThen hf3)
    clear hf3
    go_wp2_with fail
    have hwl := hWord_length s
    have h4 := text_calls (hWord s) (by omega) w3 (HENV.out.fr HF3.out (by simp))
    rw [hText_word] at h4
    refine h4.mono ?_
    clear h4
    rintro e w4 ⟨rfl, hf4⟩
    rw [show ResT (some s) = .tuple #[.string (bs s), .bool true] from rfl]
    have HF4 := Lib.hid (HF3.out.andThen hf4)
    clear hf4
    go_wp2_with fail
    refine (word_calls s (by omega) w4).mono ?_
    rintro e w5 ⟨rfl, hf5⟩
    have HF5 := Lib.hid (HF4.out.andThen hf5)
    clear hf5
    go_wp2_with fail
    refine (rword_calls s (by omega) w5).mono ?_
    rintro e w6 ⟨rfl, hf6⟩
    have HF6 := Lib.hid (HF5.out.andThen hf6)
    clear hf6
    go_wp2_with fail
    refine (alive_calls w6 (HENV.out.fr HF6.out (by simp))).mono ?_
    rintro e w7 ⟨rfl, hf7⟩
    have HF7 := Lib.hid (HF6.out.andThen hf7)
    clear hf7
    go_wp2_with fail
    go_ret
    exact ⟨rfl, HF7.out⟩
  | some t =>
    have HTE := Lib.hid (hText_eq ht)
    have htl := hText_length ht
    rw [show ResT (some t) = .tuple #[.string (bs t), .bool true] from rfl]
    go_wp2_with fail
    have h2 := rtext_calls l (by omega) w1
    rw [ht] at h2
    refine h2.mono ?_
    clear h2
    rintro e w2 ⟨rfl, hf2⟩
    rw [show ResT (some t) = .tuple #[.string (bs t), .bool true] from rfl]
    have HF2 := Lib.hid (HF1.out.andThen hf2)
    clear hf2
    go_wp2_with fail
    refine (word_calls s (by omega) w2).mono ?_
    rintro e w3 ⟨rfl, hf3⟩
    have HF3 := Lib.hid (HF2.out.andThen hf3)
    clear hf3
    go_wp2_with fail
    have hwl := hWord_length s
    have h4 := text_calls (hWord s) (by omega) w3 (HENV.out.fr HF3.out (by simp))
    rw [hText_word] at h4
    refine h4.mono ?_
    clear h4
    rintro e w4 ⟨rfl, hf4⟩
    rw [show ResT (some s) = .tuple #[.string (bs s), .bool true] from rfl]
    have HF4 := Lib.hid (HF3.out.andThen hf4)
    clear hf4
    go_wp2_with fail
    refine (word_calls s (by omega) w4).mono ?_
    rintro e w5 ⟨rfl, hf5⟩
    have HF5 := Lib.hid (HF4.out.andThen hf5)
    clear hf5
    go_wp2_with fail
    refine (rword_calls s (by omega) w5).mono ?_
    rintro e w6 ⟨rfl, hf6⟩
    have HF6 := Lib.hid (HF5.out.andThen hf6)
    clear hf6
    go_wp2_with fail
    refine (word_calls t (by omega) w6).mono ?_
    rintro e w7 ⟨rfl, hf7⟩
    have HF7 := Lib.hid (HF6.out.andThen hf7)
    clear hf7
    rw [HTE.out]
    go_wp2_with fail
    refine (alive_calls w7 (HENV.out.fr HF7.out (by simp))).mono ?_
    rintro e w8 ⟨rfl, hf8⟩
    have HF8 := Lib.hid (HF7.out.andThen hf8)
    clear hf8
    go_wp2_with fail
    go_ret
    exact ⟨rfl, HF8.out⟩
end Go.Proofs.YtcaeppncippknaaGreatDoor
