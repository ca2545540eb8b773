/- Answers and calls are read as they were written, in plain. Conditions: numbers within their kinds. -/
import Derived.Test.YtcaeppncippknaaGreatDoorZAns0
import Derived.Test.YtcaeppncippknaaGreatDoorZRead0A
import Derived.Test.YtcaeppncippknaaGreatDoorZCall
namespace Go.Proofs.YtcaeppncippknaaGreatDoor
open Go Go.RowKit

theorem pU_dec {n : Nat} (h : n < 18446744073709551616) : pU (Lib.decDigits n) = n := by unfold pU; rw [parseB_dec n h]
theorem pUok_dec {n : Nat} (h : n < 18446744073709551616) : pUok (Lib.decDigits n) = true := by unfold pUok; rw [parseB_dec n h]
theorem pI_itoa {n : Int} (h : -9223372036854775808 ≤ n ∧ n ≤ 9223372036854775807) : pI (Lib.itoa n) = n := by unfold pI; rw [atoi_itoa n h.1 h.2]
theorem pIok_itoa {n : Int} (h : -9223372036854775808 ≤ n ∧ n ≤ 9223372036854775807) : pIok (Lib.itoa n) = true := by unfold pIok; rw [atoi_itoa n h.1 h.2]
theorem numV_dec {n : Nat} (h : n < 18446744073709551616) (r : List (List UInt8)) : numV (Lib.decDigits n :: r) false = n := pU_dec h
theorem numB_dec {n : Nat} (h : n < 18446744073709551616) (r : List (List UInt8)) : numB (Lib.decDigits n :: r) false = false := by
  unfold numB
  rw [show nextW (Lib.decDigits n :: r) false = Lib.decDigits n from rfl, pUok_dec h, pU_dec h]
  simp [nextB]
theorem intV_itoa {n : Int} (h : -9223372036854775808 ≤ n ∧ n ≤ 9223372036854775807) (r : List (List UInt8)) : intV (Lib.itoa n :: r) false = n := pI_itoa h
theorem intB_itoa {n : Int} (h : -9223372036854775808 ≤ n ∧ n ≤ 9223372036854775807) (r : List (List UInt8)) : intB (Lib.itoa n :: r) false = false := by
  unfold intB
  rw [show nextW (Lib.itoa n :: r) false = Lib.itoa n from rfl, pIok_itoa h, pI_itoa h]
  simp [nextB]
theorem textV_word (t : List UInt8) (r : List (List UInt8)) : textV (hWord t :: r) false = t := by
  unfold textV
  rw [show nextW (hWord t :: r) false = hWord t from rfl, hText_word]; rfl
theorem isWd_st (b : Bool) : IsWd (stW b) := by cases b <;> exact ⟨by decide, by decide⟩
theorem st_gone (b : Bool) : (stW b == w_gone) = b := by cases b <;> decide

theorem words_code (c : Int) (n : Nat) : wordsP (codeL c n) = [w_code, Lib.itoa c, Lib.decDigits n] := by
  have e : codeL c n = w_code ++ 32 :: (Lib.itoa c ++ 32 :: Lib.decDigits n) := by simp [codeL, w_code]
  rw [e, wordsP_app, wordsP_app, wordsP_one ⟨by decide, by decide⟩, wordsP_one (isWd_itoa c), wordsP_one (isWd_dec n)]; rfl
theorem words_text (t : List UInt8) : wordsP (textL t) = [w_text, hWord t] := by
  have e : textL t = w_text ++ 32 :: hWord t := by simp [textL, w_text]
  rw [e, wordsP_app, wordsP_one ⟨by decide, by decide⟩, wordsP_one (isWd_hWord t)]; rfl
theorem words_item (x : AItem) : wordsP (itemL x) = [w_item, hWord x.name, Lib.decDigits x.n, Lib.itoa x.len, stW x.gone] := by
  have e : itemL x = w_item ++ 32 :: (hWord x.name ++ 32 :: (Lib.decDigits x.n ++ 32 :: (Lib.itoa x.len ++ 32 :: stW x.gone))) := by simp [itemL, w_item]
  rw [e, wordsP_app, wordsP_app, wordsP_app, wordsP_app, wordsP_one ⟨by decide, by decide⟩, wordsP_one (isWd_hWord _), wordsP_one (isWd_dec _), wordsP_one (isWd_itoa _), wordsP_one (isWd_st _)]; rfl
theorem words_more : wordsP moreL = [moreL] := wordsP_one ⟨by decide, by decide⟩

theorem step_code (a : AAns) {c : Int} {n : Nat} (hc : -9223372036854775808 ≤ c ∧ c ≤ 9223372036854775807) (hn : n < 18446744073709551616) : stepA a (codeL c n) = { a with code := c, n := n } := by
  unfold stepA
  rw [words_code]
  rw [if_pos (by rfl)]
  have h1 : nextL [w_code, Lib.itoa c, Lib.decDigits n] false = [Lib.itoa c, Lib.decDigits n] := rfl
  have h2 : nextB [w_code, Lib.itoa c, Lib.decDigits n] false = false := rfl
  rw [h1, h2, intV_itoa hc, intB_itoa hc]
  have h3 : nextL [Lib.itoa c, Lib.decDigits n] false = [Lib.decDigits n] := rfl
  rw [h3, numV_dec hn]
theorem step_text (a : AAns) (t : List UInt8) : stepA a (textL t) = { a with text := t } := by
  unfold stepA
  rw [words_text]
  rw [if_neg (by show ¬ w_text = w_code; decide), if_pos (by rfl)]
  have h1 : nextL [w_text, hWord t] false = [hWord t] := rfl
  have h2 : nextB [w_text, hWord t] false = false := rfl
  rw [h1, h2, textV_word]
theorem item_back {x : AItem} (h : x.Wf) : itemV [hWord x.name, Lib.decDigits x.n, Lib.itoa x.len, stW x.gone] false = x := by
  unfold itemV
  have h1 : nextL [hWord x.name, Lib.decDigits x.n, Lib.itoa x.len, stW x.gone] false = [Lib.decDigits x.n, Lib.itoa x.len, stW x.gone] := rfl
  have h2 : nextB [hWord x.name, Lib.decDigits x.n, Lib.itoa x.len, stW x.gone] false = false := rfl
  rw [h1, h2, numB_dec h.n]
  have h3 : nextL [Lib.decDigits x.n, Lib.itoa x.len, stW x.gone] false = [Lib.itoa x.len, stW x.gone] := rfl
  rw [h3, intB_itoa h.len]
  have h4 : nextL [Lib.itoa x.len, stW x.gone] false = [stW x.gone] := rfl
  have h5 : nextW [stW x.gone] false = stW x.gone := rfl
  rw [h4, h5, textV_word, numV_dec h.n, intV_itoa h.len, st_gone]
theorem step_item (a : AAns) {x : AItem} (h : x.Wf) : stepA a (itemL x) = { a with items := a.items ++ [x] } := by
  unfold stepA
  rw [words_item]
  rw [if_neg (by show ¬ w_item = w_code; decide), if_neg (by show ¬ w_item = w_text; decide), if_pos (by rfl)]
  have h1 : nextL [w_item, hWord x.name, Lib.decDigits x.n, Lib.itoa x.len, stW x.gone] false = [hWord x.name, Lib.decDigits x.n, Lib.itoa x.len, stW x.gone] := rfl
  have h2 : nextB [w_item, hWord x.name, Lib.decDigits x.n, Lib.itoa x.len, stW x.gone] false = false := rfl
  rw [h1, h2, item_back h]
theorem step_more (a : AAns) : stepA a moreL = { a with more := true } := by
  unfold stepA
  rw [words_more]
  rw [if_neg (by show ¬ moreL = w_code; decide), if_neg (by show ¬ moreL = w_text; decide), if_neg (by show ¬ moreL = w_item; decide), if_pos (by rfl)]
theorem fold_items : ∀ (l : List AItem) (a : AAns), (∀ x ∈ l, x.Wf) → (l.map itemL).foldl stepA a = { a with items := a.items ++ l }
  | [], a, _ => by simp
  | x :: l, a, h => by
    rw [List.map_cons, List.foldl_cons, step_item a (h x (by simp)), fold_items l _ fun y hy => h y (by simp [hy])]
    simp
theorem gone_toldT (a : AAns) (h : a.Wf) : (toldT a ++ a.items.map itemL).foldl stepA AAns.zero = { a with more := false } := by
  unfold toldT
  by_cases ht : a.text = []
  · rw [if_pos ht, List.foldl_append, List.foldl_cons, List.foldl_nil, step_code _ h.code h.n, fold_items _ _ h.items]
    simp [AAns.zero, ht]
  · rw [if_neg ht, List.foldl_append, List.foldl_cons, List.foldl_cons, List.foldl_nil, step_code _ h.code h.n, step_text, fold_items _ _ h.items]
    simp [AAns.zero]
theorem gone_told (a : AAns) (h : a.Wf) : goneA (toldP a) = a := by
  unfold goneA toldP
  rw [List.foldl_append, gone_toldT a h]
  cases hm : a.more with
  | false => simp; cases a; simp_all
  | true =>
    simp only [if_true, List.foldl_cons, List.foldl_nil, step_more]
    cases a; simp_all
theorem gone_more (a : AAns) (h : a.Wf) : goneA (toldP a ++ [moreL]) = { a with more := true } := by
  have := gone_told a h
  unfold goneA at this ⊢
  rw [List.foldl_append, this, List.foldl_cons, List.foldl_nil, step_more]
/-- AN ANSWER IS READ AS IT WAS WRITTEN. -/
theorem ans_told (a : AAns) (h : a.Wf) : ansP (toldP a) = (a, true) := by
  unfold ansP; rw [gone_told a h, if_pos rfl]
theorem told_inj {a b : AAns} (ha : a.Wf) (hb : b.Wf) : toldP a = toldP b ↔ a = b :=
  ⟨fun h => by rw [← gone_told a ha, h, gone_told b hb], fun h => by rw [h]⟩
theorem ans_more (a : AAns) (h : a.Wf) : (ansP (toldP a ++ [moreL])).2 = !a.more := by
  unfold ansP
  rw [gone_more a h]
  have e : toldP { a with more := true } = toldT a ++ a.items.map itemL ++ [moreL] := rfl
  rw [e]
  cases hm : a.more with
  | false =>
    have : toldP a = toldT a ++ a.items.map itemL := by unfold toldP; rw [hm]; simp
    rw [this, if_pos rfl]; rfl
  | true =>
    have : toldP a = toldT a ++ a.items.map itemL ++ [moreL] := by unfold toldP; rw [hm]; rfl
    rw [this, if_neg]
    · rfl
    · intro h
      have := congrArg List.length h
      simp at this

theorem wrP_words (p : Nat) (c : ACall) : ∀ x ∈ wrP p c, IsWd x := by
  intro x hx
  unfold wrP at hx
  split at hx
  case h_4 =>
    unfold condOut at hx
    split at hx
    · simp only [List.mem_cons, List.not_mem_nil, or_false] at hx
      rcases hx with rfl | rfl
      · exact ⟨by decide, by decide⟩
      · exact isWd_dec _
    · simp only [List.mem_cons, List.not_mem_nil, or_false] at hx
      subst hx
      unfold condW1
      split
      · exact ⟨by decide, by decide⟩
      · split
        · exact ⟨by decide, by decide⟩
        · exact ⟨by decide, by decide⟩
  all_goals
    simp only [List.mem_cons, List.not_mem_nil, or_false] at hx
    try subst hx
  all_goals first | exact isWd_hWord _ | exact isWd_dec _ | exact isWd_itoa _ | exact hx.elim
theorem line_words {c : ACall} (h : (lineK c).isSome = true) : ∀ x ∈ lineOut c, IsWd x := by
  intro x hx
  rcases List.mem_cons.1 hx with rfl | hx
  · unfold lineX
    obtain ⟨r, hr⟩ := Option.isSome_iff_exists.1 h
    rw [hr]
    have hm : r ∈ kindRows := List.mem_of_find?_eq_some hr
    have hall : ∀ r ∈ kindRows, r.2.1 ≠ [] ∧ (32 : UInt8) ∉ r.2.1 := by decide
    exact hall _ hm
  · obtain ⟨f, _, h⟩ := List.mem_flatMap.1 hx
    exact wrP_words _ c x h
theorem lineOk_isSome {c : ACall} (h : lineOk c = true) : (lineK c).isSome = true := by
  unfold lineOk at h
  simp only [Bool.and_eq_true] at h
  exact h.1.1.1
theorem lineOk_read {c : ACall} (h : lineOk c = true) : readC (lineOut c) = (c, true) := by
  unfold lineOk at h
  simp only [Bool.and_eq_true, decide_eq_true_eq] at h
  exact Prod.ext h.2 h.1.2
/-- A CALL IS READ AS IT WAS WRITTEN, blanks about it or not. -/
theorem call_line {c : ACall} (h : lineOk c = true) (k m : Nat) : callP (List.replicate k 32 ++ joinSp (lineOut c) ++ List.replicate m 32) = (c, true) := by
  unfold callP
  rw [wordsP_post, wordsP_pre]
  show readC (wordsP (Lib.join (lineOut c) [32])) = _
  rw [wordsP_join (line_words (lineOk_isSome h)), lineOk_read h]
theorem line_inj {c d : ACall} (hc : lineOk c = true) (hd : lineOk d = true) : joinSp (lineOut c) = joinSp (lineOut d) ↔ c = d := by
  refine ⟨fun h => ?_, fun h => by rw [h]⟩
  have h1 := call_line hc 0 0
  have h2 := call_line hd 0 0
  rw [h, h2] at h1
  injection h1 with h1
  exact h1.symm
end Go.Proofs.YtcaeppncippknaaGreatDoor
