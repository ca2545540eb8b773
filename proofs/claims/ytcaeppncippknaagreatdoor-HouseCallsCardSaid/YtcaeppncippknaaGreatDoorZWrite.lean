/- house's coder: text, number and whole while it writes. Conditions: the package variables' facts (Env); fewer than 2^40 words; texts below 2^20 bytes. -/
import Derived.Test.YtcaeppncippknaaGreatDoorZPut
import Derived.Test.YtcaeppncippknaaGreatDoorZWord
import Derived.Test.YtcaeppncippknaaGreatDoorZNumA
namespace Go.Proofs.YtcaeppncippknaaGreatDoor
open Go Go.RowKit

theorem But.of_fr {B K : Nat} {w w' : World} (h : Fr [] w w') (hB : B ≤ w.heap.size) : But B K w w' := ⟨h.os, h.tape, h.output, h.size, fun q hq _ => h.block q (by omega) (by simp)⟩

set_option maxHeartbeats 1000000 in
set_option maxRecDepth 100000 in
theorem text_write (K B C o : Nat) (w : World) (out : List (List UInt8)) (bad : Bool) (t : List UInt8) (h : WCod K B w out bad) (hKB : K < B) (hB : B ≤ w.heap.size) (ho : out.length ≤ 1099511627776)
    (hC : w.cell? ⟨C, o, none⟩ = some (strV t)) (ht : t.length ≤ 1048576) :
    Calls Tryz.prog 65 #[.pointer (some ⟨K, 0, none⟩), .pointer (some ⟨C, o, none⟩)] w fun e w' => e = .returned (.tuple #[]) ∧ WCod K B w' (out ++ [hWord t]) (bad || decide (65536 < (hWord t).length)) ∧ But B K w w' := by
  have hh := h
  obtain ⟨v, hb, hs⟩ := hh
  have c2 : w.cell? ⟨K, 2, none⟩ = some (.bool false) := by rw [Lib.cell_of_heap hb]; rfl
  have hC' : w.cell? ⟨C, o, none⟩ = some (.string (bs t)) := hC
  have hwl := hWord_length t
  have HH := Lib.hid h
  clear hb hs h hC
  go_enter Tryz.func65, Tryz.ntmps65
  go_wp2_with fail
  refine (word_calls t (by omega) w).mono ?_
  rintro e w1 ⟨rfl, hf1⟩
  have h1 := HH.out.fr hf1 (by simp)
  have hbut1 : But B K w w1 := But.of_fr hf1 hB
  obtain ⟨v2, hb2, hs2⟩ := id h1
  have d3 : w1.cell? ⟨K, 3, none⟩ = some (.bool bad) := by rw [Lib.cell_of_heap hb2]; rfl
  have f3 : w1.frozen? ⟨K, 3, none⟩ = false := Lib.frozen_of_heap hb2 3
  have hsz1 := hf1.size
  have H1 := Lib.hid h1
  clear hb2 hs2 h1 hf1
  generalize hx : hWord t = x at hwl ⊢
  have HX := Lib.hid hx
  clear hx
  have fin : ∀ v : Bool, v = (bad || decide (65536 < x.length)) → ∀ w2, WCod K B (w1.setCell ⟨K, 3, none⟩ (.bool v)) out v ∧ (But B K (w1.setCell ⟨K, 3, none⟩ (.bool v)) w2 → But B K w w2) := by
    rintro v rfl w2
    exact ⟨H1.out.setBad _, fun h => (hbut1.setCell rfl _).trans h⟩
  have FIN := Lib.hid fin
  clear fin hbut1
  cases bad with
  | true =>
    go_wp2_with fail
    refine (put_calls K B _ out true x (FIN.out _ (by simp) w1).1 hKB (by simp; omega) ho).mono ?_
    rintro e w2 ⟨rfl, h2, hbut2⟩
    go_wp2_with fail
    exact bodyPost_ret (results_none rfl _ _ _) rfl ⟨rfl, by rw [HX.out]; simpa using h2, (FIN.out _ (by simp) w2).2 hbut2⟩
  | false =>
    have e1 : decide ((65536 : Int) < (x.length : Int)) = (false || decide (65536 < x.length)) := by
      rw [Bool.false_or]; exact decide_eq_decide.2 (by omega)
    have E1 := Lib.hid e1
    clear e1
    go_wp2_with fail
    refine (put_calls K B _ out _ x (FIN.out _ E1.out w1).1 hKB (by simp; omega) ho).mono ?_
    rintro e w2 ⟨rfl, h2, hbut2⟩
    go_wp2_with fail
    refine bodyPost_ret (results_none rfl _ _ _) rfl ⟨rfl, ?_, (FIN.out _ E1.out w2).2 hbut2⟩
    rw [HX.out, ← E1.out]
    exact h2

set_option maxHeartbeats 1000000 in
set_option maxRecDepth 100000 in
theorem number_write (K B C o : Nat) (w : World) (out : List (List UInt8)) (bad : Bool) (n : Nat) (hn : n < 18446744073709551616) (henv : Env w) (h : WCod K B w out bad) (hKB : K < B) (hB : B ≤ w.heap.size) (ho : out.length ≤ 1099511627776)
    (hC : w.cell? ⟨C, o, none⟩ = some (.int .u64 (n : Nat))) :
    Calls Tryz.prog 50 #[.pointer (some ⟨K, 0, none⟩), .pointer (some ⟨C, o, none⟩)] w fun e w' => e = .returned (.tuple #[]) ∧ WCod K B w' (out ++ [Lib.decDigits n]) bad ∧ But B K w w' := by
  have hh := h
  obtain ⟨v, hb, hs⟩ := hh
  have c2 : w.cell? ⟨K, 2, none⟩ = some (.bool false) := by rw [Lib.cell_of_heap hb]; rfl
  have HH := Lib.hid h
  clear hb hs h
  go_enter Tryz.func50, Tryz.ntmps50
  go_wp2_with fail
  refine (formatUint_calls n hn w henv).mono ?_
  rintro e w1 ⟨rfl, hf1⟩
  have h1 := HH.out.fr hf1 (by simp)
  have hbut1 : But B K w w1 := But.of_fr hf1 hB
  have hsz1 := hf1.size
  have H1 := Lib.hid h1
  clear h1 hf1
  go_wp2_with fail
  refine (put_calls K B _ out bad _ H1.out hKB (by omega) ho).mono ?_
  rintro e w2 ⟨rfl, h2, hbut2⟩
  go_wp2_with fail
  exact bodyPost_ret (results_none rfl _ _ _) rfl ⟨rfl, h2, hbut1.trans hbut2⟩

set_option maxHeartbeats 1000000 in
set_option maxRecDepth 100000 in
theorem whole_write (K B C o : Nat) (w : World) (out : List (List UInt8)) (bad : Bool) (n : Int) (hn0 : -9223372036854775808 ≤ n) (hn1 : n ≤ 9223372036854775807) (henv : Env w) (h : WCod K B w out bad) (hKB : K < B) (hB : B ≤ w.heap.size) (ho : out.length ≤ 1099511627776)
    (hC : w.cell? ⟨C, o, none⟩ = some (.int .i64 n)) :
    Calls Tryz.prog 51 #[.pointer (some ⟨K, 0, none⟩), .pointer (some ⟨C, o, none⟩)] w fun e w' => e = .returned (.tuple #[]) ∧ WCod K B w' (out ++ [Lib.itoa n]) bad ∧ But B K w w' := by
  have hh := h
  obtain ⟨v, hb, hs⟩ := hh
  have c2 : w.cell? ⟨K, 2, none⟩ = some (.bool false) := by rw [Lib.cell_of_heap hb]; rfl
  have HH := Lib.hid h
  clear hb hs h
  go_enter Tryz.func51, Tryz.ntmps51
  go_wp2_with fail
  refine (itoa_calls n hn0 hn1 w henv).mono ?_
  rintro e w1 ⟨rfl, hf1⟩
  have h1 := HH.out.fr hf1 (by simp)
  have hbut1 : But B K w w1 := But.of_fr hf1 hB
  have hsz1 := hf1.size
  have H1 := Lib.hid h1
  clear h1 hf1
  go_wp2_with fail
  refine (put_calls K B _ out bad _ H1.out hKB (by omega) ho).mono ?_
  rintro e w2 ⟨rfl, h2, hbut2⟩
  go_wp2_with fail
  exact bodyPost_ret (results_none rfl _ _ _) rfl ⟨rfl, h2, hbut1.trans hbut2⟩
end Go.Proofs.YtcaeppncippknaaGreatDoor
