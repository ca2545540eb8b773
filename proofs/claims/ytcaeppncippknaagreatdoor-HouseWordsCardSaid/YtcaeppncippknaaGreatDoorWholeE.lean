/- house's whole over api.Errno, while it reads: as whole over int. -/
import Derived.Test.YtcaeppncippknaaGreatDoorField
namespace Go.Proofs.YtcaeppncippknaaGreatDoor
open Go Go.RowKit

set_option maxHeartbeats 1000000 in
set_option maxRecDepth 100000 in
theorem wholeE_read (K b C o : Nat) (cs : Array Value) (T : TypeId) (w : World) (l : List (List UInt8)) (bad : Bool) (henv : Env w) (h : RCod K b w l bad) (hC : w.heap[C]? = some (.cells cs T (0, 0))) (ho : o < cs.size)
    (hCK : C ≠ K) (hCb : C ≠ b) (hK8 : 8 ≤ K) (hll : l.length ≤ 1099511627776) (hlw : ∀ x ∈ l, x.length ≤ 1048576) :
    Calls Tryz.prog 49 #[.pointer (some ⟨K, 0, none⟩), .pointer (some ⟨C, o, none⟩)] w fun e w' => e = .returned (.tuple #[]) ∧ RCod K b w' (nextL l bad) (intB l bad) ∧
      w'.heap[C]? = some (.cells (cs.setIfInBounds o (.int .i64 (intV l bad))) T (0, 0)) ∧ Fr [K, C] w w' := by
  have hh := h
  obtain ⟨v, hb, hs, hn⟩ := hh
  have c2 : w.cell? ⟨K, 2, none⟩ = some (.bool true) := by rw [Lib.cell_of_heap hb]; rfl
  have hwl := nextW_length hlw bad
  have HH := Lib.hid h
  clear hb hs h hlw
  go_enter Tryz.func49, Tryz.ntmps49
  go_wp2_with fail
  refine (next_calls K b w l bad hll HH.out).mono ?_
  rintro e w1 ⟨rfl, hr1, hf1⟩
  have henv1 := henv.fr hf1 (by simpa using hK8)
  go_wp2_with fail
  refine (atoi_calls (nextW l bad) (by omega) w1 henv1).mono ?_
  rintro e w2 ⟨ev, rfl, hev, hf2⟩
  have henv2 := henv1.fr hf2 (by simp)
  have hr2 := hr1.fr hf2 (by simp) (by simp)
  have hfr2 := hf1.trans hf2 (by simp)
  have hC2 := hfr2.blockAs hC (by simpa using hCK)
  clear hr1 hf1 hf2 hC henv1 henv
  obtain ⟨v2, hb2, hs2, _⟩ := id hr2
  have d3 : w2.cell? ⟨K, 3, none⟩ = some (.bool (nextB l bad)) := by rw [Lib.cell_of_heap hb2]; rfl
  have f3 : w2.frozen? ⟨K, 3, none⟩ = false := Lib.frozen_of_heap hb2 3
  obtain ⟨u, hu⟩ : ∃ u, cs[o]? = some u := ⟨cs[o], by simp [ho]⟩
  have dC : w2.cell? ⟨C, o, none⟩ = some u := by rw [Lib.cell_of_heap hC2]; exact hu
  have fC : w2.frozen? ⟨C, o, none⟩ = false := Lib.frozen_of_heap hC2 o
  have HT : Hid (intB l bad = (nextB l bad || !pIok (nextW l bad) || !(Lib.itoa (pI (nextW l bad)) == nextW l bad))) := rfl
  have HV : Hid (Value.int .i64 (intV l bad) = .int .i64 (pI (nextW l bad))) := rfl
  have fin : ∀ (v : Bool), v = intB l bad → ∀ w3, Fr [] w2 w3 → ∀ w4, w4 = (w3.setCell ⟨K, 3, none⟩ (.bool v)).setCell ⟨C, o, none⟩ (.int .i64 (intV l bad)) → RCod K b w4 (nextL l bad) (intB l bad) ∧ w4.heap[C]? = some (.cells (cs.setIfInBounds o (.int .i64 (intV l bad))) T (0, 0)) ∧ Fr [K, C] w w4 := by
    rintro v rfl w3 hf3 w4 rfl
    refine ⟨((hr2.fr hf3 (by simp) (by simp)).setBad _).setOther hCK hCb _, ?_, ?_⟩
    · refine setCell_block ?_ _
      rw [← hf3.blockAs hC2 (by simp)]
      exact Below.heap_setCell _ _ _ _ hCK
    · exact ((((hfr2.trans hf3 (by simp)).mono (by simp)).setCell (by simp) _).setCell (by simp) _)
  have FIN := Lib.hid fin
  clear fin hr2 hb2 hs2 hu hfr2
  have HC2 := Lib.hid hC2
  clear hC2
  have hx : ∀ v : Value, (w2.setCell ⟨K, 3, none⟩ v).cell? ⟨C, o, none⟩ = some u := fun v => by
    rw [World.cell?_setCell_other _ _ _ _ (by first | (simp; done) | (simp; omega))]; exact dC
  generalize nextB l bad = nb at HT d3
  generalize hnw : nextW l bad = nw at hwl HT HV hev
  skip
  clear hnw
  cases nb with
  | true =>
    rcases Bool.eq_false_or_eq_true (pIok nw) with hok | hok
    all_goals
      rw [hok] at hev
      first | (obtain rfl : ev = .nilIface := hev) | (obtain ⟨te, pe, rfl⟩ := hev)
      go_wp2_with fail
      go_end0
      exact ⟨rfl, FIN.out true (by rw [HT.out]; simp) _ (Fr.refl _ _) _ (by rw [HV.out])⟩
  | false =>
    rcases Bool.eq_false_or_eq_true (pIok nw) with hok | hok
    · rw [hok] at hev
      obtain rfl : ev = .nilIface := hev
      go_wp2_with fail
      refine (itoa_calls (pI nw) (pI_ge nw) (pI_le nw) w2 henv2).mono ?_
      rintro e w3 ⟨rfl, hf3⟩
      have e3 := hf3.cellAs d3 (by simp)
      have g3 : w3.frozen? ⟨K, 3, none⟩ = false := (hf3.frozen (lt_of_cell d3) (by simp)).trans f3
      have eC := hf3.cellAs dC (by simp)
      have gC : w3.frozen? ⟨C, o, none⟩ = false := (hf3.frozen (lt_of_cell dC) (by simp)).trans fC
      have hx3 : ∀ v : Value, (w3.setCell ⟨K, 3, none⟩ v).cell? ⟨C, o, none⟩ = some u := fun v => by
        rw [World.cell?_setCell_other _ _ _ _ (by first | (simp; done) | (simp; omega))]; exact eC
      by_cases heq : Lib.itoa (pI nw) = nw
      · have heq' : (Lib.itoa (pI nw) == nw) = true := by simpa using heq
        have HQ := Lib.hid heq
        clear heq
        go_wp2_with fail
        go_end0
        exact ⟨rfl, FIN.out false (by rw [HT.out, hok]; simp [HQ.out]) _ hf3 _ (by rw [HV.out])⟩
      · have heq' : (Lib.itoa (pI nw) == nw) = false := by simpa using heq
        have HQ := Lib.hid heq
        clear heq
        go_wp2_with fail
        go_end0
        exact ⟨rfl, FIN.out true (by rw [HT.out, hok, heq']; rfl) _ hf3 _ (by rw [HV.out])⟩
    · rw [hok] at hev
      obtain ⟨te, pe, rfl⟩ := hev
      go_wp2_with fail
      go_end0
      exact ⟨rfl, FIN.out true (by rw [HT.out, hok]; rfl) _ (Fr.refl _ _) _ (by rw [HV.out])⟩
end Go.Proofs.YtcaeppncippknaaGreatDoor
