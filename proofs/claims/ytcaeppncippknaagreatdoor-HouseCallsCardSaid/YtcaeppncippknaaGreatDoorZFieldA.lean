/- house's coder: text, number and whole, while it reads and while it writes. Conditions: the package variables' facts (Env); words below 2^20 bytes. -/
import Derived.Test.YtcaeppncippknaaGreatDoorZPut
import Derived.Test.YtcaeppncippknaaGreatDoorZText
namespace Go.Proofs.YtcaeppncippknaaGreatDoor
open Go Go.RowKit

def textV (l : List (List UInt8)) (bad : Bool) : List UInt8 := (hText (nextW l bad)).getD []
def textB (l : List (List UInt8)) (bad : Bool) : Bool := nextB l bad || !(hText (nextW l bad)).isSome || decide (65536 < (nextW l bad).length)
def numV (l : List (List UInt8)) (bad : Bool) : Nat := pU (nextW l bad)
def numB (l : List (List UInt8)) (bad : Bool) : Bool := nextB l bad || !pUok (nextW l bad) || !(Lib.decDigits (pU (nextW l bad)) == nextW l bad)
def intV (l : List (List UInt8)) (bad : Bool) : Int := pI (nextW l bad)
def intB (l : List (List UInt8)) (bad : Bool) : Bool := nextB l bad || !pIok (nextW l bad) || !(Lib.itoa (pI (nextW l bad)) == nextW l bad)
theorem nextW_length {l : List (List UInt8)} {M : Nat} (h : ∀ x ∈ l, x.length ≤ M) (bad : Bool) : (nextW l bad).length ≤ M := by
  unfold nextW
  cases bad
  · cases l with
    | nil => simp
    | cons x r => simpa using h x (by simp)
  · simp
theorem nextL_mem {l : List (List UInt8)} {bad : Bool} {x : List UInt8} (h : x ∈ nextL l bad) : x ∈ l := by
  unfold nextL at h
  cases bad
  · exact List.mem_of_mem_tail h
  · exact h
theorem nextL_length (l : List (List UInt8)) (bad : Bool) : (nextL l bad).length ≤ l.length := by
  unfold nextL
  cases bad <;> simp

set_option maxHeartbeats 1000000 in
set_option maxRecDepth 100000 in
theorem text_read (K b C o : Nat) (cs : Array Value) (T : TypeId) (w : World) (l : List (List UInt8)) (bad : Bool) (henv : Env w) (h : RCod K b w l bad) (hC : w.heap[C]? = some (.cells cs T (0, 0))) (ho : o < cs.size)
    (hCK : C ≠ K) (hCb : C ≠ b) (hK8 : 8 ≤ K) (hll : l.length ≤ 1099511627776) (hlw : ∀ x ∈ l, x.length ≤ 1048576) :
    Calls Tryz.prog 65 #[.pointer (some ⟨K, 0, none⟩), .pointer (some ⟨C, o, none⟩)] w fun e w' => e = .returned (.tuple #[]) ∧ RCod K b w' (nextL l bad) (textB l bad) ∧
      w'.heap[C]? = some (.cells (cs.setIfInBounds o (strV (textV l bad))) T (0, 0)) ∧ Fr [K, C] w w' := by
  have hh := h
  obtain ⟨v, hb, hs, hn⟩ := hh
  have c2 : w.cell? ⟨K, 2, none⟩ = some (.bool true) := by rw [Lib.cell_of_heap hb]; rfl
  have hwl := nextW_length hlw bad
  have HH := Lib.hid h
  clear hb hs h hlw
  go_enter Tryz.func65, Tryz.ntmps65
  go_wp2_with fail
  refine (next_calls K b w l bad hll HH.out).mono ?_
  rintro e w1 ⟨rfl, hr1, hf1⟩
  go_wp2_with fail
  refine (text_calls (nextW l bad) hwl w1 (henv.fr hf1 (by simpa using hK8))).mono ?_
  rintro e w2 ⟨rfl, hf2⟩
  have hr2 := hr1.fr hf2 (by simp) (by simp)
  have hfr2 := hf1.trans hf2 (by simp)
  have hC2 := hfr2.blockAs hC (by simpa using hCK)
  clear hr1 hf1 hf2 hC
  obtain ⟨v2, hb2, hs2, _⟩ := id hr2
  have d3 : w2.cell? ⟨K, 3, none⟩ = some (.bool (nextB l bad)) := by rw [Lib.cell_of_heap hb2]; rfl
  have f3 : w2.frozen? ⟨K, 3, none⟩ = false := Lib.frozen_of_heap hb2 3
  obtain ⟨u, hu⟩ : ∃ u, cs[o]? = some u := ⟨cs[o], by simp [ho]⟩
  have dC : w2.cell? ⟨C, o, none⟩ = some u := by rw [Lib.cell_of_heap hC2]; exact hu
  have fC : w2.frozen? ⟨C, o, none⟩ = false := Lib.frozen_of_heap hC2 o
  have HT : Hid (textB l bad = (nextB l bad || !(hText (nextW l bad)).isSome || decide (65536 < (nextW l bad).length))) := rfl
  have HV : Hid (textV l bad = (hText (nextW l bad)).getD []) := rfl
  have HR2 := Lib.hid hr2
  have HC2 := Lib.hid hC2
  clear hr2 hC2 hb2 hs2 hu
  have HRT : Hid (∀ o : Option (List UInt8), ResT o = .tuple #[.string (bs (o.getD [])), .bool o.isSome]) := fun _ => rfl
  rw [HRT.out]
  generalize hText (nextW l bad) = tx at HT HV ⊢
  generalize nextB l bad = nb at HT d3 HR2 ⊢
  generalize nextW l bad = nw at hwl HT HV ⊢
  have fin : ∀ (v : Bool), v = textB l bad → ∀ w3, w3 = (w2.setCell ⟨K, 3, none⟩ (.bool v)).setCell ⟨C, o, none⟩ (strV (textV l bad)) → RCod K b w3 (nextL l bad) (textB l bad) ∧ w3.heap[C]? = some (.cells (cs.setIfInBounds o (strV (textV l bad))) T (0, 0)) ∧ Fr [K, C] w w3 := by
    rintro v rfl w3 rfl
    refine ⟨(HR2.out.setBad _).setOther hCK hCb _, ?_, ?_⟩
    · refine setCell_block ?_ _
      rw [← HC2.out]
      exact Below.heap_setCell _ _ _ _ hCK
    · exact (((hfr2.mono (by simp)).setCell (by simp) _).setCell (by simp) _)
  have FIN := Lib.hid fin
  clear fin
  have hx : ∀ v : Value, (w2.setCell ⟨K, 3, none⟩ v).cell? ⟨C, o, none⟩ = some u := fun v => by
    rw [World.cell?_setCell_other _ _ _ _ (by first | (simp; done) | (simp; omega))]; exact dC
  cases nb with
  | true =>
    cases htx : tx.isSome
    all_goals
      go_wp2
      go_end0
      exact ⟨rfl, FIN.out true (by rw [HT.out]; simp) _ (by rw [HV.out]; rfl)⟩
  | false =>
    cases htx : tx.isSome
    · go_wp2
      go_end0
      exact ⟨rfl, FIN.out true (by rw [HT.out, htx]; simp) _ (by rw [HV.out]; rfl)⟩
    · go_wp2
      go_end0
      refine ⟨rfl, FIN.out (decide ((65536 : Int) < (nw.length : Int))) ?_ _ (by rw [HV.out]; rfl)⟩
      rw [HT.out, htx]
      simp only [Bool.not_true, Bool.or_false, Bool.false_or]
      exact decide_eq_decide.2 (by omega)

set_option maxHeartbeats 1000000 in
set_option maxRecDepth 100000 in
theorem number_read (K b C o : Nat) (cs : Array Value) (T : TypeId) (w : World) (l : List (List UInt8)) (bad : Bool) (henv : Env w) (h : RCod K b w l bad) (hC : w.heap[C]? = some (.cells cs T (0, 0))) (ho : o < cs.size)
    (hCK : C ≠ K) (hCb : C ≠ b) (hK8 : 8 ≤ K) (hll : l.length ≤ 1099511627776) (hlw : ∀ x ∈ l, x.length ≤ 1048576) :
    Calls Tryz.prog 50 #[.pointer (some ⟨K, 0, none⟩), .pointer (some ⟨C, o, none⟩)] w fun e w' => e = .returned (.tuple #[]) ∧ RCod K b w' (nextL l bad) (numB l bad) ∧
      w'.heap[C]? = some (.cells (cs.setIfInBounds o (.int .u64 (numV l bad : Nat))) T (0, 0)) ∧ Fr [K, C] w w' := by
  have hh := h
  obtain ⟨v, hb, hs, hn⟩ := hh
  have c2 : w.cell? ⟨K, 2, none⟩ = some (.bool true) := by rw [Lib.cell_of_heap hb]; rfl
  have hwl := nextW_length hlw bad
  have HH := Lib.hid h
  clear hb hs h hlw
  go_enter Tryz.func50, Tryz.ntmps50
  go_wp2_with fail
  refine (next_calls K b w l bad hll HH.out).mono ?_
  rintro e w1 ⟨rfl, hr1, hf1⟩
  have henv1 := henv.fr hf1 (by simpa using hK8)
  go_wp2_with fail
  refine (parseUint_calls (nextW l bad) (by omega) w1 henv1).mono ?_
  rintro e w2 ⟨ev, rfl, hev, hf2⟩
  have henv2 := henv1.fr hf2 (by simp)
  have hr2 := hr1.fr hf2 (by simp) (by simp)
  have hfr2 := hf1.trans hf2 (by simp)
  have hC2 := hfr2.blockAs hC (by simpa using hCK)
  clear hr1 hf1 hf2 hC henv1 henv
  obtain ⟨v2, hb2, hs2, _⟩ := id hr2
  have d3 : w2.cell? ⟨K, 3, none⟩ = some (.bool (nextB l bad)) := by rw [Lib.cell_of_heap hb2]; rfl
  have f3 : w2.frozen? ⟨K, 3, none⟩ = false := Lib.frozen_of_heap hb2 3
  obtain ⟨u, hu⟩ : ∃ u, cs[o]? = some u := ⟨cs[o], by simp [ho]⟩
  have dC : w2.cell? ⟨C, o, none⟩ = some u := by rw [Lib.cell_of_heap hC2]; exact hu
  have fC : w2.frozen? ⟨C, o, none⟩ = false := Lib.frozen_of_heap hC2 o
  have HT : Hid (numB l bad = (nextB l bad || !pUok (nextW l bad) || !(Lib.decDigits (pU (nextW l bad)) == nextW l bad))) := rfl
  have HV : Hid (Value.int .u64 (numV l bad : Nat) = .int .u64 (pU (nextW l bad) : Nat)) := rfl
  have fin : ∀ (v : Bool), v = numB l bad → ∀ w3, Fr [] w2 w3 → ∀ w4, w4 = (w3.setCell ⟨K, 3, none⟩ (.bool v)).setCell ⟨C, o, none⟩ (.int .u64 (numV l bad : Nat)) → RCod K b w4 (nextL l bad) (numB l bad) ∧ w4.heap[C]? = some (.cells (cs.setIfInBounds o (.int .u64 (numV l bad : Nat))) T (0, 0)) ∧ Fr [K, C] w w4 := by
    rintro v rfl w3 hf3 w4 rfl
    refine ⟨((hr2.fr hf3 (by simp) (by simp)).setBad _).setOther hCK hCb _, ?_, ?_⟩
    · refine setCell_block ?_ _
      rw [← hf3.blockAs hC2 (by simp)]
      exact Below.heap_setCell _ _ _ _ hCK
    · exact ((((hfr2.trans hf3 (by simp)).mono (by simp)).setCell (by simp) _).setCell (by simp) _)
  have FIN := Lib.hid fin
  clear fin hr2 hb2 hs2 hu hfr2
  have HC2 := Lib.hid hC2
  clear hC2
  have hx : ∀ v : Value, (w2.setCell ⟨K, 3, none⟩ v).cell? ⟨C, o, none⟩ = some u := fun v => by
    rw [World.cell?_setCell_other _ _ _ _ (by first | (simp; done) | (simp; omega))]; exact dC
  generalize nextB l bad = nb at HT d3
  generalize hnw : nextW l bad = nw at hwl HT HV hev
  skip
  clear hnw
  cases nb with
  | true =>
    rcases Bool.eq_false_or_eq_true (pUok nw) with hok | hok
    all_goals
      rw [hok] at hev
      first | (obtain rfl : ev = .nilIface := hev) | (obtain ⟨te, pe, rfl⟩ := hev)
      go_wp2_with fail
      go_end0
      exact ⟨rfl, FIN.out true (by rw [HT.out]; simp) _ (Fr.refl _ _) _ (by rw [HV.out])⟩
  | false =>
    rcases Bool.eq_false_or_eq_true (pUok nw) with hok | hok
    · rw [hok] at hev
      obtain rfl : ev = .nilIface := hev
      go_wp2_with fail
      refine (formatUint_calls (pU nw) (pU_lt nw) w2 henv2).mono ?_
      rintro e w3 ⟨rfl, hf3⟩
      have e3 := hf3.cellAs d3 (by simp)
      have g3 : w3.frozen? ⟨K, 3, none⟩ = false := (hf3.frozen (lt_of_cell d3) (by simp)).trans f3
      have eC := hf3.cellAs dC (by simp)
      have gC : w3.frozen? ⟨C, o, none⟩ = false := (hf3.frozen (lt_of_cell dC) (by simp)).trans fC
      have hx3 : ∀ v : Value, (w3.setCell ⟨K, 3, none⟩ v).cell? ⟨C, o, none⟩ = some u := fun v => by
        rw [World.cell?_setCell_other _ _ _ _ (by first | (simp; done) | (simp; omega))]; exact eC
      by_cases heq : Lib.decDigits (pU nw) = nw
      · have heq' : (Lib.decDigits (pU nw) == nw) = true := by simpa using heq
        have HQ := Lib.hid heq
        clear heq
        go_wp2_with fail
        go_end0
        exact ⟨rfl, FIN.out false (by rw [HT.out, hok]; simp [HQ.out]) _ hf3 _ (by rw [HV.out])⟩
      · have heq' : (Lib.decDigits (pU nw) == nw) = false := by simpa using heq
        have HQ := Lib.hid heq
        clear heq
        go_wp2_with fail
        go_end0
        exact ⟨rfl, FIN.out true (by rw [HT.out, hok, heq']; rfl) _ hf3 _ (by rw [HV.out])⟩
    · rw [hok] at hev
      obtain ⟨te, pe, rfl⟩ := hev
      go_wp2_with fail
      go_end0
      exact ⟨rfl, FIN.out true (by rw [HT.out, hok]; rfl) _ (Fr.refl _ _) _ (by rw [HV.out])⟩

set_option maxHeartbeats 1000000 in
set_option maxRecDepth 100000 in
theorem whole_read (K b C o : Nat) (cs : Array Value) (T : TypeId) (w : World) (l : List (List UInt8)) (bad : Bool) (henv : Env w) (h : RCod K b w l bad) (hC : w.heap[C]? = some (.cells cs T (0, 0))) (ho : o < cs.size)
    (hCK : C ≠ K) (hCb : C ≠ b) (hK8 : 8 ≤ K) (hll : l.length ≤ 1099511627776) (hlw : ∀ x ∈ l, x.length ≤ 1048576) :
    Calls Tryz.prog 51 #[.pointer (some ⟨K, 0, none⟩), .pointer (some ⟨C, o, none⟩)] w fun e w' => e = .returned (.tuple #[]) ∧ RCod K b w' (nextL l bad) (intB l bad) ∧
      w'.heap[C]? = some (.cells (cs.setIfInBounds o (.int .i64 (intV l bad))) T (0, 0)) ∧ Fr [K, C] w w' := by
  have hh := h
  obtain ⟨v, hb, hs, hn⟩ := hh
  have c2 : w.cell? ⟨K, 2, none⟩ = some (.bool true) := by rw [Lib.cell_of_heap hb]; rfl
  have hwl := nextW_length hlw bad
  have HH := Lib.hid h
  clear hb hs h hlw
  go_enter Tryz.func51, Tryz.ntmps51
  go_wp2_with fail
  refine (next_calls K b w l bad hll HH.out).mono ?_
  rintro e w1 ⟨rfl, hr1, hf1⟩
  have henv1 := henv.fr hf1 (by simpa using hK8)
  go_wp2_with fail
  refine (atoi_calls (nextW l bad) (by omega) w1 henv1).mono ?_
  rintro e w2 ⟨ev, rfl, hev, hf2⟩
  have henv2 := henv1.fr hf2 (by simp)
  have hr2 := hr1.fr hf2 (by simp) (by simp)
  have hfr2 := hf1.trans hf2 (by simp)
  have hC2 := hfr2.blockAs hC (by simpa using hCK)
  clear hr1 hf1 hf2 hC henv1 henv
  obtain ⟨v2, hb2, hs2, _⟩ := id hr2
  have d3 : w2.cell? ⟨K, 3, none⟩ = some (.bool (nextB l bad)) := by rw [Lib.cell_of_heap hb2]; rfl
  have f3 : w2.frozen? ⟨K, 3, none⟩ = false := Lib.frozen_of_heap hb2 3
  obtain ⟨u, hu⟩ : ∃ u, cs[o]? = some u := ⟨cs[o], by simp [ho]⟩
  have dC : w2.cell? ⟨C, o, none⟩ = some u := by rw [Lib.cell_of_heap hC2]; exact hu
  have fC : w2.frozen? ⟨C, o, none⟩ = false := Lib.frozen_of_heap hC2 o
  have HT : Hid (intB l bad = (nextB l bad || !pIok (nextW l bad) || !(Lib.itoa (pI (nextW l bad)) == nextW l bad))) := rfl
  have HV : Hid (Value.int .i64 (intV l bad) = .int .i64 (pI (nextW l bad))) := rfl
  have fin : ∀ (v : Bool), v = intB l bad → ∀ w3, Fr [] w2 w3 → ∀ w4, w4 = (w3.setCell ⟨K, 3, none⟩ (.bool v)).setCell ⟨C, o, none⟩ (.int .i64 (intV l bad)) → RCod K b w4 (nextL l bad) (intB l bad) ∧ w4.heap[C]? = some (.cells (cs.setIfInBounds o (.int .i64 (intV l bad))) T (0, 0)) ∧ Fr [K, C] w w4 := by
    rintro v rfl w3 hf3 w4 rfl
    refine ⟨((hr2.fr hf3 (by simp) (by simp)).setBad _).setOther hCK hCb _, ?_, ?_⟩
    · refine setCell_block ?_ _
      rw [← hf3.blockAs hC2 (by simp)]
      exact Below.heap_setCell _ _ _ _ hCK
    · exact ((((hfr2.trans hf3 (by simp)).mono (by simp)).setCell (by simp) _).setCell (by simp) _)
  have FIN := Lib.hid fin
  clear fin hr2 hb2 hs2 hu hfr2
  have HC2 := Lib.hid hC2
  clear hC2
  have hx : ∀ v : Value, (w2.setCell ⟨K, 3, none⟩ v).cell? ⟨C, o, none⟩ = some u := fun v => by
    rw [World.cell?_setCell_other _ _ _ _ (by first | (simp; done) | (simp; omega))]; exact dC
  generalize nextB l bad = nb at HT d3
  generalize hnw : nextW l bad = nw at hwl HT HV hev
  skip
  clear hnw
  cases nb with
  | true =>
    rcases Bool.eq_false_or_eq_true (pIok nw) with hok | hok
    all_goals
      rw [hok] at hev
      first | (obtain rfl : ev = .nilIface := hev) | (obtain ⟨te, pe, rfl⟩ := hev)
      go_wp2_with fail
      go_end0
      exact ⟨rfl, FIN.out true (by rw [HT.out]; simp) _ (Fr.refl _ _) _ (by rw [HV.out])⟩
  | false =>
    rcases Bool.eq_false_or_eq_true (pIok nw) with hok | hok
    · rw [hok] at hev
      obtain rfl : ev = .nilIface := hev
      go_wp2_with fail
      refine (itoa_calls (pI nw) (pI_ge nw) (pI_le nw) w2 henv2).mono ?_
      rintro e w3 ⟨rfl, hf3⟩
      have e3 := hf3.cellAs d3 (by simp)
      have g3 : w3.frozen? ⟨K, 3, none⟩ = false := (hf3.frozen (lt_of_cell d3) (by simp)).trans f3
      have eC := hf3.cellAs dC (by simp)
      have gC : w3.frozen? ⟨C, o, none⟩ = false := (hf3.frozen (lt_of_cell dC) (by simp)).trans fC
      have hx3 : ∀ v : Value, (w3.setCell ⟨K, 3, none⟩ v).cell? ⟨C, o, none⟩ = some u := fun v => by
        rw [World.cell?_setCell_other _ _ _ _ (by first | (simp; done) | (simp; omega))]; exact eC
      by_cases heq : Lib.itoa (pI nw) = nw
      · have heq' : (Lib.itoa (pI nw) == nw) = true := by simpa using heq
        have HQ := Lib.hid heq
        clear heq
        go_wp2_with fail
        go_end0
        exact ⟨rfl, FIN.out false (by rw [HT.out, hok]; simp [HQ.out]) _ hf3 _ (by rw [HV.out])⟩
      · have heq' : (Lib.itoa (pI nw) == nw) = false := by simpa using heq
        have HQ := Lib.hid heq
        clear heq
        go_wp2_with fail
        go_end0
        exact ⟨rfl, FIN.out true (by rw [HT.out, hok, heq']; rfl) _ hf3 _ (by rw [HV.out])⟩
    · rw [hok] at hev
      obtain ⟨te, pe, rfl⟩ := hev
      go_wp2_with fail
      go_end0
      exact ⟨rfl, FIN.out true (by rw [HT.out, hok]; rfl) _ (Fr.refl _ _) _ (by rw [HV.out])⟩
end Go.Proofs.YtcaeppncippknaaGreatDoor
/- house's whole over api.Errno, while it reads: as whole over int. -/
namespace Go.Proofs.YtcaeppncippknaaGreatDoor
open Go Go.RowKit

set_option maxHeartbeats 1000000 in
set_option maxRecDepth 100000 in
theorem wholeE_read (K b C o : Nat) (cs : Array Value) (T : TypeId) (w : World) (l : List (List UInt8)) (bad : Bool) (henv : Env w) (h : RCod K b w l bad) (hC : w.heap[C]? = some (.cells cs T (0, 0))) (ho : o < cs.size)
    (hCK : C ≠ K) (hCb : C ≠ b) (hK8 : 8 ≤ K) (hll : l.length ≤ 1099511627776) (hlw : ∀ x ∈ l, x.length ≤ 1048576) :
    Calls Tryz.prog 49 #[.pointer (some ⟨K, 0, none⟩), .pointer (some ⟨C, o, none⟩)] w fun e w' => e = .returned (.tuple #[]) ∧ RCod K b w' (nextL l bad) (intB l bad) ∧
      w'.heap[C]? = some (.cells (cs.setIfInBounds o (.int .i64 (intV l bad))) T (0, 0)) ∧ Fr [K, C] w w' := by
  have hh := h
  obtain ⟨v, hb, hs, hn⟩ := hh
  have c2 : w.cell? ⟨K, 2, none⟩ = some (.bool true) := by rw [Lib.cell_of_heap hb]; rfl
  have hwl := nextW_length hlw bad
  have HH := Lib.hid h
  clear hb hs h hlw
  go_enter Tryz.func49, Tryz.ntmps49
  go_wp2_with fail
  refine (next_calls K b w l bad hll HH.out).mono ?_
  rintro e w1 ⟨rfl, hr1, hf1⟩
  have henv1 := henv.fr hf1 (by simpa using hK8)
  go_wp2_with fail
  refine (atoi_calls (nextW l bad) (by omega) w1 henv1).mono ?_
  rintro e w2 ⟨ev, rfl, hev, hf2⟩
  have henv2 := henv1.fr hf2 (by simp)
  have hr2 := hr1.fr hf2 (by simp) (by simp)
  have hfr2 := hf1.trans hf2 (by simp)
  have hC2 := hfr2.blockAs hC (by simpa using hCK)
  clear hr1 hf1 hf2 hC henv1 henv
  obtain ⟨v2, hb2, hs2, _⟩ := id hr2
  have d3 : w2.cell? ⟨K, 3, none⟩ = some (.bool (nextB l bad)) := by rw [Lib.cell_of_heap hb2]; rfl
  have f3 : w2.frozen? ⟨K, 3, none⟩ = false := Lib.frozen_of_heap hb2 3
  obtain ⟨u, hu⟩ : ∃ u, cs[o]? = some u := ⟨cs[o], by simp [ho]⟩
  have dC : w2.cell? ⟨C, o, none⟩ = some u := by rw [Lib.cell_of_heap hC2]; exact hu
  have fC : w2.frozen? ⟨C, o, none⟩ = false := Lib.frozen_of_heap hC2 o
  have HT : Hid (intB l bad = (nextB l bad || !pIok (nextW l bad) || !(Lib.itoa (pI (nextW l bad)) == nextW l bad))) := rfl
  have HV : Hid (Value.int .i64 (intV l bad) = .int .i64 (pI (nextW l bad))) := rfl
  have fin : ∀ (v : Bool), v = intB l bad → ∀ w3, Fr [] w2 w3 → ∀ w4, w4 = (w3.setCell ⟨K, 3, none⟩ (.bool v)).setCell ⟨C, o, none⟩ (.int .i64 (intV l bad)) → RCod K b w4 (nextL l bad) (intB l bad) ∧ w4.heap[C]? = some (.cells (cs.setIfInBounds o (.int .i64 (intV l bad))) T (0, 0)) ∧ Fr [K, C] w w4 := by
    rintro v rfl w3 hf3 w4 rfl
    refine ⟨((hr2.fr hf3 (by simp) (by simp)).setBad _).setOther hCK hCb _, ?_, ?_⟩
    · refine setCell_block ?_ _
      rw [← hf3.blockAs hC2 (by simp)]
      exact Below.heap_setCell _ _ _ _ hCK
    · exact ((((hfr2.trans hf3 (by simp)).mono (by simp)).setCell (by simp) _).setCell (by simp) _)
  have FIN := Lib.hid fin
  clear fin hr2 hb2 hs2 hu hfr2
  have HC2 := Lib.hid hC2
  clear hC2
  have hx : ∀ v : Value, (w2.setCell ⟨K, 3, none⟩ v).cell? ⟨C, o, none⟩ = some u := fun v => by
    rw [World.cell?_setCell_other _ _ _ _ (by first | (simp; done) | (simp; omega))]; exact dC
  generalize nextB l bad = nb at HT d3
  generalize hnw : nextW l bad = nw at hwl HT HV hev
  skip
  clear hnw
  cases nb with
  | true =>
    rcases Bool.eq_false_or_eq_true (pIok nw) with hok | hok
    all_goals
      rw [hok] at hev
      first | (obtain rfl : ev = .nilIface := hev) | (obtain ⟨te, pe, rfl⟩ := hev)
      go_wp2_with fail
      go_end0
      exact ⟨rfl, FIN.out true (by rw [HT.out]; simp) _ (Fr.refl _ _) _ (by rw [HV.out])⟩
  | false =>
    rcases Bool.eq_false_or_eq_true (pIok nw) with hok | hok
    · rw [hok] at hev
      obtain rfl : ev = .nilIface := hev
      go_wp2_with fail
      refine (itoa_calls (pI nw) (pI_ge nw) (pI_le nw) w2 henv2).mono ?_
      rintro e w3 ⟨rfl, hf3⟩
      have e3 := hf3.cellAs d3 (by simp)
      have g3 : w3.frozen? ⟨K, 3, none⟩ = false := (hf3.frozen (lt_of_cell d3) (by simp)).trans f3
      have eC := hf3.cellAs dC (by simp)
      have gC : w3.frozen? ⟨C, o, none⟩ = false := (hf3.frozen (lt_of_cell dC) (by simp)).trans fC
      have hx3 : ∀ v : Value, (w3.setCell ⟨K, 3, none⟩ v).cell? ⟨C, o, none⟩ = some u := fun v => by
        rw [World.cell?_setCell_other _ _ _ _ (by first | (simp; done) | (simp; omega))]; exact eC
      by_cases heq : Lib.itoa (pI nw) = nw
      · have heq' : (Lib.itoa (pI nw) == nw) = true := by simpa using heq
        have HQ := Lib.hid heq
        clear heq
        go_wp2_with fail
        go_end0
        exact ⟨rfl, FIN.out false (by rw [HT.out, hok]; simp [HQ.out]) _ hf3 _ (by rw [HV.out])⟩
      · have heq' : (Lib.itoa (pI nw) == nw) = false := by simpa using heq
        have HQ := Lib.hid heq
        clear heq
        go_wp2_with fail
        go_end0
        exact ⟨rfl, FIN.out true (by rw [HT.out, hok, heq']; rfl) _ hf3 _ (by rw [HV.out])⟩
    · rw [hok] at hev
      obtain ⟨te, pe, rfl⟩ := hev
      go_wp2_with fail
      go_end0
      exact ⟨rfl, FIN.out true (by rw [HT.out, hok]; rfl) _ (Fr.refl _ _) _ (by rw [HV.out])⟩
end Go.Proofs.YtcaeppncippknaaGreatDoor
