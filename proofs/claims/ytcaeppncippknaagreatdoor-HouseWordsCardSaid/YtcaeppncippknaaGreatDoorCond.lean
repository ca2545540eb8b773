/- house's coder: cond, while it reads. Conditions: as of text. -/
import Derived.Test.YtcaeppncippknaaGreatDoorField
namespace Go.Proofs.YtcaeppncippknaaGreatDoor
open Go Go.RowKit

def w_any : List UInt8 := [97, 110, 121]
def w_absent : List UInt8 := [97, 98, 115, 101, 110, 116]
def w_is : List UInt8 := [105, 115]
def condWords : List (List UInt8) := [w_any, w_absent, w_is]
theorem conds_calls (w : World) : Calls Tryz.prog 95 #[] w fun e w' => e = .returned (.slice (some ⟨w.heap.size, 0, none⟩) 3 3) ∧ w.alloc (.cells #[strV w_any, strV w_absent, strV w_is] 9) = w' := by
  go_enter Tryz.func95, Tryz.ntmps95
  go_wp2
  go_ret
  exact ⟨rfl, rfl⟩
def condI (x : List UInt8) : Int := if x = w_any then 0 else if x = w_absent then 1 else if x = w_is then 2 else -1
theorem bs_inj {a b : List UInt8} (h : bs a = bs b) : a = b := by
  have := congrArg (fun s : ByteArray => s.data.toList) h
  simpa using this
theorem index_conds (x : List UInt8) (B : Nat) (w : World) (hB : w.heap[B]? = some (.cells #[strV w_any, strV w_absent, strV w_is] 9 (0, 0))) :
    Calls Tryz.prog 94 #[.slice (some ⟨B, 0, none⟩) 3 3, .string (bs x)] w fun e w' => e = .returned (.int .i64 (condI x)) ∧ w = w' := by
  refine (Tryz.slices_Index_string B 0 3 3 [bs w_any, bs w_absent, bs w_is] (bs x) w (by simp) (by omega) (fun j hj => ?_)).mono ?_
  · rw [Lib.cell_of_heap hB]
    match j, hj with
    | 0, _ => rfl
    | 1, _ => rfl
    | 2, _ => rfl
  · rintro e w' ⟨rfl, rfl⟩
    refine ⟨?_, rfl⟩
    have : Lib.idxOfS (List.take 3 [bs w_any, bs w_absent, bs w_is]) (bs x) = condI x := by
      have e : ∀ a b : List UInt8, (bs a == bs b) = (a == b) := fun a b => by
        rw [Bool.eq_iff_iff, MapKept.bytes_beq, beq_iff_eq]
        exact ⟨bs_inj, fun h => by rw [h]⟩
      simp only [Lib.idxOfS, List.take_succ_cons, List.take_zero, Lib.idxFromS, condI]
      by_cases h1 : x = w_any
      · subst h1; simp
      · by_cases h2 : x = w_absent
        · subst h2
          rw [if_neg (fun h => h1 (bs_inj h).symm)]; simp [w_any, w_absent]
        · by_cases h3 : x = w_is
          · subst h3
            rw [if_neg (fun h => h1 (bs_inj h).symm), if_neg (fun h => h2 (bs_inj h).symm)]; simp [w_any, w_absent, w_is]
          · rw [if_neg (fun h => h1 (bs_inj h).symm), if_neg (fun h => h2 (bs_inj h).symm), if_neg (fun h => h3 (bs_inj h).symm), if_neg h1, if_neg h2, if_neg h3]
    rw [this]

def condK (l : List (List UInt8)) (bad : Bool) : Nat := (condI (nextW l bad)).toNat
def condB1 (l : List (List UInt8)) (bad : Bool) : Bool := nextB l bad || decide (condI (nextW l bad) < 0)
def condCells (cs : Array Value) (o : Nat) (l : List (List UInt8)) (bad : Bool) : Array Value :=
  if condK l bad = 2 then (cs.setIfInBounds o (.int .u8 2)).setIfInBounds (o + 1) (.int .u64 (numV (nextL l bad) (condB1 l bad) : Nat)) else cs.setIfInBounds o (.int .u8 (condK l bad : Nat))
def condL (l : List (List UInt8)) (bad : Bool) : List (List UInt8) := if condK l bad = 2 then nextL (nextL l bad) (condB1 l bad) else nextL l bad
def condB (l : List (List UInt8)) (bad : Bool) : Bool := if condK l bad = 2 then numB (nextL l bad) (condB1 l bad) else condB1 l bad
theorem condI_cases (x : List UInt8) : condI x = 0 ∨ condI x = 1 ∨ condI x = 2 ∨ condI x = -1 := by unfold condI; split <;> (try split) <;> (try split) <;> simp

set_option maxHeartbeats 1000000 in
set_option maxRecDepth 100000 in
theorem cond_read (K b C o : Nat) (cs : Array Value) (T : TypeId) (w : World) (l : List (List UInt8)) (bad : Bool) (henv : Env w) (h : RCod K b w l bad) (hC : w.heap[C]? = some (.cells cs T (0, 0))) (ho : o + 1 < cs.size)
    (hCK : C ≠ K) (hCb : C ≠ b) (hK8 : 8 ≤ K) (hC8 : 8 ≤ C) (hll : l.length ≤ 1099511627776) (hlw : ∀ x ∈ l, x.length ≤ 1048576) :
    Calls Tryz.prog 69 #[.pointer (some ⟨K, 0, none⟩), .pointer (some ⟨C, o, none⟩)] w fun e w' => e = .returned (.tuple #[]) ∧ RCod K b w' (condL l bad) (condB l bad) ∧
      w'.heap[C]? = some (.cells (condCells cs o l bad) T (0, 0)) ∧ Fr [K, C] w w' := by
  have hh := h
  obtain ⟨v, hb, hs, hn⟩ := hh
  have c2 : w.cell? ⟨K, 2, none⟩ = some (.bool true) := by rw [Lib.cell_of_heap hb]; rfl
  have hwl2 : ∀ x ∈ nextL l bad, x.length ≤ 1048576 := fun x hx => hlw x (nextL_mem hx)
  have hll2 := nextL_length l bad
  have HH := Lib.hid h
  have HW2 := Lib.hid hwl2
  clear hb hs h hlw hwl2
  go_enter Tryz.func69, Tryz.ntmps69
  go_wp2_with fail
  refine (conds_calls w).mono ?_
  rintro e w1 ⟨rfl, rfl⟩
  have hr1 := HH.out.fr (M := []) ((Fr.refl [] w).alloc (.cells #[strV w_any, strV w_absent, strV w_is] 9)) (by simp) (by simp)
  have hB1 : (w.alloc (.cells #[strV w_any, strV w_absent, strV w_is] 9)).heap[w.heap.size]? = some (.cells #[strV w_any, strV w_absent, strV w_is] 9 (0, 0)) := (MapKept.heap_alloc w _).1
  have hKw := hr1.lt
  have hK0 : K < w.heap.size := HH.out.lt
  have hfr1 : Fr [] w (w.alloc (.cells #[strV w_any, strV w_absent, strV w_is] 9)) := (Fr.refl _ _).alloc _
  generalize w.alloc (.cells #[strV w_any, strV w_absent, strV w_is] 9) = w1 at hr1 hB1 hfr1 hKw ⊢
  have HB1 := Lib.hid hB1
  have HR1 := Lib.hid hr1
  clear hr1 hB1
  go_wp2_with fail
  refine (next_calls K b w1 l bad hll HR1.out).mono ?_
  rintro e w2 ⟨rfl, hr2, hf2⟩
  have hB2 := hf2.blockAs HB1.out (by simp; omega)
  have hfr2 : Fr [K] w w2 := (hfr1.mono (by simp)).andThen hf2
  clear hfr1 hf2
  have HI := Lib.hid (index_conds (nextW l bad) w.heap.size w2 hB2)
  clear hB2
  go_wp2_with fail
  refine HI.out.mono ?_
  rintro e w2' ⟨rfl, rfl⟩
  have hC2 := hfr2.blockAs hC (by simpa using hCK)
  have henv2 := henv.fr hfr2 (by simpa using hK8)
  obtain ⟨v2, hb2, hs2, _⟩ := id hr2
  have d3 : w2.cell? ⟨K, 3, none⟩ = some (.bool (nextB l bad)) := by rw [Lib.cell_of_heap hb2]; rfl
  have f3 : w2.frozen? ⟨K, 3, none⟩ = false := Lib.frozen_of_heap hb2 3
  obtain ⟨u, hu⟩ : ∃ u, cs[o]? = some u := ⟨cs[o], by simp [show o < cs.size by omega]⟩
  have dC : w2.cell? ⟨C, o, none⟩ = some u := by rw [Lib.cell_of_heap hC2]; exact hu
  have fC : w2.frozen? ⟨C, o, none⟩ = false := Lib.frozen_of_heap hC2 o
  have hx : ∀ v : Value, (w2.setCell ⟨K, 3, none⟩ v).cell? ⟨C, o, none⟩ = some u := fun v => by
    rw [World.cell?_setCell_other _ _ _ _ (by first | (simp; done) | (simp; omega))]; exact dC
  have fin : ∀ (v : Bool) (kd : Nat), v = condB1 l bad → kd = condK l bad → ∀ w3, w3 = (w2.setCell ⟨K, 3, none⟩ (.bool v)).setCell ⟨C, o, none⟩ (.int .u8 (kd : Nat)) → RCod K b w3 (nextL l bad) (condB1 l bad) ∧ w3.heap[C]? = some (.cells (cs.setIfInBounds o (.int .u8 (condK l bad : Nat))) T (0, 0)) ∧ Fr [K, C] w w3 := by
    rintro v kd rfl rfl w3 rfl
    refine ⟨(hr2.setBad _).setOther hCK hCb _, ?_, ?_⟩
    · refine setCell_block ?_ _
      rw [← hC2]
      exact Below.heap_setCell _ _ _ _ hCK
    · exact (((hfr2.mono (by simp)).setCell (by simp) _).setCell (by simp) _)
  have FIN := Lib.hid fin
  clear fin hr2 hb2 hs2 hu hfr2 HR1 HB1 hKw hC HI hC2
  have HB : Hid (condB1 l bad = (nextB l bad || decide (condI (nextW l bad) < 0))) := rfl
  have HK : Hid (condK l bad = (condI (nextW l bad)).toNat) := rfl
  have hcc := condI_cases (nextW l bad)
  generalize condI (nextW l bad) = ci at HB HK hcc ⊢
  generalize nextB l bad = nb at HB d3 ⊢
  have ho1 : o + 1 < cs.size := ho
  rcases hcc with rfl | rfl | rfl | rfl
  · have HC : Hid (condCells cs o l bad = cs.setIfInBounds o (.int .u8 (condK l bad : Nat)) ∧ condL l bad = nextL l bad ∧ condB l bad = condB1 l bad) := by
      unfold condCells condL condB
      rw [HK.out]; exact ⟨rfl, rfl, rfl⟩
    cases nb
    all_goals
      go_wp2_with fail
      go_end0
      rw [HC.out.1, HC.out.2.1, HC.out.2.2]
      exact ⟨rfl, FIN.out _ 0 (by rw [HB.out]; rfl) (by rw [HK.out]; rfl) _ rfl⟩
  · have HC : Hid (condCells cs o l bad = cs.setIfInBounds o (.int .u8 (condK l bad : Nat)) ∧ condL l bad = nextL l bad ∧ condB l bad = condB1 l bad) := by
      unfold condCells condL condB
      rw [HK.out]; exact ⟨rfl, rfl, rfl⟩
    cases nb
    all_goals
      go_wp2_with fail
      go_end0
      rw [HC.out.1, HC.out.2.1, HC.out.2.2]
      exact ⟨rfl, FIN.out _ 1 (by rw [HB.out]; rfl) (by rw [HK.out]; rfl) _ rfl⟩
  · have HC : Hid (condCells cs o l bad = (cs.setIfInBounds o (.int .u8 (condK l bad : Nat))).setIfInBounds (o + 1) (.int .u64 (numV (nextL l bad) (condB1 l bad) : Nat)) ∧ condL l bad = nextL (nextL l bad) (condB1 l bad) ∧ condB l bad = numB (nextL l bad) (condB1 l bad)) := by
      unfold condCells condL condB
      rw [HK.out]; exact ⟨rfl, rfl, rfl⟩
    cases nb
    · go_wp2_with fail
      have F := Lib.hid (FIN.out false 2 (by rw [HB.out]; rfl) (by rw [HK.out]; rfl) _ rfl)
      refine (number_read K b C (o + 1) (cs.setIfInBounds o (.int .u8 (condK l bad : Nat))) T _ (nextL l bad) (condB1 l bad) ?_ F.out.1 F.out.2.1 (by simpa using ho1) hCK hCb hK8 (by omega) HW2.out).mono ?_
      · exact henv.fr F.out.2.2 (by first | (simp; done) | (simp; omega))
      · rintro e w4 ⟨rfl, hr4, hC4, hf4⟩
        go_wp2_with fail
        go_end0
        rw [HC.out.1, HC.out.2.1, HC.out.2.2]
        exact ⟨rfl, hr4, hC4, F.out.2.2.andThen hf4⟩
    · go_wp2_with fail
      have F := Lib.hid (FIN.out true 2 (by rw [HB.out]; rfl) (by rw [HK.out]; rfl) _ rfl)
      refine (number_read K b C (o + 1) (cs.setIfInBounds o (.int .u8 (condK l bad : Nat))) T _ (nextL l bad) (condB1 l bad) ?_ F.out.1 F.out.2.1 (by simpa using ho1) hCK hCb hK8 (by omega) HW2.out).mono ?_
      · exact henv.fr F.out.2.2 (by first | (simp; done) | (simp; omega))
      · rintro e w4 ⟨rfl, hr4, hC4, hf4⟩
        go_wp2_with fail
        go_end0
        rw [HC.out.1, HC.out.2.1, HC.out.2.2]
        exact ⟨rfl, hr4, hC4, F.out.2.2.andThen hf4⟩
  · have HC : Hid (condCells cs o l bad = cs.setIfInBounds o (.int .u8 (condK l bad : Nat)) ∧ condL l bad = nextL l bad ∧ condB l bad = condB1 l bad) := by
      unfold condCells condL condB
      rw [HK.out]; exact ⟨rfl, rfl, rfl⟩
    cases nb
    all_goals
      go_wp2_with fail
      go_end0
      rw [HC.out.1, HC.out.2.1, HC.out.2.2]
      exact ⟨rfl, FIN.out _ 0 (by rw [HB.out]; rfl) (by rw [HK.out]; rfl) _ rfl⟩
end Go.Proofs.YtcaeppncippknaaGreatDoor
