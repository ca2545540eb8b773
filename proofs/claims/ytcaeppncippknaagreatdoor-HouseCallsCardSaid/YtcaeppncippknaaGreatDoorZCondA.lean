/- house's coder: cond, while it reads. Conditions: as of text. -/
import Derived.Test.YtcaeppncippknaaGreatDoorZFieldA
import Derived.Test.YtcaeppncippknaaGreatDoorZWrite
import Derived.Deep.RegionWith
import Derived.Deep.DeepCutAuto
namespace Go.Proofs.YtcaeppncippknaaGreatDoor
open Go Go.RowKit

def w_any : List UInt8 := [97, 110, 121]
def w_absent : List UInt8 := [97, 98, 115, 101, 110, 116]
def w_is : List UInt8 := [105, 115]
def condWords : List (List UInt8) := [w_any, w_absent, w_is]
theorem conds_calls (w : World) : Calls Tryz.prog 95 #[] w fun e w' => e = .returned (.slice (some ⟨w.heap.size, 0, none⟩) 3 3) ∧ w.alloc (.cells #[strV w_any, strV w_absent, strV w_is] 9) = w' := by
  go_enter Tryz.func95, Tryz.ntmps95
  go_wp2
  go_ret
  exact ⟨rfl, rfl⟩
def condI (x : List UInt8) : Int := if x = w_any then 0 else if x = w_absent then 1 else if x = w_is then 2 else -1
theorem bs_inj {a b : List UInt8} (h : bs a = bs b) : a = b := by
  have := congrArg (fun s : ByteArray => s.data.toList) h
  simpa using this
theorem index_conds (x : List UInt8) (B : Nat) (w : World) (hB : w.heap[B]? = some (.cells #[strV w_any, strV w_absent, strV w_is] 9 (0, 0))) :
    Calls Tryz.prog 94 #[.slice (some ⟨B, 0, none⟩) 3 3, .string (bs x)] w fun e w' => e = .returned (.int .i64 (condI x)) ∧ w = w' := by
  refine (Tryz.slices_Index_string B 0 3 3 [bs w_any, bs w_absent, bs w_is] (bs x) w (by simp) (by omega) (fun j hj => ?_)).mono ?_
  · rw [Lib.cell_of_heap hB]
    match j, hj with
    | 0, _ => rfl
    | 1, _ => rfl
    | 2, _ => rfl
  · rintro e w' ⟨rfl, rfl⟩
    refine ⟨?_, rfl⟩
    have : Lib.idxOfS (List.take 3 [bs w_any, bs w_absent, bs w_is]) (bs x) = condI x := by
      have e : ∀ a b : List UInt8, (bs a == bs b) = (a == b) := fun a b => by
        rw [Bool.eq_iff_iff, MapKept.bytes_beq, beq_iff_eq]
        exact ⟨bs_inj, fun h => by rw [h]⟩
      simp only [Lib.idxOfS, List.take_succ_cons, List.take_zero, Lib.idxFromS, condI]
      by_cases h1 : x = w_any
      · subst h1; simp
      · by_cases h2 : x = w_absent
        · subst h2
          rw [if_neg (fun h => h1 (bs_inj h).symm)]; simp [w_any, w_absent]
        · by_cases h3 : x = w_is
          · subst h3
            rw [if_neg (fun h => h1 (bs_inj h).symm), if_neg (fun h => h2 (bs_inj h).symm)]; simp [w_any, w_absent, w_is]
          · rw [if_neg (fun h => h1 (bs_inj h).symm), if_neg (fun h => h2 (bs_inj h).symm), if_neg (fun h => h3 (bs_inj h).symm), if_neg h1, if_neg h2, if_neg h3]
    rw [this]

def condK (l : List (List UInt8)) (bad : Bool) : Nat := (condI (nextW l bad)).toNat
def condB1 (l : List (List UInt8)) (bad : Bool) : Bool := nextB l bad || decide (condI (nextW l bad) < 0)
def condCells (cs : Array Value) (o : Nat) (l : List (List UInt8)) (bad : Bool) : Array Value :=
  if condK l bad = 2 then (cs.setIfInBounds o (.int .u8 2)).setIfInBounds (o + 1) (.int .u64 (numV (nextL l bad) (condB1 l bad) : Nat)) else cs.setIfInBounds o (.int .u8 (condK l bad : Nat))
def condL (l : List (List UInt8)) (bad : Bool) : List (List UInt8) := if condK l bad = 2 then nextL (nextL l bad) (condB1 l bad) else nextL l bad
def condB (l : List (List UInt8)) (bad : Bool) : Bool := if condK l bad = 2 then numB (nextL l bad) (condB1 l bad) else condB1 l bad
theorem condI_cases (x : List UInt8) : condI x = 0 ∨ condI x = 1 ∨ condI x = 2 ∨ condI x = -1 := by unfold condI; split <;> (try split) <;> (try split) <;> simp

set_option maxHeartbeats 1000000 in
set_option maxRecDepth 100000 in
theorem cond_read (K b C o : Nat) (cs : Array Value) (T : TypeId) (w : World) (l : List (List UInt8)) (bad : Bool) (henv : Env w) (h : RCod K b w l bad) (hC : w.heap[C]? = some (.cells cs T (0, 0))) (ho : o + 1 < cs.size)
    (hCK : C ≠ K) (hCb : C ≠ b) (hK8 : 8 ≤ K) (hC8 : 8 ≤ C) (hll : l.length ≤ 1099511627776) (hlw : ∀ x ∈ l, x.length ≤ 1048576) :
    Calls Tryz.prog 69 #[.pointer (some ⟨K, 0, none⟩), .pointer (some ⟨C, o, none⟩)] w fun e w' => e = .returned (.tuple #[]) ∧ RCod K b w' (condL l bad) (condB l bad) ∧
      w'.heap[C]? = some (.cells (condCells cs o l bad) T (0, 0)) ∧ Fr [K, C] w w' := by
  have hh := h
  obtain ⟨v, hb, hs, hn⟩ := hh
  have c2 : w.cell? ⟨K, 2, none⟩ = some (.bool true) := by rw [Lib.cell_of_heap hb]; rfl
  have hwl2 : ∀ x ∈ nextL l bad, x.length ≤ 1048576 := fun x hx => hlw x (nextL_mem hx)
  have hll2 := nextL_length l bad
  have HH := Lib.hid h
  have HW2 := Lib.hid hwl2
  clear hb hs h hlw hwl2
  go_enter Tryz.func69, Tryz.ntmps69
  go_wp2_with fail
  refine (conds_calls w).mono ?_
  rintro e w1 ⟨rfl, rfl⟩
  have hr1 := HH.out.fr (M := []) ((Fr.refl [] w).alloc (.cells #[strV w_any, strV w_absent, strV w_is] 9)) (by simp) (by simp)
  have hB1 : (w.alloc (.cells #[strV w_any, strV w_absent, strV w_is] 9)).heap[w.heap.size]? = some (.cells #[strV w_any, strV w_absent, strV w_is] 9 (0, 0)) := (MapKept.heap_alloc w _).1
  have hKw := hr1.lt
  have hK0 : K < w.heap.size := HH.out.lt
  have hfr1 : Fr [] w (w.alloc (.cells #[strV w_any, strV w_absent, strV w_is] 9)) := (Fr.refl _ _).alloc _
  generalize w.alloc (.cells #[strV w_any, strV w_absent, strV w_is] 9) = w1 at hr1 hB1 hfr1 hKw ⊢
  have HB1 := Lib.hid hB1
  have HR1 := Lib.hid hr1
  clear hr1 hB1
  go_wp2_with fail
  refine (next_calls K b w1 l bad hll HR1.out).mono ?_
  rintro e w2 ⟨rfl, hr2, hf2⟩
  have hB2 := hf2.blockAs HB1.out (by simp; omega)
  have hfr2 : Fr [K] w w2 := (hfr1.mono (by simp)).andThen hf2
  clear hfr1 hf2
  have HI := Lib.hid (index_conds (nextW l bad) w.heap.size w2 hB2)
  clear hB2
  go_wp2_with fail
  refine HI.out.mono ?_
  rintro e w2' ⟨rfl, rfl⟩
  have hC2 := hfr2.blockAs hC (by simpa using hCK)
  have henv2 := henv.fr hfr2 (by simpa using hK8)
  obtain ⟨v2, hb2, hs2, _⟩ := id hr2
  have d3 : w2.cell? ⟨K, 3, none⟩ = some (.bool (nextB l bad)) := by rw [Lib.cell_of_heap hb2]; rfl
  have f3 : w2.frozen? ⟨K, 3, none⟩ = false := Lib.frozen_of_heap hb2 3
  obtain ⟨u, hu⟩ : ∃ u, cs[o]? = some u := ⟨cs[o], by simp [show o < cs.size by omega]⟩
  have dC : w2.cell? ⟨C, o, none⟩ = some u := by rw [Lib.cell_of_heap hC2]; exact hu
  have fC : w2.frozen? ⟨C, o, none⟩ = false := Lib.frozen_of_heap hC2 o
  have hx : ∀ v : Value, (w2.setCell ⟨K, 3, none⟩ v).cell? ⟨C, o, none⟩ = some u := fun v => by
    rw [World.cell?_setCell_other _ _ _ _ (by first | (simp; done) | (simp; omega))]; exact dC
  have fin : ∀ (v : Bool) (kd : Nat), v = condB1 l bad → kd = condK l bad → ∀ w3, w3 = (w2.setCell ⟨K, 3, none⟩ (.bool v)).setCell ⟨C, o, none⟩ (.int .u8 (kd : Nat)) → RCod K b w3 (nextL l bad) (condB1 l bad) ∧ w3.heap[C]? = some (.cells (cs.setIfInBounds o (.int .u8 (condK l bad : Nat))) T (0, 0)) ∧ Fr [K, C] w w3 := by
    rintro v kd rfl rfl w3 rfl
    refine ⟨(hr2.setBad _).setOther hCK hCb _, ?_, ?_⟩
    · refine setCell_block ?_ _
      rw [← hC2]
      exact Below.heap_setCell _ _ _ _ hCK
    · exact (((hfr2.mono (by simp)).setCell (by simp) _).setCell (by simp) _)
  have FIN := Lib.hid fin
  clear fin hr2 hb2 hs2 hu hfr2 HR1 HB1 hKw hC HI hC2
  have HB : Hid (condB1 l bad = (nextB l bad || decide (condI (nextW l bad) < 0))) := rfl
  have HK : Hid (condK l bad = (condI (nextW l bad)).toNat) := rfl
  have hcc := condI_cases (nextW l bad)
  generalize condI (nextW l bad) = ci at HB HK hcc ⊢
  generalize nextB l bad = nb at HB d3 ⊢
  have ho1 : o + 1 < cs.size := ho
  rcases hcc with rfl | rfl | rfl | rfl
  · have HC : Hid (condCells cs o l bad = cs.setIfInBounds o (.int .u8 (condK l bad : Nat)) ∧ condL l bad = nextL l bad ∧ condB l bad = condB1 l bad) := by
      unfold condCells condL condB
      rw [HK.out]; exact ⟨rfl, rfl, rfl⟩
    cases nb
    all_goals
      go_wp2_with fail
      go_end0
      rw [HC.out.1, HC.out.2.1, HC.out.2.2]
      exact ⟨rfl, FIN.out _ 0 (by rw [HB.out]; rfl) (by rw [HK.out]; rfl) _ rfl⟩
  · have HC : Hid (condCells cs o l bad = cs.setIfInBounds o (.int .u8 (condK l bad : Nat)) ∧ condL l bad = nextL l bad ∧ condB l bad = condB1 l bad) := by
      unfold condCells condL condB
      rw [HK.out]; exact ⟨rfl, rfl, rfl⟩
    cases nb
    all_goals
      go_wp2_with fail
      go_end0
      rw [HC.out.1, HC.out.2.1, HC.out.2.2]
      exact ⟨rfl, FIN.out _ 1 (by rw [HB.out]; rfl) (by rw [HK.out]; rfl) _ rfl⟩
  · have HC : Hid (condCells cs o l bad = (cs.setIfInBounds o (.int .u8 (condK l bad : Nat))).setIfInBounds (o + 1) (.int .u64 (numV (nextL l bad) (condB1 l bad) : Nat)) ∧ condL l bad = nextL (nextL l bad) (condB1 l bad) ∧ condB l bad = numB (nextL l bad) (condB1 l bad)) := by
      unfold condCells condL condB
      rw [HK.out]; exact ⟨rfl, rfl, rfl⟩
    cases nb
    · go_wp2_with fail
      have F := Lib.hid (FIN.out false 2 (by rw [HB.out]; rfl) (by rw [HK.out]; rfl) _ rfl)
      refine (number_read K b C (o + 1) (cs.setIfInBounds o (.int .u8 (condK l bad : Nat))) T _ (nextL l bad) (condB1 l bad) ?_ F.out.1 F.out.2.1 (by simpa using ho1) hCK hCb hK8 (by omega) HW2.out).mono ?_
      · exact henv.fr F.out.2.2 (by first | (simp; done) | (simp; omega))
      · rintro e w4 ⟨rfl, hr4, hC4, hf4⟩
        go_wp2_with fail
        go_end0
        rw [HC.out.1, HC.out.2.1, HC.out.2.2]
        exact ⟨rfl, hr4, hC4, F.out.2.2.andThen hf4⟩
    · go_wp2_with fail
      have F := Lib.hid (FIN.out true 2 (by rw [HB.out]; rfl) (by rw [HK.out]; rfl) _ rfl)
      refine (number_read K b C (o + 1) (cs.setIfInBounds o (.int .u8 (condK l bad : Nat))) T _ (nextL l bad) (condB1 l bad) ?_ F.out.1 F.out.2.1 (by simpa using ho1) hCK hCb hK8 (by omega) HW2.out).mono ?_
      · exact henv.fr F.out.2.2 (by first | (simp; done) | (simp; omega))
      · rintro e w4 ⟨rfl, hr4, hC4, hf4⟩
        go_wp2_with fail
        go_end0
        rw [HC.out.1, HC.out.2.1, HC.out.2.2]
        exact ⟨rfl, hr4, hC4, F.out.2.2.andThen hf4⟩
  · have HC : Hid (condCells cs o l bad = cs.setIfInBounds o (.int .u8 (condK l bad : Nat)) ∧ condL l bad = nextL l bad ∧ condB l bad = condB1 l bad) := by
      unfold condCells condL condB
      rw [HK.out]; exact ⟨rfl, rfl, rfl⟩
    cases nb
    all_goals
      go_wp2_with fail
      go_end0
      rw [HC.out.1, HC.out.2.1, HC.out.2.2]
      exact ⟨rfl, FIN.out _ 0 (by rw [HB.out]; rfl) (by rw [HK.out]; rfl) _ rfl⟩
end Go.Proofs.YtcaeppncippknaaGreatDoor
/- house's coder: cond, while it writes. Conditions: as of number. -/
namespace Go.Proofs.YtcaeppncippknaaGreatDoor
open Go Go.RowKit

def condW1 (kd : Nat) : List UInt8 := if kd = 0 then w_any else if kd = 1 then w_absent else w_is
def condOut (kd n : Nat) : List (List UInt8) := if kd = 2 then [w_is, Lib.decDigits n] else [condW1 kd]
theorem condW1_min {kd m : Nat} (h : min (kd : Int) 2 = (m : Nat)) : condW1 m = condW1 kd := by
  unfold condW1
  by_cases h0 : kd = 0
  · rw [if_pos (by omega), if_pos h0]
  · by_cases h1 : kd = 1
    · rw [if_neg (by omega), if_pos (by omega), if_neg h0, if_pos h1]
    · rw [if_neg (by omega), if_neg (by omega), if_neg h0, if_neg h1]

set_option maxHeartbeats 2000000 in
set_option maxRecDepth 100000 in
theorem cond_write (K B C o : Nat) (cs : Array Value) (T : TypeId) (kd n : Nat) (hkd : kd ≤ 255) (hn : n < 18446744073709551616) (w : World) (out : List (List UInt8)) (bad : Bool) (henv : Env w) (h : WCod K B w out bad) (hKB : K < B) (hB : B ≤ w.heap.size) (ho : out.length ≤ 1099511627775)
    (hC : w.heap[C]? = some (.cells cs T (0, 0))) (hk : cs[o]? = some (.int .u8 (kd : Nat))) (hnn : cs[o + 1]? = some (.int .u64 (n : Nat))) (hCB : C < B) (hCK : C ≠ K) (hK8 : 8 ≤ K) (hB8 : 8 ≤ B) :
    Calls Tryz.prog 69 #[.pointer (some ⟨K, 0, none⟩), .pointer (some ⟨C, o, none⟩)] w fun e w' => e = .returned (.tuple #[]) ∧ WCod K B w' (out ++ condOut kd n) (bad || decide (2 < kd)) ∧ But B K w w' := by
  have hh := h
  obtain ⟨v, hb, hs⟩ := hh
  have c2 : w.cell? ⟨K, 2, none⟩ = some (.bool false) := by rw [Lib.cell_of_heap hb]; rfl
  have c3 : w.cell? ⟨K, 3, none⟩ = some (.bool bad) := by rw [Lib.cell_of_heap hb]; rfl
  have f3 : w.frozen? ⟨K, 3, none⟩ = false := Lib.frozen_of_heap hb 3
  have cC : w.cell? ⟨C, o, none⟩ = some (.int .u8 (kd : Nat)) := by rw [Lib.cell_of_heap hC]; exact hk
  have cN : w.cell? ⟨C, o + 1, none⟩ = some (.int .u64 (n : Nat)) := by rw [Lib.cell_of_heap hC]; exact hnn
  have HH := Lib.hid h
  have HN := Lib.hid cN
  clear hb hs h hC hk hnn cN
  have e1 : decide ((kd : Int) > (2 : Int)) = (false || decide (2 < kd)) := by
    rw [Bool.false_or]; exact decide_eq_decide.2 (by omega)
  have E1 := Lib.hid e1
  clear e1
  go_enter Tryz.func69, Tryz.ntmps69
  go_upto_region 4 with fail
  go_cut [] (fun wx => WCod K B wx out (bad || decide (2 < kd)) ∧ But B K w wx)
  case first =>
    cases bad with
    | true =>
      go_wp2_with fail
      go_meet
      exact ⟨by simpa using HH.out.setBad _, (But.refl B K w).setCell (p := ⟨K, 3, none⟩) rfl _⟩
    | false =>
      go_wp2_with fail
      go_meet
      exact ⟨by rw [← E1.out]; exact HH.out.setBad _, (But.refl B K w).setCell (p := ⟨K, 3, none⟩) rfl _⟩
  case rest =>
    obtain ⟨h3, hbut3⟩ := hcut
    have c3' := (hbut3.cell (p := ⟨C, o, none⟩) hCB hCK).trans cC
    have cN3 := Lib.hid ((hbut3.cell (p := ⟨C, o + 1, none⟩) hCB hCK).trans HN.out)
    have hB3 : B ≤ wc.heap.size := Nat.le_trans hB hbut3.size
    have henv3 : Env wc := henv.but hbut3 hB8 hK8
    generalize wc = w3 at *
    have H3 := Lib.hid h3
    have B3 := Lib.hid hbut3
    clear h3 hbut3 cC c2 c3 f3 HH HN E1
    obtain ⟨bd, hbd⟩ : ∃ bd : Bool, Hid (bd = (bad || decide (2 < kd))) := ⟨_, rfl⟩
    rw [← hbd.out] at H3
    go_upto_region 5 with fail
    go_cut [] (fun wx => WCod K B wx (out ++ [condW1 kd]) bd ∧ But B K w3 wx)
    case first =>
      have c3d : ∀ ob, ((w3.alloc ob).drew).cell? ⟨C, o, none⟩ = some (.int .u8 (kd : Nat)) := fun ob => (((Fr.refl [] w3).alloc ob).cellAs c3' (by simp))
      have c3e : ∀ ob, (w3.alloc ob).cell? ⟨C, o, none⟩ = some (.int .u8 (kd : Nat)) := fun ob => (((Fr.refl [] w3).alloc ob).cellAs c3' (by simp))
      obtain ⟨m, hm, hm2⟩ : ∃ m : Nat, min (kd : Int) 2 = (m : Nat) ∧ m ≤ 2 := ⟨min kd 2, by omega, by omega⟩
      have hmm : m = 0 ∨ m = 1 ∨ m = 2 := by omega
      have HM := Lib.hid (condW1_min hm)
      have hdr : ∀ ob, WCod K B ((w3.alloc ob).drew) out bd := fun ob => H3.out.fr (M := []) (((Fr.refl _ _).alloc _).drew) (by simp)
      have hbd : ∀ ob, But B K w3 ((w3.alloc ob).drew) := fun ob => ((But.refl B K w3).alloc hB3 ob).drew
      have HDR := Lib.hid hdr
      have HBD := Lib.hid hbd
      clear hdr hbd
      rcases hmm with rfl | rfl | rfl
      all_goals go_region_with (first | (go_at_call 95; refine (conds_calls _).mono ?_; rintro e w' ⟨rfl, rfl⟩) | (go_at_call 34; refine (put_calls K B _ out bd _ (HDR.out _) hKB (by simp; omega) (by omega)).mono ?_; rintro e w' ⟨rfl, h4, hb4⟩))
      all_goals go_wp2_with fail
      all_goals go_meet
      all_goals exact ⟨by rw [← HM.out]; exact h4, (HBD.out _).trans hb4⟩
    case rest =>
      obtain ⟨h4, hbut4⟩ := hcut
      have c4' := (hbut4.cell (p := ⟨C, o, none⟩) hCB hCK).trans c3'
      have cN4 := (hbut4.cell (p := ⟨C, o + 1, none⟩) hCB hCK).trans cN3.out
      have hB4 : B ≤ wc.heap.size := Nat.le_trans hB3 hbut4.size
      have henv4 : Env wc := henv3.but hbut4 hB8 hK8
      have B4 := Lib.hid (B3.out.trans hbut4)
      have H4 := Lib.hid h4
      have N4 := Lib.hid cN4
      clear hbut4 c3' cN3 h4 cN4 H3 B3
      generalize wc = w4 at *
      by_cases hk2 : kd = 2
      · subst hk2
        go_wp2_with fail
        refine (number_write K B C (o + 1) w4 _ bd n hn henv4 H4.out hKB hB4 (by simp; omega) N4.out).mono ?_
        rintro e w5 ⟨rfl, h5, hb5⟩
        go_wp2_with fail
        go_end0
        exact ⟨rfl, by rw [← hbd.out]; simpa [condOut, condW1] using h5, B4.out.trans hb5⟩
      · have hkb : ((kd : Int) == 2) = false := by simp; omega
        go_wp2_with fail
        go_end0
        exact ⟨rfl, by unfold condOut; rw [if_neg hk2, ← hbd.out]; exact H4.out, B4.out⟩
end Go.Proofs.YtcaeppncippknaaGreatDoor
