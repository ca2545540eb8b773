/- hoardref31.Answers: are two answers the same? Conditions: fewer than 2^47 items. -/
import Derived.Test.YtcaeppncippknaaGreatDoorZTold0
import Derived.Test.YtcaeppncippknaaGreatDoorZParts
import Derived.Laws.StructEq
import Derived.Deep.QuietTactic
import Derived.BigQuiet
import Derived.Deep.DeepCutAuto
namespace Go.Proofs.YtcaeppncippknaaGreatDoor
open Go Go.RowKit

set_option maxHeartbeats 4000000 in
set_option maxRecDepth 10000 in
theorem neqItem (x y : AItem) (w : World) : (binOp .neq 104 (.agg (itemCells x)) (.agg (itemCells y))).run Tryz.prog w = .ok (.bool (!decide (x = y))) w := by
  have hS : Tryz.prog.underlying 104 = some (.struct (Tryz.prog.fieldsOf 104)) := by kernel_rfl
  have hp : Tryz.prog.stoodInHeld 104 = false := by kernel_rfl
  rw [run_neq_struct, show (10000 : Nat) = 9999 + 1 from rfl, run_equalIn_agg w 9999 104 _ _ hS hp]
  clear hS hp
  have u1 := Tryz.underlying4
  have u2 := Tryz.underlying27
  have u3 := Tryz.underlying9
  have u4 := Tryz.underlying3
  simp only [itemCells, strV, Program.fieldsOf, Tryz.underlying104]
  go_simp
  cases x; cases y
  simp only [AItem.mk.injEq, Int.ofNat_inj]
  repeat' split
  all_goals simp_all

theorem items_upto {l1 l2 : List AItem} {k : Nat} (hl : l1.length = l2.length) (hk : k < l1.length) (h : l1.take k = l2.take k) (he : l1[k] = l2[k]) : l1.take (k + 1) = l2.take (k + 1) := by
  rw [List.take_succ_eq_append_getElem hk, List.take_succ_eq_append_getElem (by omega), h, he]

set_option maxHeartbeats 4000000 in
set_option maxRecDepth 100000 in
theorem answers_calls (a b : AAns) (iva ivb : Value) (ba bb : Nat) (w : World) (ha : ItemsIn w ba iva a.items) (hb : ItemsIn w bb ivb b.items) (na : a.items.length ≤ 140737488355328) :
    Calls Tryz.prog 26 #[.agg (ansCells a iva), .agg (ansCells b ivb)] w fun e w' => e = .returned (.bool (decide (a = b))) ∧ Fr [] w w' := by
  obtain ⟨pa, ca, oa, rfl, hca⟩ := ha
  obtain ⟨pb, cb, ob, rfl, hcb⟩ := hb
  have HCA := Lib.hid hca
  have HCB := Lib.hid hcb
  clear hca hcb
  go_enter Tryz.func26, Tryz.ntmps26
  unfold ansCells
  go_upto_region 1 with fail
  generalize hw1 : (w.alloc (.cells #[.int .i64 a.code, .int .u64 (a.n : Nat), strV a.text, .slice pa a.items.length ca, .bool a.more] 47)).alloc (.cells #[.int .i64 b.code, .int .u64 (b.n : Nat), strV b.text, .slice pb b.items.length cb, .bool b.more] 47) = w1
  have hP : w1.heap[w.heap.size]? = some (.cells #[.int .i64 a.code, .int .u64 (a.n : Nat), strV a.text, .slice pa a.items.length ca, .bool a.more] 47 (0, 0)) := by
    subst hw1; rw [Lib.alloc_old _ _ _ (by simp)]; exact (MapKept.heap_alloc w _).1
  have hQ : w1.heap[w.heap.size + 1]? = some (.cells #[.int .i64 b.code, .int .u64 (b.n : Nat), strV b.text, .slice pb b.items.length cb, .bool b.more] 47 (0, 0)) := by
    subst hw1
    have h := (MapKept.heap_alloc (w.alloc (.cells #[.int .i64 a.code, .int .u64 (a.n : Nat), strV a.text, .slice pa a.items.length ca, .bool a.more] 47)) (.cells #[.int .i64 b.code, .int .u64 (b.n : Nat), strV b.text, .slice pb b.items.length cb, .bool b.more] 47)).1
    simpa using h
  have hf1 : Fr [] w w1 := by subst hw1; exact ((Fr.refl _ _).alloc _).alloc _
  clear hw1
  have p0 : w1.cell? ⟨w.heap.size, 0, none⟩ = some (.int .i64 a.code) := by rw [Lib.cell_of_heap hP]; rfl
  have p1 : w1.cell? ⟨w.heap.size, 1, none⟩ = some (.int .u64 (a.n : Nat)) := by rw [Lib.cell_of_heap hP]; rfl
  have p2 : w1.cell? ⟨w.heap.size, 2, none⟩ = some (.string (bs a.text)) := by rw [Lib.cell_of_heap hP]; rfl
  have p3 : w1.cell? ⟨w.heap.size, 3, none⟩ = some (.slice pa a.items.length ca) := by rw [Lib.cell_of_heap hP]; rfl
  have p4 : w1.cell? ⟨w.heap.size, 4, none⟩ = some (.bool a.more) := by rw [Lib.cell_of_heap hP]; rfl
  have q0 : w1.cell? ⟨w.heap.size + 1, 0, none⟩ = some (.int .i64 b.code) := by rw [Lib.cell_of_heap hQ]; rfl
  have q1 : w1.cell? ⟨w.heap.size + 1, 1, none⟩ = some (.int .u64 (b.n : Nat)) := by rw [Lib.cell_of_heap hQ]; rfl
  have q2 : w1.cell? ⟨w.heap.size + 1, 2, none⟩ = some (.string (bs b.text)) := by rw [Lib.cell_of_heap hQ]; rfl
  have q3 : w1.cell? ⟨w.heap.size + 1, 3, none⟩ = some (.slice pb b.items.length cb) := by rw [Lib.cell_of_heap hQ]; rfl
  have q4 : w1.cell? ⟨w.heap.size + 1, 4, none⟩ = some (.bool b.more) := by rw [Lib.cell_of_heap hQ]; rfl
  have HF1 := Lib.hid hf1
  clear hf1 hP hQ
  have HNE : Hid (∀ (e : Ending), a ≠ b → e = .returned (.bool false) → e = .returned (.bool (decide (a = b))) ∧ Fr [] w w1) := by
    intro e hne he
    subst he
    exact ⟨by simp [hne], HF1.out⟩
  by_cases h1 : a.code = b.code
  · have b1 : (a.code != b.code) = false := by simp [h1]
    by_cases h2 : a.n = b.n
    · have b2 : ((a.n : Int) != (b.n : Int)) = false := by simp [h2]
      by_cases h3 : a.text = b.text
      · have b3 : (!(a.text == b.text)) = false := by simp [h3]
        by_cases h4 : a.more = b.more
        · have HM := Lib.hid h4
          rw [h4] at p4
          by_cases h5 : a.items.length = b.items.length
          · have b5 : ((a.items.length : Int) != (b.items.length : Int)) = false := by simp [h5]
            have HEQ : Hid (a.items = b.items → a = b) := by
              intro h
              have h4 := HM.out
              cases a; cases b; simp_all
            have HL := Lib.hid h5
            have hlb : a.items.length ≤ b.items.length := by omega
            have hal : b.items.length ≤ a.items.length := by omega
            clear h1 h2 h3 h4 h5
            rcases Bool.eq_false_or_eq_true b.more with hm | hm
            all_goals
              rw [hm] at p4 q4
              clear hm
              go_upto_if 44 with fail
              go_cut [] (fun wx => wx = w1)
              case first =>
                go_wp2_with fail
                go_meet
                rfl
              case rest =>
                subst hcut
                clear p0 p1 p2 p4 q0 q1 q2 q4 b1 b2 b3 b5
                go_wp2_with fail
                go_loopw [5] (fun i wr => ∃ k : Nat, k ≤ a.items.length ∧ i = .int .i64 k ∧ Fr [] wc wr ∧ Hid (a.items.take k = b.items.take k)) (fun i _ => a.items.length - (intOf i).toNat)
                case atStart => exact ⟨0, Nat.zero_le _, rfl, Fr.refl _ _, by show _ = _; rfl⟩
                case round =>
                  obtain ⟨k, hk, rfl, hfr, HK⟩ := hrel
                  have r3 := hfr.cellAs p3 (by simp)
                  have s3 := hfr.cellAs q3 (by simp)
                  have HFA := Lib.hid (HF1.out.andThen hfr)
                  have HFR := Lib.hid hfr
                  clear hfr
                  by_cases hlt : k < a.items.length
                  · have hlt2 : k < b.items.length := by omega
                    obtain ⟨rfl, x0, x1, x2, x3⟩ := HCA.out k hlt
                    obtain ⟨rfl, y0, y1, y2, y3⟩ := HCB.out k hlt2
                    have d0 := HFA.out.cellAs x0 (by simp)
                    have d1 := HFA.out.cellAs x1 (by simp)
                    have d2 := HFA.out.cellAs x2 (by simp)
                    have d3 := HFA.out.cellAs x3 (by simp)
                    have e0 := HFA.out.cellAs y0 (by simp)
                    have e1 := HFA.out.cellAs y1 (by simp)
                    have e2 := HFA.out.cellAs y2 (by simp)
                    have e3 := HFA.out.cellAs y3 (by simp)
                    have HU := Lib.hid (items_upto HL.out hlt HK.out)
                    have HNO : Hid (a.items[k] ≠ b.items[k] → a ≠ b) := fun h e => by subst e; exact h rfl
                    have i0 : (0 : Int) ≤ (k : Int) := by omega
                    have i1 : (k : Int) < (a.items.length : Int) := by omega
                    have i2 : (k : Int) < (b.items.length : Int) := by omega
                    clear x0 x1 x2 x3 y0 y1 y2 y3 p3 q3
                    generalize a.items[k] = x at *
                    generalize b.items[k] = y at *
                    have hneq := neqItem x y
                    unfold itemCells strV at hneq
                    unfold strV at d0 e0
                    by_cases he : x = y
                    · have HUU := Lib.hid (HU.out he)
                      have hd : decide (x = y) = true := by simp [he]
                      rw [hd] at hneq
                      clear HU HNO he hd
                      go_wp2_with fail
                      go_quiet (fail)
                      go_wp2_with fail
                      go_roundw
                      case rel => exact ⟨k + 1, by omega, by go_num, HFR.out.drewN _, HUU.out⟩
                      case measure => simp [intOf]; omega
                    · have HNN := Lib.hid (HNO.out he)
                      have hd : decide (x = y) = false := by simp [he]
                      rw [hd] at hneq
                      clear HU HNO he hd
                      go_wp2_with fail
                      go_quiet (fail)
                      go_wp2_with fail
                      go_ret
                      exact ⟨by simp [HNN.out], HFA.out.drewN _⟩
                  · have hkl : k = a.items.length := by omega
                    have HE : Hid (a = b) := by
                      have h := HK.out
                      rw [hkl, List.take_length, List.take_of_length_le (by omega)] at h
                      exact HEQ.out h
                    clear hkl
                    go_wp2_with fail
                    go_ret
                    exact ⟨by simp [HE.out], HFA.out⟩
          · have hne : a ≠ b := fun e => h5 (by rw [e])
            have b5 : ((a.items.length : Int) != (b.items.length : Int)) = true := by simp; omega
            have HX := Lib.hid (fun e => HNE.out e hne)
            clear h1 h2 h3 h4 h5 hne
            rcases Bool.eq_false_or_eq_true b.more with hm | hm
            all_goals
              rw [hm] at p4 q4
              clear hm
              go_wp2_with fail
              go_ret
              exact HX.out _ rfl
        · have hne : a ≠ b := fun e => h4 (by rw [e])
          have HX := Lib.hid (fun e => HNE.out e hne)
          clear h1 h2 h3 hne
          rcases Bool.eq_false_or_eq_true a.more with hm | hm
          · have hm2 : b.more = false := by cases hb : b.more <;> simp_all
            rw [hm] at p4
            rw [hm2] at q4
            clear hm hm2 h4
            go_wp2_with fail
            go_ret
            exact HX.out _ rfl
          · have hm2 : b.more = true := by cases hb : b.more <;> simp_all
            rw [hm] at p4
            rw [hm2] at q4
            clear hm hm2 h4
            go_wp2_with fail
            go_ret
            exact HX.out _ rfl
      · have hne : a ≠ b := fun e => h3 (by rw [e])
        have b3 : (!(a.text == b.text)) = true := by simp [h3]
        have HX := Lib.hid (fun e => HNE.out e hne)
        clear h1 h2 h3 hne
        go_wp2_with fail
        go_ret
        exact HX.out _ rfl
    · have hne : a ≠ b := fun e => h2 (by rw [e])
      have b2 : ((a.n : Int) != (b.n : Int)) = true := by simp; omega
      have HX := Lib.hid (fun e => HNE.out e hne)
      clear h1 h2 hne
      go_wp2_with fail
      go_ret
      exact HX.out _ rfl
  · have hne : a ≠ b := fun e => h1 (by rw [e])
    have b1 : (a.code != b.code) = true := by simp [h1]
    have HX := Lib.hid (fun e => HNE.out e hne)
    clear h1 hne
    go_wp2_with fail
    go_ret
    exact HX.out _ rfl
end Go.Proofs.YtcaeppncippknaaGreatDoor
