/- What the statements let go by its size: large (a call), wide (an answer), lines. Conditions: lengths below 2^47. -/
import Derived.Test.YtcaeppncippknaaGreatDoorZTold0
import Derived.Test.YtcaeppncippknaaGreatDoorZParts
import Derived.Deep.LoopGhost
namespace Go.Proofs.YtcaeppncippknaaGreatDoor
open Go Go.RowKit

def largeP (c : ACall) : Bool := decide (2048 < c.bucket.length) || decide (2048 < c.name.length) || decide (2048 < c.text.length) || decide (2048 < c.pre.length) || decide (2048 < c.aft.length)
set_option maxHeartbeats 2000000 in
set_option maxRecDepth 100000 in
theorem large_calls (c : ACall) (w : World) : Calls Tryz.prog 12 #[.agg (callCells c)] w fun e w' => e = .returned (.bool (largeP c)) ∧ Fr [] w w' := by
  go_enter Tryz.func12, Tryz.ntmps12
  go_upto_region 1 with fail
  generalize hw1 : w.alloc (.cells (callCells c) 31) = w1
  have hR1 : w1.heap[w.heap.size]? = some (.cells (callCells c) 31 (0, 0)) := by subst hw1; exact (MapKept.heap_alloc w _).1
  have hf1 : Fr [] w w1 := by subst hw1; exact (Fr.refl _ _).alloc _
  clear hw1
  have c1 : w1.cell? ⟨w.heap.size, 1, none⟩ = some (.string (bs c.bucket)) := by rw [Lib.cell_of_heap hR1]; rfl
  have c2 : w1.cell? ⟨w.heap.size, 2, none⟩ = some (.string (bs c.name)) := by rw [Lib.cell_of_heap hR1]; rfl
  have c5 : w1.cell? ⟨w.heap.size, 5, none⟩ = some (.string (bs c.text)) := by rw [Lib.cell_of_heap hR1]; rfl
  have c8 : w1.cell? ⟨w.heap.size, 8, none⟩ = some (.string (bs c.pre)) := by rw [Lib.cell_of_heap hR1]; rfl
  have c9 : w1.cell? ⟨w.heap.size, 9, none⟩ = some (.string (bs c.aft)) := by rw [Lib.cell_of_heap hR1]; rfl
  clear hR1
  go_wp2_with fail
  all_goals
    go_ret
    refine ⟨?_, hf1⟩
    show Ending.returned (.bool _) = .returned (.bool _)
    refine congrArg (fun x : Bool => Ending.returned (.bool x)) ?_
    unfold largeP
    rw [Bool.eq_iff_iff]
    simp only [Bool.or_eq_true, decide_eq_true_eq, true_iff]
    omega
theorem large_no {c : ACall} (h : largeP c = false) : c.bucket.length ≤ 2048 ∧ c.name.length ≤ 2048 ∧ c.text.length ≤ 2048 ∧ c.pre.length ≤ 2048 ∧ c.aft.length ≤ 2048 := by
  unfold largeP at h
  simp at h
  omega

/-- The count that wide keeps. -/
def wideN (n : Nat) : List AItem → Nat
  | [] => n
  | x :: r => if n ≤ 4096 then wideN (n + 1 + x.name.length) r else n
def wideP (a : AAns) : Bool := decide (4096 < wideN a.text.length a.items)
theorem wideN_ge : ∀ (l : List AItem) (n : Nat), n ≤ wideN n l
  | [], n => Nat.le_refl _
  | x :: r, n => by
    unfold wideN
    split
    · have := wideN_ge r (n + 1 + x.name.length); omega
    · exact Nat.le_refl _
theorem wideN_no : ∀ (l : List AItem) (n : Nat), wideN n l ≤ 4096 → n + l.length ≤ 4096 ∧ ∀ x ∈ l, x.name.length ≤ 4096
  | [], n, h => by
    unfold wideN at h
    exact ⟨by simpa using h, fun x hx => by cases hx⟩
  | x :: r, n, h => by
    unfold wideN at h
    split at h
    · obtain ⟨h1, h2⟩ := wideN_no r _ h
      refine ⟨by rw [List.length_cons]; omega, fun y hy => ?_⟩
      rcases List.mem_cons.1 hy with rfl | hy
      · omega
      · exact h2 y hy
    · omega
theorem wide_no {a : AAns} (h : wideP a = false) : a.text.length ≤ 4096 ∧ a.items.length ≤ 4096 ∧ ∀ x ∈ a.items, x.name.length ≤ 4096 := by
  have h' : wideN a.text.length a.items ≤ 4096 := by simpa [wideP] using h
  obtain ⟨h1, h2⟩ := wideN_no _ _ h'
  exact ⟨by omega, by omega, h2⟩
theorem wideN_step {l : List AItem} {k n : Nat} (hk : k < l.length) (hn : n ≤ 4096) : wideN n (l.drop k) = wideN (n + 1 + l[k].name.length) (l.drop (k + 1)) := by
  rw [List.drop_eq_getElem_cons hk]
  conv => lhs; rw [wideN]
  rw [if_pos hn]
theorem wideN_stop (l : List AItem) {n : Nat} (hn : ¬ n ≤ 4096) : wideN n l = n := by
  cases l with
  | nil => rfl
  | cons x r => rw [wideN, if_neg hn]

set_option maxHeartbeats 2000000 in
set_option maxRecDepth 100000 in
theorem wide_calls (a : AAns) (iv : Value) (b : Nat) (w : World) (hit : ItemsIn w b iv a.items) (ht : a.text.length ≤ 140737488355328) (hi : a.items.length ≤ 140737488355328) (hn : ∀ x ∈ a.items, x.name.length ≤ 140737488355328) :
    Calls Tryz.prog 19 #[.agg (ansCells a iv)] w fun e w' => e = .returned (.bool (wideP a)) ∧ Fr [] w w' := by
  obtain ⟨ip, ic, io, rfl, hic⟩ := hit
  have HIC := Lib.hid hic
  have HN := Lib.hid hn
  clear hic hn
  go_enter Tryz.func19, Tryz.ntmps19
  unfold ansCells
  go_upto_region 1 with fail
  generalize hw1 : w.alloc (.cells #[.int .i64 a.code, .int .u64 (a.n : Nat), strV a.text, .slice ip a.items.length ic, .bool a.more] 47) = w1
  have hP1 : w1.heap[w.heap.size]? = some (.cells #[.int .i64 a.code, .int .u64 (a.n : Nat), strV a.text, .slice ip a.items.length ic, .bool a.more] 47 (0, 0)) := by subst hw1; exact (MapKept.heap_alloc w _).1
  have hf1 : Fr [] w w1 := by subst hw1; exact (Fr.refl _ _).alloc _
  clear hw1
  have c2 : w1.cell? ⟨w.heap.size, 2, none⟩ = some (.string (bs a.text)) := by rw [Lib.cell_of_heap hP1]; rfl
  have c3 : w1.cell? ⟨w.heap.size, 3, none⟩ = some (.slice ip a.items.length ic) := by rw [Lib.cell_of_heap hP1]; rfl
  have HF1 := Lib.hid hf1
  have HW : Hid (wideP a = decide (4096 < wideN a.text.length a.items)) := rfl
  clear hP1 hf1
  go_wp2_with fail
  go_loop [3, 4] (fun s3 s4 => ∃ k n : Nat, k ≤ a.items.length ∧ s4 = .int .i64 k ∧ s3 = .int .i64 n ∧ n ≤ 140737488360000 ∧ Hid (wideN a.text.length a.items = wideN n (a.items.drop k))) (fun _ s4 => a.items.length - (intOf s4).toNat)
  case atStart => exact ⟨0, _, Nat.zero_le _, rfl, rfl, by omega, by show _ = _; rfl⟩
  case round =>
    obtain ⟨k, n, hk, rfl, rfl, hnb, HK⟩ := hrel
    by_cases hlt : k < a.items.length
    · by_cases hle : n ≤ 4096
      · obtain ⟨hpp, d0, _⟩ := HIC.out k hlt
        subst hpp
        have e0 := HF1.out.cellAs d0 (by simp)
        have hxn := HN.out a.items[k] (List.getElem_mem hlt)
        have HS := Lib.hid (wideN_step hlt hle)
        clear d0
        generalize a.items[k] = x at *
        unfold strV at e0
        have i0 : (0 : Int) ≤ (k : Int) := by omega
        have i1 : (k : Int) < (a.items.length : Int) := by omega
        go_wp2_with fail
        go_round
        case rel => exact ⟨k + 1, n + 1 + x.name.length, by omega, by go_num, by go_num, by omega, by show _ = _; rw [HK.out, HS.out]⟩
        case measure => simp [intOf]; omega
      · have HR : Hid (wideP a = true) := by show _ = _; rw [HW.out, HK.out, wideN_stop _ hle]; simp; omega
        go_wp2_with fail
        go_ret
        refine ⟨?_, HF1.out⟩
        rw [HR.out]
        show Ending.returned (.bool _) = .returned (.bool _)
        refine congrArg (fun x : Bool => Ending.returned (.bool x)) ?_
        first | rfl | (rw [Bool.eq_iff_iff]; simp only [decide_eq_true_eq, iff_true]; omega)
    · have hkl : k = a.items.length := by omega
      have HR : Hid (wideP a = decide (4096 < n)) := by show _ = _; rw [HW.out, HK.out, hkl, List.drop_length]; rfl
      clear hkl
      go_wp2_with fail
      go_ret
      refine ⟨?_, HF1.out⟩
      rw [HR.out]
      show Ending.returned (.bool _) = .returned (.bool _)
      refine congrArg (fun x : Bool => Ending.returned (.bool x)) ?_
      rw [Bool.eq_iff_iff]
      simp only [decide_eq_true_eq]
      omega
end Go.Proofs.YtcaeppncippknaaGreatDoor
