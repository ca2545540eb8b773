/- house.words: a line's words. Conditions: the line is below 2^30 bytes; the package variables' facts (Env). -/
import Derived.Test.YtcaeppncippknaaGreatDoorZText
import Derived.Test.YtcaeppncippknaaGreatDoorZPlainA
import Derived.Shelf.SlicesE.DeleteFunc
import Derived.Lib.SliceRun
namespace Go.Proofs.YtcaeppncippknaaGreatDoor
open Go Go.Shelf Go.RowKit Go.Lib Go.Sort

def delRen : Go.Shelf.Ren := ⟨fun | 10 => 77 | 6 => 97 | n => n, fun | 22 => 48 | 23 => 9 | 25 => 102 | 0 => 0 | 3 => 3 | 4 => 4 | n => n, fun | n => n⟩
theorem laysDel : SlLaysH.n10 Tryz.prog delRen := {
  mixed := by kernel_rfl
  f6 := ⟨"slices.IndexFunc[[]string,string]", by kernel_rfl, Tryz.func97.trans (congrArg some (by kernel_rfl))⟩
  f10 := ⟨"slices.DeleteFunc[[]string,string]", by kernel_rfl, Tryz.func77.trans (congrArg some (by kernel_rfl))⟩
  t0 := Tryz.underlying0
  a0 := Tryz.isAgg0
  z0 := Tryz.sizeOf0
  v0 := Tryz.zeroValue0
  t3 := Tryz.underlying3
  a3 := Tryz.isAgg3
  z3 := Tryz.sizeOf3
  v3 := Tryz.zeroValue3
  t4 := Tryz.underlying4
  a4 := Tryz.isAgg4
  z4 := Tryz.sizeOf4
  v4 := Tryz.zeroValue4
  t22 := Tryz.underlying48
  a22 := Tryz.isAgg48
  z22 := Tryz.sizeOf48
  v22 := Tryz.zeroValue48
  a23 := Tryz.isAgg9
  z23 := Tryz.sizeOf9
  t25 := Tryz.underlying102
  a25 := Tryz.isAgg102
  z25 := Tryz.sizeOf102
  v25 := Tryz.zeroValue102 }

theorem fr_putRow {α : Type} [Inhabited α] (enc : α → Value) (w : World) (q blk off : Nat) (d : Array α) : Fr [blk] w (putRow enc (Sort.ahead w q) blk off d) := by
  refine ⟨rfl, rfl, rfl, by rw [size_putRow]; exact Nat.le_refl _, fun k _ hn => ?_⟩
  have hne : blk ≠ k := fun e => hn (by simp [e])
  simp [putRow, mapBlock, Sort.ahead, Array.getElem?_modify, hne]

/-- The closure: is a text empty? -/
theorem emptyAt (x : List UInt8) (w : World) : Calls Tryz.prog 78 #[.string (bs x)] w fun e w' => e = .returned (.bool x.isEmpty) ∧ w = w' := by
  go_enter Tryz.func78, Tryz.ntmps78
  go_wp2
  go_ret
  exact ⟨by simp, rfl⟩
theorem emptyGives (x : List UInt8) (W : World) : FnGives Tryz.prog 78 #[] #[strV x] (.bool x.isEmpty) W :=
  (emptyAt x W).mono fun _ _ ⟨h1, h2⟩ => ⟨h1, 0, h2.symm⟩
theorem strOne : OneCell strV := fun _ => rfl

theorem words_calls (l : List UInt8) (hl : l.length ≤ 1048576) (w : World) (henv : Env w) :
    Calls Tryz.prog 43 #[.string (bs l)] w fun e w' => ∃ v b, e = .returned v ∧ StrsIn w' b v (wordsP l) ∧ w.heap.size ≤ b ∧ b < w'.heap.size ∧ Fr [] w w' := by
  have eg : ∀ args w, (callFunc 78 args).run Tryz.prog w = .ok (.enter 78 args) w := enters_of Tryz.func78 (by kernel_rfl) rfl
  have hH : Holds strV (w.alloc (.cells ((splitOn 32 l).map strV).toArray 9)) w.heap.size 0 (splitOn 32 l).toArray := by
    intro j hj
    have hj' : j < (splitOn 32 l).length := by simpa using hj
    have hb := (MapKept.heap_alloc w (.cells ((splitOn 32 l).map strV).toArray 9)).1
    refine ⟨?_, ?_⟩
    · rw [Nat.zero_add, Lib.cell_of_heap hb]
      simp [hj', getElem!_pos]
    · exact Lib.frozen_of_heap hb _
  have hsz := splitOn_length 32 l
  have hd : (splitOn 32 l).toArray.size = (splitOn 32 l).length := by simp
  have hdel := AnyE.slices_DeleteFunc laysDel strV strOne (fun x : List UInt8 => x.isEmpty) 78 #[] eg [] Tryz.zeroValue9 w.heap.size 0 (splitOn 32 l).length (splitOn 32 l).toArray (w.alloc (.cells ((splitOn 32 l).map strV).toArray 9))
    (fun W x _ => emptyGives x W) (fun n os dk x _ => emptyGives x _) hH (by rw [hd]; omega) (by rw [hd]; exact Nat.le_refl _)
  change Calls Tryz.prog 77 _ _ _ at hdel
  rw [hd] at hdel
  have hwp : (splitOn 32 l).toArray.toList.filter (fun x => !x.isEmpty) = wordsP l := rfl
  rw [hwp] at hdel
  have hle : (wordsP l).length ≤ (splitOn 32 l).length := List.length_filter_le _ _
  have HDEL := Lib.hid hdel
  have HH := Lib.hid hH
  clear hwp hdel hH hd
  go_enter Tryz.func43, Tryz.ntmps43
  go_wp2_with fail
  refine (split_calls 32 l (by omega) w henv).mono ?_
  rintro e w' ⟨rfl, rfl⟩
  go_wp2_with fail
  refine HDEL.out.mono ?_
  rintro e w' ⟨rfl, q, rfl⟩
  go_wp2_with fail
  go_ret
  have hsz2 : ((wordsP l ++ List.replicate ((splitOn 32 l).length - (wordsP l).length) []).toArray).size = (splitOn 32 l).toArray.size := by simp; omega
  refine ⟨_, w.heap.size, rfl, .inr ⟨0, _, rfl, hle, fun i hi => ?_⟩, Nat.le_refl _, ?_, ?_⟩
  · rw [cell?_putRow strV (Sort.ahead (w.alloc (.cells ((splitOn 32 l).map strV).toArray 9)) q) w.heap.size 0 (splitOn 32 l).toArray _ HH.out hsz2 i (by rw [hsz2]; simp; omega)]
    rw [getElem!_pos _ i (by simp; omega)]
    simp [hi]
  · rw [size_putRow]; show w.heap.size < (w.alloc _).heap.size; simp
  · exact ((Fr.refl [] w).alloc _).trans (M' := [w.heap.size]) (fr_putRow _ _ _ _ _ _) (by simp)
end Go.Proofs.YtcaeppncippknaaGreatDoor
