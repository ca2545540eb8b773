/- house.words: a line's words. Conditions: the line is below 2^30 bytes; the package variables' facts (Env). -/
import Derived.Test.YtcaeppncippknaaDoorText
import Derived.Test.YtcaeppncippknaaDoorWordsP
import Derived.Shelf.SlicesE.DeleteFunc
import Derived.Lib.SliceRun
namespace Go.Proofs.YtcaeppncippknaaDoor
open Go Go.Shelf Go.RowKit Go.Lib Go.Sort

def delRen : Go.Shelf.Ren := ⟨fun | 10 => 38 | 6 => 52 | n => n, fun | 22 => 45 | 23 => 9 | 25 => 89 | 0 => 0 | 3 => 3 | 4 => 4 | n => n, fun | n => n⟩
theorem laysDel : SlLaysH.n10 Tryd.prog delRen := {
  mixed := by kernel_rfl
  f6 := ⟨"slices.IndexFunc[[]string,string]", by kernel_rfl, Tryd.func52.trans (congrArg some (by kernel_rfl))⟩
  f10 := ⟨"slices.DeleteFunc[[]string,string]", by kernel_rfl, Tryd.func38.trans (congrArg some (by kernel_rfl))⟩
  t0 := Tryd.underlying0
  a0 := Tryd.isAgg0
  z0 := Tryd.sizeOf0
  v0 := Tryd.zeroValue0
  t3 := Tryd.underlying3
  a3 := Tryd.isAgg3
  z3 := Tryd.sizeOf3
  v3 := Tryd.zeroValue3
  t4 := Tryd.underlying4
  a4 := Tryd.isAgg4
  z4 := Tryd.sizeOf4
  v4 := Tryd.zeroValue4
  t22 := Tryd.underlying45
  a22 := Tryd.isAgg45
  z22 := Tryd.sizeOf45
  v22 := Tryd.zeroValue45
  a23 := Tryd.isAgg9
  z23 := Tryd.sizeOf9
  t25 := Tryd.underlying89
  a25 := Tryd.isAgg89
  z25 := Tryd.sizeOf89
  v25 := Tryd.zeroValue89 }

theorem fr_putRow {α : Type} [Inhabited α] (enc : α → Value) (w : World) (q blk off : Nat) (d : Array α) : Fr [blk] w (putRow enc (Sort.ahead w q) blk off d) := by
  refine ⟨rfl, rfl, rfl, by rw [size_putRow]; exact Nat.le_refl _, fun k _ hn => ?_⟩
  have hne : blk ≠ k := fun e => hn (by simp [e])
  simp [putRow, mapBlock, Sort.ahead, Array.getElem?_modify, hne]

/-- The closure: is a text empty? -/
theorem emptyAt (x : List UInt8) (w : World) : Calls Tryd.prog 40 #[.string (bs x)] w fun e w' => e = .returned (.bool x.isEmpty) ∧ w = w' := by
  go_enter Tryd.func40, Tryd.ntmps40
  go_wp2
  go_ret
  exact ⟨by simp, rfl⟩
theorem emptyGives (x : List UInt8) (W : World) : FnGives Tryd.prog 40 #[] #[strV x] (.bool x.isEmpty) W :=
  (emptyAt x W).mono fun _ _ ⟨h1, h2⟩ => ⟨h1, 0, h2.symm⟩
theorem strOne : OneCell strV := fun _ => rfl

theorem words_calls (l : List UInt8) (hl : l.length ≤ 1048576) (w : World) (henv : Env w) :
    Calls Tryd.prog 14 #[.string (bs l)] w fun e w' => ∃ v b, e = .returned v ∧ StrsIn w' b v (wordsP l) ∧ w.heap.size ≤ b ∧ b < w'.heap.size ∧ Fr [] w w' := by
  have eg : ∀ args w, (callFunc 40 args).run Tryd.prog w = .ok (.enter 40 args) w := enters_of Tryd.func40 (by kernel_rfl) rfl
  have hH : Holds strV (w.alloc (.cells ((splitOn 32 l).map strV).toArray 9)) w.heap.size 0 (splitOn 32 l).toArray := by
    intro j hj
    have hj' : j < (splitOn 32 l).length := by simpa using hj
    have hb := (MapKept.heap_alloc w (.cells ((splitOn 32 l).map strV).toArray 9)).1
    refine ⟨?_, ?_⟩
    · rw [Nat.zero_add, Lib.cell_of_heap hb]
      simp [hj', getElem!_pos]
    · exact Lib.frozen_of_heap hb _
  have hsz := splitOn_length 32 l
  have hd : (splitOn 32 l).toArray.size = (splitOn 32 l).length := by simp
  have hdel := AnyE.slices_DeleteFunc laysDel strV strOne (fun x : List UInt8 => x.isEmpty) 40 #[] eg [] Tryd.zeroValue9 w.heap.size 0 (splitOn 32 l).length (splitOn 32 l).toArray (w.alloc (.cells ((splitOn 32 l).map strV).toArray 9))
    (fun W x _ => emptyGives x W) (fun n os dk x _ => emptyGives x _) hH (by rw [hd]; omega) (by rw [hd]; exact Nat.le_refl _)
  change Calls Tryd.prog 38 _ _ _ at hdel
  rw [hd] at hdel
  have hwp : (splitOn 32 l).toArray.toList.filter (fun x => !x.isEmpty) = wordsP l := rfl
  rw [hwp] at hdel
  have hle : (wordsP l).length ≤ (splitOn 32 l).length := List.length_filter_le _ _
  have HDEL := Lib.hid hdel
  have HH := Lib.hid hH
  clear hwp hdel hH hd
  go_enter Tryd.func14, Tryd.ntmps14
  go_wp2_with fail
  refine (split_calls 32 l (by omega) w henv).mono ?_
  rintro e w' ⟨rfl, rfl⟩
  go_wp2_with fail
  refine HDEL.out.mono ?_
  rintro e w' ⟨rfl, q, rfl⟩
  go_wp2_with fail
  go_ret
  have hsz2 : ((wordsP l ++ List.replicate ((splitOn 32 l).length - (wordsP l).length) []).toArray).size = (splitOn 32 l).toArray.size := by simp; omega
  refine ⟨_, w.heap.size, rfl, .inr ⟨0, _, rfl, hle, fun i hi => ?_⟩, Nat.le_refl _, ?_, ?_⟩
  · rw [cell?_putRow strV (Sort.ahead (w.alloc (.cells ((splitOn 32 l).map strV).toArray 9)) q) w.heap.size 0 (splitOn 32 l).toArray _ HH.out hsz2 i (by rw [hsz2]; simp; omega)]
    rw [getElem!_pos _ i (by simp; omega)]
    simp [hi]
  · rw [size_putRow]; show w.heap.size < (w.alloc _).heap.size; simp
  · exact ((Fr.refl [] w).alloc _).trans (M' := [w.heap.size]) (fr_putRow _ _ _ _ _ _) (by simp)
end Go.Proofs.YtcaeppncippknaaDoor
