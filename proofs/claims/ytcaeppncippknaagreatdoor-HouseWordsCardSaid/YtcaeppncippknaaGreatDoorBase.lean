/- The words in which the contracts speak of memory: which blocks a call may have written. Conditions: none. -/
import Derived.WalkKit
import Derived.WalkSpells
import Derived.WalkLawsBesides
import Derived.Lib.Hide
namespace Go.Proofs.YtcaeppncippknaaGreatDoor
open Go.RowKit

/-- The world w' is w, but for new blocks, and for what the blocks on the list M hold. -/
structure Fr (M : List Nat) (w w' : World) : Prop where
  os : w'.os = w.os
  tape : w'.tape = w.tape
  output : w'.output = w.output
  size : w.heap.size ≤ w'.heap.size
  block : ∀ b, b < w.heap.size → b ∉ M → w'.heap[b]? = w.heap[b]?

theorem Fr.refl (M : List Nat) (w : World) : Fr M w w := ⟨rfl, rfl, rfl, Nat.le_refl _, fun _ _ _ => rfl⟩
theorem Fr.trans {M M' : List Nat} {a b c : World} (h : Fr M a b) (k : Fr M' b c) (hM : ∀ i ∈ M', i < a.heap.size → i ∈ M) : Fr M a c :=
  ⟨k.os.trans h.os, k.tape.trans h.tape, k.output.trans h.output, Nat.le_trans h.size k.size, fun i hi hn =>
    (k.block i (Nat.lt_of_lt_of_le hi h.size) (fun hm => hn (hM i hm hi))).trans (h.block i hi hn)⟩
theorem Fr.andThen {M : List Nat} {a b c : World} (h : Fr M a b) (k : Fr M b c) : Fr M a c := h.trans k fun _ h _ => h
theorem Fr.mono {M M' : List Nat} {a b : World} (h : Fr M a b) (hM : ∀ i ∈ M, i ∈ M') : Fr M' a b :=
  ⟨h.os, h.tape, h.output, h.size, fun i hi hn => h.block i hi (fun hm => hn (hM i hm))⟩
theorem Fr.drew {M : List Nat} {a w : World} (h : Fr M a w) : Fr M a w.drew := ⟨h.os, h.tape, h.output, h.size, h.block⟩
theorem Fr.drewN {M : List Nat} {a w : World} (h : Fr M a w) (n : Nat) : Fr M a (w.drewN n) := ⟨h.os, h.tape, h.output, h.size, h.block⟩
theorem Fr.alloc {M : List Nat} {a w : World} (h : Fr M a w) (o : Obj) : Fr M a (w.alloc o) :=
  h.trans (M' := []) ⟨rfl, rfl, rfl, by simp, fun k hk _ => Below.heap_alloc _ _ _ hk⟩ (fun _ h => by cases h)
theorem Fr.setCell {M : List Nat} {a w : World} (h : Fr M a w) {p : Addr} (hp : p.block < a.heap.size → p.block ∈ M) (u : Value) : Fr M a (w.setCell p u) :=
  h.trans (M' := [p.block]) ⟨rfl, rfl, rfl, by simp [World.setCell], fun k _ hn => Below.heap_setCell _ _ _ _ (by simpa using hn)⟩ (fun i hi hlt => by
    obtain rfl : i = p.block := by simpa using hi
    exact hp hlt)
theorem Fr.of_grown {w w' : World} {row : Option Nat} (h : w.grownBy w' row) : Fr row.toList w w' :=
  ⟨h.os, h.tape, h.output, h.size, fun b hb hn => h.block b hb (fun e => hn (by rw [← e]; simp))⟩
theorem Fr.of_below {w w' : World} (h : Below w.heap.size w w') : Fr [] w w' := ⟨h.os, h.tape, h.output, h.size, fun b hb _ => h.block b hb⟩
theorem Fr.below {w w' : World} (h : Fr [] w w') : Below w.heap.size w w' := ⟨h.os, h.tape, h.output, h.size, fun b hb => h.block b hb (by simp)⟩
theorem Fr.belowOf {M : List Nat} {w w' : World} {B : Nat} (h : Fr M w w') (hB : B ≤ w.heap.size) (hM : ∀ i ∈ M, B ≤ i) : Below B w w' :=
  ⟨h.os, h.tape, h.output, h.size, fun b hb => h.block b (by omega) (fun hm => by have := hM b hm; omega)⟩
theorem Fr.cell {M : List Nat} {w w' : World} (h : Fr M w w') {p : Addr} (hp : p.block < w.heap.size) (hn : p.block ∉ M) : w'.cell? p = w.cell? p := World.cell?_of_block (w := w) (h.block p.block hp hn)
theorem Fr.frozen {M : List Nat} {w w' : World} (h : Fr M w w') {p : Addr} (hp : p.block < w.heap.size) (hn : p.block ∉ M) : w'.frozen? p = w.frozen? p := World.frozen?_of_block (w := w) (h.block p.block hp hn)
theorem lt_of_cell {w : World} {p : Addr} {v : Value} (h : w.cell? p = some v) : p.block < w.heap.size := by
  unfold World.cell? at h
  by_cases hb : p.block < w.heap.size
  · exact hb
  · rw [Array.getElem?_eq_none (by omega)] at h; simp at h
theorem lt_of_block {w : World} {b : Nat} {o : Obj} (h : w.heap[b]? = some o) : b < w.heap.size := (Array.getElem?_eq_some_iff.1 h).1
/-- A cell that was there reads as it did. -/
theorem Fr.cellAs {M : List Nat} {w w' : World} (h : Fr M w w') {p : Addr} {v : Value} (hv : w.cell? p = some v) (hn : p.block ∉ M) : w'.cell? p = some v := (h.cell (lt_of_cell hv) hn).trans hv
theorem Fr.blockAs {M : List Nat} {w w' : World} (h : Fr M w w') {b : Nat} {o : Obj} (hv : w.heap[b]? = some o) (hn : b ∉ M) : w'.heap[b]? = some o := (h.block b (lt_of_block hv) hn).trans hv
end Go.Proofs.YtcaeppncippknaaGreatDoor
