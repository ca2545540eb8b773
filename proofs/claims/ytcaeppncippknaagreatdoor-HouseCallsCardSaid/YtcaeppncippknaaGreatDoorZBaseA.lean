/- The words in which the contracts speak of memory: which blocks a call may have written. Conditions: none. -/
import Derived.WalkKit
import Derived.WalkSpells
import Derived.WalkLawsBesides
import Derived.Lib.Hide
import Derived.MapKept
import Derived.Lib.ConvBytes
import Derived.StillTactics
import Derived.Laws.Rows
import Derived.Laws.Tables
namespace Go.Proofs.YtcaeppncippknaaGreatDoor
open Go.RowKit

/-- The world w' is w, but for new blocks, and for what the blocks on the list M hold. -/
structure Fr (M : List Nat) (w w' : World) : Prop where
  os : w'.os = w.os
  tape : w'.tape = w.tape
  output : w'.output = w.output
  size : w.heap.size ≤ w'.heap.size
  block : ∀ b, b < w.heap.size → b ∉ M → w'.heap[b]? = w.heap[b]?

theorem Fr.refl (M : List Nat) (w : World) : Fr M w w := ⟨rfl, rfl, rfl, Nat.le_refl _, fun _ _ _ => rfl⟩
theorem Fr.trans {M M' : List Nat} {a b c : World} (h : Fr M a b) (k : Fr M' b c) (hM : ∀ i ∈ M', i < a.heap.size → i ∈ M) : Fr M a c :=
  ⟨k.os.trans h.os, k.tape.trans h.tape, k.output.trans h.output, Nat.le_trans h.size k.size, fun i hi hn =>
    (k.block i (Nat.lt_of_lt_of_le hi h.size) (fun hm => hn (hM i hm hi))).trans (h.block i hi hn)⟩
theorem Fr.andThen {M : List Nat} {a b c : World} (h : Fr M a b) (k : Fr M b c) : Fr M a c := h.trans k fun _ h _ => h
theorem Fr.mono {M M' : List Nat} {a b : World} (h : Fr M a b) (hM : ∀ i ∈ M, i ∈ M') : Fr M' a b :=
  ⟨h.os, h.tape, h.output, h.size, fun i hi hn => h.block i hi (fun hm => hn (hM i hm))⟩
theorem Fr.drew {M : List Nat} {a w : World} (h : Fr M a w) : Fr M a w.drew := ⟨h.os, h.tape, h.output, h.size, h.block⟩
theorem Fr.drewN {M : List Nat} {a w : World} (h : Fr M a w) (n : Nat) : Fr M a (w.drewN n) := ⟨h.os, h.tape, h.output, h.size, h.block⟩
theorem Fr.alloc {M : List Nat} {a w : World} (h : Fr M a w) (o : Obj) : Fr M a (w.alloc o) :=
  h.trans (M' := []) ⟨rfl, rfl, rfl, by simp, fun k hk _ => Below.heap_alloc _ _ _ hk⟩ (fun _ h => by cases h)
theorem Fr.setCell {M : List Nat} {a w : World} (h : Fr M a w) {p : Addr} (hp : p.block < a.heap.size → p.block ∈ M) (u : Value) : Fr M a (w.setCell p u) :=
  h.trans (M' := [p.block]) ⟨rfl, rfl, rfl, by simp [World.setCell], fun k _ hn => Below.heap_setCell _ _ _ _ (by simpa using hn)⟩ (fun i hi hlt => by
    obtain rfl : i = p.block := by simpa using hi
    exact hp hlt)
theorem Fr.of_grown {w w' : World} {row : Option Nat} (h : w.grownBy w' row) : Fr row.toList w w' :=
  ⟨h.os, h.tape, h.output, h.size, fun b hb hn => h.block b hb (fun e => hn (by rw [← e]; simp))⟩
theorem Fr.of_below {w w' : World} (h : Below w.heap.size w w') : Fr [] w w' := ⟨h.os, h.tape, h.output, h.size, fun b hb _ => h.block b hb⟩
theorem Fr.below {w w' : World} (h : Fr [] w w') : Below w.heap.size w w' := ⟨h.os, h.tape, h.output, h.size, fun b hb => h.block b hb (by simp)⟩
theorem Fr.belowOf {M : List Nat} {w w' : World} {B : Nat} (h : Fr M w w') (hB : B ≤ w.heap.size) (hM : ∀ i ∈ M, B ≤ i) : Below B w w' :=
  ⟨h.os, h.tape, h.output, h.size, fun b hb => h.block b (by omega) (fun hm => by have := hM b hm; omega)⟩
theorem Fr.cell {M : List Nat} {w w' : World} (h : Fr M w w') {p : Addr} (hp : p.block < w.heap.size) (hn : p.block ∉ M) : w'.cell? p = w.cell? p := World.cell?_of_block (w := w) (h.block p.block hp hn)
theorem Fr.frozen {M : List Nat} {w w' : World} (h : Fr M w w') {p : Addr} (hp : p.block < w.heap.size) (hn : p.block ∉ M) : w'.frozen? p = w.frozen? p := World.frozen?_of_block (w := w) (h.block p.block hp hn)
theorem lt_of_cell {w : World} {p : Addr} {v : Value} (h : w.cell? p = some v) : p.block < w.heap.size := by
  unfold World.cell? at h
  by_cases hb : p.block < w.heap.size
  · exact hb
  · rw [Array.getElem?_eq_none (by omega)] at h; simp at h
theorem lt_of_block {w : World} {b : Nat} {o : Obj} (h : w.heap[b]? = some o) : b < w.heap.size := (Array.getElem?_eq_some_iff.1 h).1
/-- A cell that was there reads as it did. -/
theorem Fr.cellAs {M : List Nat} {w w' : World} (h : Fr M w w') {p : Addr} {v : Value} (hv : w.cell? p = some v) (hn : p.block ∉ M) : w'.cell? p = some v := (h.cell (lt_of_cell hv) hn).trans hv
theorem Fr.blockAs {M : List Nat} {w w' : World} (h : Fr M w w') {b : Nat} {o : Obj} (hv : w.heap[b]? = some o) (hn : b ∉ M) : w'.heap[b]? = some o := (h.block b (lt_of_block hv) hn).trans hv
end Go.Proofs.YtcaeppncippknaaGreatDoor
/- The conversion of a string to bytes, as a law of the walk; small facts on strings as lists of bytes. Conditions: none. -/
namespace Go.Proofs.YtcaeppncippknaaGreatDoor
open Go Go.RowKit

/-- The bytes of a list, as a string's value. -/
abbrev bs (l : List UInt8) : ByteArray := ⟨l.toArray⟩
theorem bs_toList (l : List UInt8) : (bs l).data.toList = l := by simp
theorem bs_size (l : List UInt8) : (bs l).size = l.length := by show l.toArray.size = _; simp
theorem bs_of (s : ByteArray) : bs s.data.toList = s := by cases s; simp

/-- A SLICE OF BYTES THAT HOLDS A LIST: from the head of block b on. -/
def BytesAt (w : World) (b : Nat) (l : List UInt8) : Prop := ∀ i (h : i < l.length), w.cell? ⟨b, i, none⟩ = some (.int .u8 (l[i].toNat : Nat))
theorem BytesAt.fr {M : List Nat} {w w' : World} {b : Nat} {l : List UInt8} (h : BytesAt w b l) (hf : Fr M w w') (hn : b ∉ M) : BytesAt w' b l := fun i hi => hf.cellAs (h i hi) hn

theorem fr_bytesWorld (w : World) (e : TypeId) (s : ByteArray) : Fr [] w (Lib.bytesWorld w e s) := by
  have hz := Lib.bytesWorld_size w e s
  refine ⟨?_, ?_, ?_, by omega, fun b hb _ => Lib.bytesWorld_at_old w e s b hb⟩
  all_goals simp [Lib.bytesWorld, World.freeze, World.alloc, World.drew, -World.alloc_eq, -World.drew_eq]
theorem run_stringToBytes {P : Program} (w : World) (src dst e : TypeId) (s : ByteArray) (hs : P.underlying src = some .string) (hd : P.underlying dst = some (.slice e)) (he : P.underlying e = some (.int .u8)) :
    ∃ cap w', (convert src dst (.string s)).run P w = .ok (.slice (some ⟨w.heap.size, 0, none⟩) s.size cap) w' ∧ BytesAt w' w.heap.size s.data.toList ∧ Fr [] w w' ∧ w'.heap.size = w.heap.size + 1 ∧
      ∀ i, i < s.size → w'.frozen? ⟨w.heap.size, i, none⟩ = false := by
  refine ⟨_, _, Lib.run_convert_string_bytes w src dst e s hs hd he, fun i hi => ?_, ?_, Lib.bytesWorld_size w e s, fun i hi => ?_⟩
  · have hi' : i < s.size := by simpa using hi
    rw [Lib.bytesWorld_cell w e s i hi']
    simp [List.getD, List.getElem?_eq_getElem hi]
  · have hz := Lib.bytesWorld_size w e s
    refine ⟨?_, ?_, ?_, by omega, fun b hb _ => Lib.bytesWorld_at_old w e s b hb⟩
    all_goals simp [Lib.bytesWorld, World.freeze, World.alloc, World.drew, -World.alloc_eq, -World.drew_eq]
  · have := Lib.bytesWorld_at_new w e s
    simp only [World.frozen?, this]
    have hz : s.size ≤ (Lib.bytesCells w e s).size := by simp [Lib.bytesCells]
    simp
    omega
theorem wpList_bytes {P : Program} {w : World} {ops : Array Oper} {rest : List Oper} {o : Oper} {a : Act} {Q : Exit → Act → World → Prop}
    (hg : o.guard = none) (x : Operand) (src dst e : TypeId) (hop : o.op = Op.convert src dst x) (hs : P.underlying src = some .string) (hd : P.underlying dst = some (.slice e)) (he : P.underlying e = some (.int .u8))
    (s : ByteArray) (hx : a.eval x = .string s)
    (hK : ∀ cap w', BytesAt w' w.heap.size s.data.toList → Fr [] w w' → w'.heap.size = w.heap.size + 1 → (∀ i, i < s.size → w'.frozen? ⟨w.heap.size, i, none⟩ = false) →
      wpList P ops Q rest (a.put o.dst (.slice (some ⟨w.heap.size, 0, none⟩) s.size cap)) w') : wpList P ops Q (o :: rest) a w := by
  refine wpList_plain hg fun K hK' => ?_
  unfold Oper.wp
  obtain ⟨cap, w', hrun, h1, h2, h3, h4⟩ := run_stringToBytes (P := P) w src dst e s hs hd he
  simp [execOp, hop, hx, hrun, Result.andThen]
  exact hK' _ _ (hK cap w' h1 h2 h3 h4)
end Go.Proofs.YtcaeppncippknaaGreatDoor
/- Two steps of a region that draws: the load of a whole struct, and the store of just what is there. Conditions: none. -/
namespace Go.Proofs.YtcaeppncippknaaGreatDoor
open Go Go.RowKit

theorem setRow_same {w : World} {g : Nat} {cs : Array Value} {t : TypeId} {fr : Nat × Nat} (hg : w.heap[g]? = some (.cells cs t fr)) : w.setRow g cs = w := by
  have h : (w.setRow g cs).heap = w.heap := by
    apply Array.ext_getElem?
    intro k
    by_cases hk : k = g
    · subst hk
      rw [setRow_heap w k cs cs t fr hg, hg]
    · exact setRow_other w g k cs hk
  cases w
  simp only [World.setRow] at h ⊢
  rw [h]

theorem Fr.setRow {M : List Nat} {a w : World} (h : Fr M a w) {g : Nat} (hg : g < a.heap.size → g ∈ M) (cs : Array Value) : Fr M a (w.setRow g cs) :=
  ⟨h.os, h.tape, h.output, by simpa using h.size, fun b hb hn => by
    rw [setRow_other w g b cs (fun e => hn (by subst e; exact hg hb))]
    exact h.block b hb hn⟩
theorem wpList_load_row_g {P : Program} {ops : Array Oper} {rest : List Oper} {o : Oper} {a : Act} {w : World} {Q : Exit → Act → World → Prop} (hw : Region.wanted o (yielded ops a.tmps) = true) (ty : TypeId) (x : Operand) (ho : o.op = .load ty x)
    (g : Nat) (hx : a.eval x = .pointer (some ⟨g, 0, none⟩)) (t : TypeId) (cs : Array Value) (fr : Nat × Nat) (d : TypeDesc) (hg : w.heap[g]? = some (.cells cs t fr))
    (hu : P.underlying ty = some d) (hd : (match d with | .struct _ | .array _ _ => true | _ => false) = true) (hi : (P.info? ty).map (·.size) = some cs.size)
    (h : wpList P ops Q rest (a.put o.dst (.agg cs)) w) : wpList P ops Q (o :: rest) a w :=
  wpList_step fun _ hK => by rw [if_pos hw]; exact wp_load_row ty x ho g hx t cs fr d hg hu hd hi (hK _ _ h)
section
variable {P : Program} {ops : Array Oper} {w : World}
theorem wpStill_load_row {Q : Act → Prop} {a : Act} {o : Oper} {rest : List Oper} (hgd : o.guard = none) (ty : TypeId) (x : Operand) (ho : o.op = .load ty x)
    (g : Nat) (hx : a.eval x = .pointer (some ⟨g, 0, none⟩)) (t : TypeId) (cs : Array Value) (fr : Nat × Nat) (d : TypeDesc) (hg : w.heap[g]? = some (.cells cs t fr))
    (hu : P.underlying ty = some d) (hd : (match d with | .struct _ | .array _ _ => true | _ => false) = true) (hi : (P.info? ty).map (·.size) = some cs.size)
    (h : wpStill P ops w Q rest (a.put o.dst (.agg cs))) : wpStill P ops w Q (o :: rest) a := by
  refine wpStill_step fun K hK => ?_
  have hw : Region.wanted o (yielded ops a.tmps) = true := by simp [Region.wanted, hgd]
  rw [if_pos hw]
  unfold Oper.still execOp
  simp only [ho, hx, Instr.loadAt, Instr.sureAddr, Sem.run_bind, Sem.run_pure, Result.andThen_ok, run_loadVar_row w g t ty cs fr d hg hu hd hi]
  exact ⟨rfl, hK _ h⟩
theorem wpStill_store_same {Q : Act → Prop} {a : Act} {o : Oper} {rest : List Oper} (hgd : o.guard = none) (ty : TypeId) (x y : Operand) (ho : o.op = .store ty x y)
    (g : Nat) (cells : Array Value) (hx : a.eval x = .pointer (some ⟨g, 0, none⟩)) (hy : a.eval y = .agg cells)
    (t : TypeId) (hg : w.heap[g]? = some (.cells cells t (0, 0))) (hi : (P.info? ty).map (·.size) = some cells.size) (h1 : cells.all (·.oneCell') = true)
    (h : wpStill P ops w Q rest (a.put o.dst undef)) : wpStill P ops w Q (o :: rest) a := by
  refine wpStill_step fun K hK => ?_
  have hw : Region.wanted o (yielded ops a.tmps) = true := by simp [Region.wanted, hgd]
  rw [if_pos hw]
  unfold Oper.still execOp
  simp only [ho, hx, hy, Instr.storeAt, Instr.sureAddr, Sem.run_bind, Sem.run_pure, Result.andThen_ok, run_storeVar_row w g t ty cells cells hg hi rfl h1, setRow_same hg]
  exact ⟨rfl, hK _ h⟩
end
end Go.Proofs.YtcaeppncippknaaGreatDoor
