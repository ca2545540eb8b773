/- The conversion of a string to bytes, as a law of the walk; small facts on strings as lists of bytes. Conditions: none. -/
import Derived.Test.YtcaeppncippknaaGreatDoorBase
import Derived.MapKept
import Derived.Lib.ConvBytes
namespace Go.Proofs.YtcaeppncippknaaGreatDoor
open Go Go.RowKit

/-- The bytes of a list, as a string's value. -/
abbrev bs (l : List UInt8) : ByteArray := ⟨l.toArray⟩
theorem bs_toList (l : List UInt8) : (bs l).data.toList = l := by simp
theorem bs_size (l : List UInt8) : (bs l).size = l.length := by show l.toArray.size = _; simp
theorem bs_of (s : ByteArray) : bs s.data.toList = s := by cases s; simp

/-- A SLICE OF BYTES THAT HOLDS A LIST: from the head of block b on. -/
def BytesAt (w : World) (b : Nat) (l : List UInt8) : Prop := ∀ i (h : i < l.length), w.cell? ⟨b, i, none⟩ = some (.int .u8 (l[i].toNat : Nat))
theorem BytesAt.fr {M : List Nat} {w w' : World} {b : Nat} {l : List UInt8} (h : BytesAt w b l) (hf : Fr M w w') (hn : b ∉ M) : BytesAt w' b l := fun i hi => hf.cellAs (h i hi) hn

theorem fr_bytesWorld (w : World) (e : TypeId) (s : ByteArray) : Fr [] w (Lib.bytesWorld w e s) := by
  have hz := Lib.bytesWorld_size w e s
  refine ⟨?_, ?_, ?_, by omega, fun b hb _ => Lib.bytesWorld_at_old w e s b hb⟩
  all_goals simp [Lib.bytesWorld, World.freeze, World.alloc, World.drew, -World.alloc_eq, -World.drew_eq]
theorem run_stringToBytes {P : Program} (w : World) (src dst e : TypeId) (s : ByteArray) (hs : P.underlying src = some .string) (hd : P.underlying dst = some (.slice e)) (he : P.underlying e = some (.int .u8)) :
    ∃ cap w', (convert src dst (.string s)).run P w = .ok (.slice (some ⟨w.heap.size, 0, none⟩) s.size cap) w' ∧ BytesAt w' w.heap.size s.data.toList ∧ Fr [] w w' ∧ w'.heap.size = w.heap.size + 1 ∧
      ∀ i, i < s.size → w'.frozen? ⟨w.heap.size, i, none⟩ = false := by
  refine ⟨_, _, Lib.run_convert_string_bytes w src dst e s hs hd he, fun i hi => ?_, ?_, Lib.bytesWorld_size w e s, fun i hi => ?_⟩
  · have hi' : i < s.size := by simpa using hi
    rw [Lib.bytesWorld_cell w e s i hi']
    simp [List.getD, List.getElem?_eq_getElem hi]
  · have hz := Lib.bytesWorld_size w e s
    refine ⟨?_, ?_, ?_, by omega, fun b hb _ => Lib.bytesWorld_at_old w e s b hb⟩
    all_goals simp [Lib.bytesWorld, World.freeze, World.alloc, World.drew, -World.alloc_eq, -World.drew_eq]
  · have := Lib.bytesWorld_at_new w e s
    simp only [World.frozen?, this]
    have hz : s.size ≤ (Lib.bytesCells w e s).size := by simp [Lib.bytesCells]
    simp
    omega
theorem wpList_bytes {P : Program} {w : World} {ops : Array Oper} {rest : List Oper} {o : Oper} {a : Act} {Q : Exit → Act → World → Prop}
    (hg : o.guard = none) (x : Operand) (src dst e : TypeId) (hop : o.op = Op.convert src dst x) (hs : P.underlying src = some .string) (hd : P.underlying dst = some (.slice e)) (he : P.underlying e = some (.int .u8))
    (s : ByteArray) (hx : a.eval x = .string s)
    (hK : ∀ cap w', BytesAt w' w.heap.size s.data.toList → Fr [] w w' → w'.heap.size = w.heap.size + 1 → (∀ i, i < s.size → w'.frozen? ⟨w.heap.size, i, none⟩ = false) →
      wpList P ops Q rest (a.put o.dst (.slice (some ⟨w.heap.size, 0, none⟩) s.size cap)) w') : wpList P ops Q (o :: rest) a w := by
  refine wpList_plain hg fun K hK' => ?_
  unfold Oper.wp
  obtain ⟨cap, w', hrun, h1, h2, h3, h4⟩ := run_stringToBytes (P := P) w src dst e s hs hd he
  simp [execOp, hop, hx, hrun, Result.andThen]
  exact hK' _ _ (hK cap w' h1 h2 h3 h4)
end Go.Proofs.YtcaeppncippknaaGreatDoor
