/- What a part of a kind does to a coder and a call, while it reads and while it writes. -/
import Derived.Test.YtcaeppncippknaaGreatDoorZCondA
namespace Go.Proofs.YtcaeppncippknaaGreatDoor
open Go Go.RowKit

structure ACall where
  kind : Nat
  bucket : List UInt8
  name : List UInt8
  num : Nat
  part : Int
  text : List UInt8
  ck : Nat
  cn : Nat
  pre : List UInt8
  aft : List UInt8
  most : Int
  deriving DecidableEq
def callCells (c : ACall) : Array Value := #[.int .u8 (c.kind : Nat), strV c.bucket, strV c.name, .int .u64 (c.num : Nat), .int .i64 c.part, strV c.text, .int .u8 (c.ck : Nat), .int .u64 (c.cn : Nat), strV c.pre, strV c.aft, .int .i64 c.most]
def ACall.zero : ACall := ⟨0, [], [], 0, 0, [], 0, 0, [], [], 0⟩
structure ACall.Wf (c : ACall) : Prop where
  kind : c.kind ≤ 255
  bucket : c.bucket.length ≤ 1048576
  name : c.name.length ≤ 1048576
  num : c.num < 18446744073709551616
  part : -9223372036854775808 ≤ c.part ∧ c.part ≤ 9223372036854775807
  text : c.text.length ≤ 1048576
  ck : c.ck ≤ 255
  cn : c.cn < 18446744073709551616
  pre : c.pre.length ≤ 1048576
  aft : c.aft.length ≤ 1048576
  most : -9223372036854775808 ≤ c.most ∧ c.most ≤ 9223372036854775807

structure RS where
  c : ACall
  l : List (List UInt8)
  bad : Bool
def condCk (l : List (List UInt8)) (bad : Bool) : Nat := condK l bad
def rdP (p : Nat) (s : RS) : RS :=
  match p with
  | 1 => ⟨{ s.c with bucket := textV s.l s.bad }, nextL s.l s.bad, textB s.l s.bad⟩
  | 2 => ⟨{ s.c with name := textV s.l s.bad }, nextL s.l s.bad, textB s.l s.bad⟩
  | 3 => ⟨{ s.c with num := numV s.l s.bad }, nextL s.l s.bad, numB s.l s.bad⟩
  | 4 => ⟨if condK s.l s.bad = 2 then { s.c with ck := 2, cn := numV (nextL s.l s.bad) (condB1 s.l s.bad) } else { s.c with ck := condK s.l s.bad }, condL s.l s.bad, condB s.l s.bad⟩
  | 5 => ⟨{ s.c with text := textV s.l s.bad }, nextL s.l s.bad, textB s.l s.bad⟩
  | 6 => ⟨{ s.c with most := intV s.l s.bad }, nextL s.l s.bad, intB s.l s.bad⟩
  | 7 => ⟨{ s.c with pre := textV s.l s.bad }, nextL s.l s.bad, textB s.l s.bad⟩
  | 8 => ⟨{ s.c with aft := textV s.l s.bad }, nextL s.l s.bad, textB s.l s.bad⟩
  | 9 => ⟨{ s.c with part := intV s.l s.bad }, nextL s.l s.bad, intB s.l s.bad⟩
  | _ => s
def wrP (p : Nat) (c : ACall) : List (List UInt8) :=
  match p with
  | 1 => [hWord c.bucket]
  | 2 => [hWord c.name]
  | 3 => [Lib.decDigits c.num]
  | 4 => condOut c.ck c.cn
  | 5 => [hWord c.text]
  | 6 => [Lib.itoa c.most]
  | 7 => [hWord c.pre]
  | 8 => [hWord c.aft]
  | 9 => [Lib.itoa c.part]
  | _ => []
def wrB (p : Nat) (c : ACall) : Bool :=
  match p with
  | 1 => decide (65536 < (hWord c.bucket).length)
  | 2 => decide (65536 < (hWord c.name).length)
  | 4 => decide (2 < c.ck)
  | 5 => decide (65536 < (hWord c.text).length)
  | 7 => decide (65536 < (hWord c.pre).length)
  | 8 => decide (65536 < (hWord c.aft).length)
  | _ => false
def pn (f : Nat) : Nat := if f = 64 then 1 else if f = 66 then 2 else if f = 67 then 3 else if f = 68 then 4 else if f = 70 then 5 else if f = 71 then 6 else if f = 72 then 7 else if f = 73 then 8 else if f = 74 then 9 else 0
def isPart (f : Nat) : Prop := f = 64 ∨ f = 66 ∨ f = 67 ∨ f = 68 ∨ f = 70 ∨ f = 71 ∨ f = 72 ∨ f = 73 ∨ f = 74

def RdAt (f p : Nat) : Prop := ∀ (K b C : Nat) (w : World) (s : RS), Env w → RCod K b w s.l s.bad → w.heap[C]? = some (.cells (callCells s.c) 31 (0, 0)) → C ≠ K → C ≠ b → 8 ≤ K → 8 ≤ C → s.l.length ≤ 1099511627776 → (∀ x ∈ s.l, x.length ≤ 1048576) →
    Calls Tryz.prog f #[.pointer (some ⟨K, 0, none⟩), .pointer (some ⟨C, 0, none⟩)] w fun e w' => e = .returned (.tuple #[]) ∧ RCod K b w' (rdP p s).l (rdP p s).bad ∧ w'.heap[C]? = some (.cells (callCells (rdP p s).c) 31 (0, 0)) ∧ Fr [K, C] w w'
def WrAt (f p : Nat) : Prop := ∀ (K B C : Nat) (w : World) (c : ACall) (out : List (List UInt8)) (bad : Bool), Env w → WCod K B w out bad → w.heap[C]? = some (.cells (callCells c) 31 (0, 0)) → c.Wf → K < B → B ≤ w.heap.size → C < B → C ≠ K → 8 ≤ K → 8 ≤ B → out.length ≤ 1099511627775 →
    Calls Tryz.prog f #[.pointer (some ⟨K, 0, none⟩), .pointer (some ⟨C, 0, none⟩)] w fun e w' => e = .returned (.tuple #[]) ∧ WCod K B w' (out ++ wrP p c) (bad || wrB p c) ∧ But B K w w'

theorem rd1 : RdAt 64 1 := by
  intro K b C w s henv h hC hCK hCb hK8 hC8 hll hlw
  have HC := Lib.hid hC
  clear hC
  go_enter Tryz.func64, Tryz.ntmps64
  go_wp2_with fail
  refine (text_read K b C 1 (callCells s.c) 31 w s.l s.bad henv h HC.out (by simp [callCells]) hCK hCb hK8 hll hlw).mono ?_
  rintro e w1 ⟨rfl, hr, hc, hf⟩
  have HCC := Lib.hid hc
  clear hc
  go_wp2_with fail
  go_end0
  exact ⟨rfl, hr, HCC.out, hf⟩

theorem rd2 : RdAt 66 2 := by
  intro K b C w s henv h hC hCK hCb hK8 hC8 hll hlw
  have HC := Lib.hid hC
  clear hC
  go_enter Tryz.func66, Tryz.ntmps66
  go_wp2_with fail
  refine (text_read K b C 2 (callCells s.c) 31 w s.l s.bad henv h HC.out (by simp [callCells]) hCK hCb hK8 hll hlw).mono ?_
  rintro e w1 ⟨rfl, hr, hc, hf⟩
  have HCC := Lib.hid hc
  clear hc
  go_wp2_with fail
  go_end0
  exact ⟨rfl, hr, HCC.out, hf⟩

theorem rd3 : RdAt 67 3 := by
  intro K b C w s henv h hC hCK hCb hK8 hC8 hll hlw
  have HC := Lib.hid hC
  clear hC
  go_enter Tryz.func67, Tryz.ntmps67
  go_wp2_with fail
  refine (number_read K b C 3 (callCells s.c) 31 w s.l s.bad henv h HC.out (by simp [callCells]) hCK hCb hK8 hll hlw).mono ?_
  rintro e w1 ⟨rfl, hr, hc, hf⟩
  have HCC := Lib.hid hc
  clear hc
  go_wp2_with fail
  go_end0
  exact ⟨rfl, hr, HCC.out, hf⟩

theorem rd4 : RdAt 68 4 := by
  intro K b C w s henv h hC hCK hCb hK8 hC8 hll hlw
  have HC := Lib.hid hC
  clear hC
  go_enter Tryz.func68, Tryz.ntmps68
  go_wp2_with fail
  refine (cond_read K b C 6 (callCells s.c) 31 w s.l s.bad henv h HC.out (by simp [callCells]) hCK hCb hK8 hC8 hll hlw).mono ?_
  rintro e w1 ⟨rfl, hr, hc, hf⟩
  have HCC := Lib.hid hc
  clear hc
  go_wp2_with fail
  go_end0
  refine ⟨rfl, hr, ?_, hf⟩
  rw [HCC.out]
  unfold condCells
  simp only [rdP]
  split
  · rfl
  · rfl

theorem rd5 : RdAt 70 5 := by
  intro K b C w s henv h hC hCK hCb hK8 hC8 hll hlw
  have HC := Lib.hid hC
  clear hC
  go_enter Tryz.func70, Tryz.ntmps70
  go_wp2_with fail
  refine (text_read K b C 5 (callCells s.c) 31 w s.l s.bad henv h HC.out (by simp [callCells]) hCK hCb hK8 hll hlw).mono ?_
  rintro e w1 ⟨rfl, hr, hc, hf⟩
  have HCC := Lib.hid hc
  clear hc
  go_wp2_with fail
  go_end0
  exact ⟨rfl, hr, HCC.out, hf⟩

theorem rd6 : RdAt 71 6 := by
  intro K b C w s henv h hC hCK hCb hK8 hC8 hll hlw
  have HC := Lib.hid hC
  clear hC
  go_enter Tryz.func71, Tryz.ntmps71
  go_wp2_with fail
  refine (whole_read K b C 10 (callCells s.c) 31 w s.l s.bad henv h HC.out (by simp [callCells]) hCK hCb hK8 hll hlw).mono ?_
  rintro e w1 ⟨rfl, hr, hc, hf⟩
  have HCC := Lib.hid hc
  clear hc
  go_wp2_with fail
  go_end0
  exact ⟨rfl, hr, HCC.out, hf⟩

theorem rd7 : RdAt 72 7 := by
  intro K b C w s henv h hC hCK hCb hK8 hC8 hll hlw
  have HC := Lib.hid hC
  clear hC
  go_enter Tryz.func72, Tryz.ntmps72
  go_wp2_with fail
  refine (text_read K b C 8 (callCells s.c) 31 w s.l s.bad henv h HC.out (by simp [callCells]) hCK hCb hK8 hll hlw).mono ?_
  rintro e w1 ⟨rfl, hr, hc, hf⟩
  have HCC := Lib.hid hc
  clear hc
  go_wp2_with fail
  go_end0
  exact ⟨rfl, hr, HCC.out, hf⟩

theorem rd8 : RdAt 73 8 := by
  intro K b C w s henv h hC hCK hCb hK8 hC8 hll hlw
  have HC := Lib.hid hC
  clear hC
  go_enter Tryz.func73, Tryz.ntmps73
  go_wp2_with fail
  refine (text_read K b C 9 (callCells s.c) 31 w s.l s.bad henv h HC.out (by simp [callCells]) hCK hCb hK8 hll hlw).mono ?_
  rintro e w1 ⟨rfl, hr, hc, hf⟩
  have HCC := Lib.hid hc
  clear hc
  go_wp2_with fail
  go_end0
  exact ⟨rfl, hr, HCC.out, hf⟩

theorem rd9 : RdAt 74 9 := by
  intro K b C w s henv h hC hCK hCb hK8 hC8 hll hlw
  have HC := Lib.hid hC
  clear hC
  go_enter Tryz.func74, Tryz.ntmps74
  go_wp2_with fail
  refine (whole_read K b C 4 (callCells s.c) 31 w s.l s.bad henv h HC.out (by simp [callCells]) hCK hCb hK8 hll hlw).mono ?_
  rintro e w1 ⟨rfl, hr, hc, hf⟩
  have HCC := Lib.hid hc
  clear hc
  go_wp2_with fail
  go_end0
  exact ⟨rfl, hr, HCC.out, hf⟩

theorem wr1 : WrAt 64 1 := by
  intro K B C w c out bad henv h hC hwf hKB hB hCB hCK hK8 hB8 ho
  have HC := Lib.hid (show w.cell? ⟨C, 1, none⟩ = some (strV c.bucket) by rw [Lib.cell_of_heap hC]; rfl)
  clear hC
  go_enter Tryz.func64, Tryz.ntmps64
  go_wp2_with fail
  refine (text_write K B C 1 w out bad c.bucket h hKB hB (by omega) HC.out hwf.bucket).mono ?_
  rintro e w1 ⟨rfl, hr, hf⟩
  go_wp2_with fail
  go_end0
  exact ⟨rfl, hr, hf⟩

theorem wr2 : WrAt 66 2 := by
  intro K B C w c out bad henv h hC hwf hKB hB hCB hCK hK8 hB8 ho
  have HC := Lib.hid (show w.cell? ⟨C, 2, none⟩ = some (strV c.name) by rw [Lib.cell_of_heap hC]; rfl)
  clear hC
  go_enter Tryz.func66, Tryz.ntmps66
  go_wp2_with fail
  refine (text_write K B C 2 w out bad c.name h hKB hB (by omega) HC.out hwf.name).mono ?_
  rintro e w1 ⟨rfl, hr, hf⟩
  go_wp2_with fail
  go_end0
  exact ⟨rfl, hr, hf⟩

theorem wr3 : WrAt 67 3 := by
  intro K B C w c out bad henv h hC hwf hKB hB hCB hCK hK8 hB8 ho
  have HC := Lib.hid (show w.cell? ⟨C, 3, none⟩ = some (.int .u64 (c.num : Nat)) by rw [Lib.cell_of_heap hC]; rfl)
  clear hC
  go_enter Tryz.func67, Tryz.ntmps67
  go_wp2_with fail
  refine (number_write K B C 3 w out bad c.num hwf.num henv h hKB hB (by omega) HC.out).mono ?_
  rintro e w1 ⟨rfl, hr, hf⟩
  go_wp2_with fail
  go_end0
  exact ⟨rfl, by simpa [wrP, wrB] using hr, hf⟩

theorem wr4 : WrAt 68 4 := by
  intro K B C w c out bad henv h hC hwf hKB hB hCB hCK hK8 hB8 ho
  have HC := Lib.hid hC
  clear hC
  go_enter Tryz.func68, Tryz.ntmps68
  go_wp2_with fail
  refine (cond_write K B C 6 (callCells c) 31 c.ck c.cn hwf.ck hwf.cn w out bad henv h hKB hB ho HC.out rfl rfl hCB hCK hK8 hB8).mono ?_
  rintro e w1 ⟨rfl, hr, hf⟩
  go_wp2_with fail
  go_end0
  exact ⟨rfl, hr, hf⟩

theorem wr5 : WrAt 70 5 := by
  intro K B C w c out bad henv h hC hwf hKB hB hCB hCK hK8 hB8 ho
  have HC := Lib.hid (show w.cell? ⟨C, 5, none⟩ = some (strV c.text) by rw [Lib.cell_of_heap hC]; rfl)
  clear hC
  go_enter Tryz.func70, Tryz.ntmps70
  go_wp2_with fail
  refine (text_write K B C 5 w out bad c.text h hKB hB (by omega) HC.out hwf.text).mono ?_
  rintro e w1 ⟨rfl, hr, hf⟩
  go_wp2_with fail
  go_end0
  exact ⟨rfl, hr, hf⟩

theorem wr6 : WrAt 71 6 := by
  intro K B C w c out bad henv h hC hwf hKB hB hCB hCK hK8 hB8 ho
  have HC := Lib.hid (show w.cell? ⟨C, 10, none⟩ = some (.int .i64 c.most) by rw [Lib.cell_of_heap hC]; rfl)
  clear hC
  go_enter Tryz.func71, Tryz.ntmps71
  go_wp2_with fail
  refine (whole_write K B C 10 w out bad c.most hwf.most.1 hwf.most.2 henv h hKB hB (by omega) HC.out).mono ?_
  rintro e w1 ⟨rfl, hr, hf⟩
  go_wp2_with fail
  go_end0
  exact ⟨rfl, by simpa [wrP, wrB] using hr, hf⟩

theorem wr7 : WrAt 72 7 := by
  intro K B C w c out bad henv h hC hwf hKB hB hCB hCK hK8 hB8 ho
  have HC := Lib.hid (show w.cell? ⟨C, 8, none⟩ = some (strV c.pre) by rw [Lib.cell_of_heap hC]; rfl)
  clear hC
  go_enter Tryz.func72, Tryz.ntmps72
  go_wp2_with fail
  refine (text_write K B C 8 w out bad c.pre h hKB hB (by omega) HC.out hwf.pre).mono ?_
  rintro e w1 ⟨rfl, hr, hf⟩
  go_wp2_with fail
  go_end0
  exact ⟨rfl, hr, hf⟩

theorem wr8 : WrAt 73 8 := by
  intro K B C w c out bad henv h hC hwf hKB hB hCB hCK hK8 hB8 ho
  have HC := Lib.hid (show w.cell? ⟨C, 9, none⟩ = some (strV c.aft) by rw [Lib.cell_of_heap hC]; rfl)
  clear hC
  go_enter Tryz.func73, Tryz.ntmps73
  go_wp2_with fail
  refine (text_write K B C 9 w out bad c.aft h hKB hB (by omega) HC.out hwf.aft).mono ?_
  rintro e w1 ⟨rfl, hr, hf⟩
  go_wp2_with fail
  go_end0
  exact ⟨rfl, hr, hf⟩

theorem wr9 : WrAt 74 9 := by
  intro K B C w c out bad henv h hC hwf hKB hB hCB hCK hK8 hB8 ho
  have HC := Lib.hid (show w.cell? ⟨C, 4, none⟩ = some (.int .i64 c.part) by rw [Lib.cell_of_heap hC]; rfl)
  clear hC
  go_enter Tryz.func74, Tryz.ntmps74
  go_wp2_with fail
  refine (whole_write K B C 4 w out bad c.part hwf.part.1 hwf.part.2 henv h hKB hB (by omega) HC.out).mono ?_
  rintro e w1 ⟨rfl, hr, hf⟩
  go_wp2_with fail
  go_end0
  exact ⟨rfl, by simpa [wrP, wrB] using hr, hf⟩

theorem rdAt {f : Nat} (hf : isPart f) : RdAt f (pn f) := by
  rcases hf with rfl | rfl | rfl | rfl | rfl | rfl | rfl | rfl | rfl
  · exact rd1
  · exact rd2
  · exact rd3
  · exact rd4
  · exact rd5
  · exact rd6
  · exact rd7
  · exact rd8
  · exact rd9
theorem wrAt {f : Nat} (hf : isPart f) : WrAt f (pn f) := by
  rcases hf with rfl | rfl | rfl | rfl | rfl | rfl | rfl | rfl | rfl
  · exact wr1
  · exact wr2
  · exact wr3
  · exact wr4
  · exact wr5
  · exact wr6
  · exact wr7
  · exact wr8
  · exact wr9
end Go.Proofs.YtcaeppncippknaaGreatDoor
