/- Two calls held against each other by the program's own comparison of structs. Conditions: none. -/
import Derived.Test.YtcaeppncippknaaDoorParts
import Derived.Laws.StructEq
namespace Go.Proofs.YtcaeppncippknaaDoor
open Go Go.RowKit

set_option maxHeartbeats 4000000 in
set_option maxRecDepth 10000 in
theorem eqCond (d : Nat) (a b a' b' : Int) (w : World) : (Op.equalIn (d + 2) 26 (.agg #[.int .u8 a, .int .u64 b]) (.agg #[.int .u8 a', .int .u64 b'])).run Tryd.prog w = .ok (a == a' && b == b') w := by
  have hS : Tryd.prog.underlying 26 = some (.struct (Tryd.prog.fieldsOf 26)) := by kernel_rfl
  have hp : Tryd.prog.stoodInHeld 26 = false := by kernel_rfl
  rw [show d + 2 = (d + 1) + 1 from rfl, run_equalIn_agg w (d + 1) 26 _ _ hS hp]
  clear hS hp
  have u1 := Tryd.underlying5
  have u2 := Tryd.underlying24
  simp only [Program.fieldsOf, Tryd.underlying26]
  go_simp
  by_cases h1 : a = a' <;> by_cases h2 : b = b' <;> simp [h1, h2]
theorem isAggCond (w : World) : (isAgg 26).run Tryd.prog w = .ok true w := by
  unfold isAgg
  rw [Sem.run_bind, run_underlying (show Tryd.prog.underlying 26 = _ from Tryd.underlying26) w]
  rfl

set_option maxHeartbeats 4000000 in
set_option maxRecDepth 10000 in
theorem neqCall (a b : ACall) (w : World) : (binOp .neq 28 (.agg (callCells a)) (.agg (callCells b))).run Tryd.prog w = .ok (.bool (!decide (a = b))) w := by
  have hS : Tryd.prog.underlying 28 = some (.struct (Tryd.prog.fieldsOf 28)) := by kernel_rfl
  have hp : Tryd.prog.stoodInHeld 28 = false := by kernel_rfl
  rw [run_neq_struct, show (10000 : Nat) = 9999 + 1 from rfl, run_equalIn_agg w 9999 28 _ _ hS hp]
  clear hS hp
  have u1 := Tryd.underlying5
  have u2 := Tryd.underlying24
  have u3 := Tryd.underlying9
  have u4 := Tryd.underlying3
  have hi := isAggCond
  have he := eqCond
  simp only [callCells, strV, Program.fieldsOf, Tryd.underlying28]
  go_simp
  cases a; cases b
  simp only [ACall.mk.injEq, Int.ofNat_inj]
  repeat' split
  all_goals simp_all
  rename_i h
  exact (Decidable.em _).elim (fun hc => .inr (.inl (h hc))) (fun hc => .inl hc)
end Go.Proofs.YtcaeppncippknaaDoor
