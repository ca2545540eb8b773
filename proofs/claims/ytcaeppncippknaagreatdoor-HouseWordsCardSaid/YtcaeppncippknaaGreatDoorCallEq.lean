/- Two calls held against each other by the program's own comparison of structs. Conditions: none. -/
import Derived.Test.YtcaeppncippknaaGreatDoorParts
import Derived.Laws.StructEq
namespace Go.Proofs.YtcaeppncippknaaGreatDoor
open Go Go.RowKit

set_option maxHeartbeats 4000000 in
set_option maxRecDepth 10000 in
theorem eqCond (d : Nat) (a b a' b' : Int) (w : World) : (Op.equalIn (d + 2) 29 (.agg #[.int .u8 a, .int .u64 b]) (.agg #[.int .u8 a', .int .u64 b'])).run Tryz.prog w = .ok (a == a' && b == b') w := by
  have hS : Tryz.prog.underlying 29 = some (.struct (Tryz.prog.fieldsOf 29)) := by kernel_rfl
  have hp : Tryz.prog.stoodInHeld 29 = false := by kernel_rfl
  rw [show d + 2 = (d + 1) + 1 from rfl, run_equalIn_agg w (d + 1) 29 _ _ hS hp]
  clear hS hp
  have u1 := Tryz.underlying5
  have u2 := Tryz.underlying27
  simp only [Program.fieldsOf, Tryz.underlying29]
  go_simp
  by_cases h1 : a = a' <;> by_cases h2 : b = b' <;> simp [h1, h2]
theorem isAggCond (w : World) : (isAgg 29).run Tryz.prog w = .ok true w := by
  unfold isAgg
  rw [Sem.run_bind, run_underlying (show Tryz.prog.underlying 29 = _ from Tryz.underlying29) w]
  rfl

set_option maxHeartbeats 4000000 in
set_option maxRecDepth 10000 in
theorem neqCall (a b : ACall) (w : World) : (binOp .neq 31 (.agg (callCells a)) (.agg (callCells b))).run Tryz.prog w = .ok (.bool (!decide (a = b))) w := by
  have hS : Tryz.prog.underlying 31 = some (.struct (Tryz.prog.fieldsOf 31)) := by kernel_rfl
  have hp : Tryz.prog.stoodInHeld 31 = false := by kernel_rfl
  rw [run_neq_struct, show (10000 : Nat) = 9999 + 1 from rfl, run_equalIn_agg w 9999 31 _ _ hS hp]
  clear hS hp
  have u1 := Tryz.underlying5
  have u2 := Tryz.underlying27
  have u3 := Tryz.underlying9
  have u4 := Tryz.underlying3
  have hi := isAggCond
  have he := eqCond
  simp only [callCells, strV, Program.fieldsOf, Tryz.underlying31]
  go_simp
  cases a; cases b
  simp only [ACall.mk.injEq, Int.ofNat_inj]
  repeat' split
  all_goals simp_all
  rename_i h
  exact (Decidable.em _).elim (fun hc => .inr (.inl (h hc))) (fun hc => .inl hc)
end Go.Proofs.YtcaeppncippknaaGreatDoor
