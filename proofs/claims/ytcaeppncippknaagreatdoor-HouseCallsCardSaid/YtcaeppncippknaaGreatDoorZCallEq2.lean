/- Two calls held against each other: ==. Conditions: none. -/
import Derived.Test.YtcaeppncippknaaGreatDoorZRead0A
namespace Go.Proofs.YtcaeppncippknaaGreatDoor
open Go Go.RowKit

theorem eqlCall (a b : ACall) (w : World) : (binOp .eql 31 (.agg (callCells a)) (.agg (callCells b))).run Tryz.prog w = .ok (.bool (decide (a = b))) w := by
  have h := neqCall a b w
  rw [run_neq_struct] at h
  rw [run_eql_struct]
  revert h
  generalize (Op.equalIn 10000 31 (.agg (callCells a)) (.agg (callCells b))).run Tryz.prog w = r
  intro h
  cases r with
  | ok x w' =>
    simp only [Result.andThen, Result.ok.injEq, Value.bool.injEq] at h ⊢
    obtain ⟨h1, h2⟩ := h
    refine ⟨?_, h2⟩
    cases x <;> cases hd : decide (a = b) <;> simp_all
  | _ => simp [Result.andThen] at h
end Go.Proofs.YtcaeppncippknaaGreatDoor
