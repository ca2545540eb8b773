/- HouseCalls answers true for every input, and leaves its arguments as they were: the card. Conditions: the listed package variables hold what the program's text lays (tied). -/
import Derived.Test.YtcaeppncippknaaGreatDoorCards
import Derived.Test.YtcaeppncippknaaGreatDoorTie
import Derived.Test.YtcaeppncippknaaGreatDoorZEnv
import Derived.Test.YtcaeppncippknaaGreatDoorZSayCalls
import Derived.Test.YtcaeppncippknaaGreatDoorZAliveA
import Derived.WalkKit
import Derived.ProofKit
import Derived.OpenShut
import Derived.Lay
import Derived.LaidMore
import Derived.SevenTiedAt
import Derived.Stop.Joined
import Derived.Deep.DeepHandedRow
namespace Go.Proofs.YtcaeppncippknaaGreatDoor
open Go Go.ChangeShapes Go.WideShapes Go.ChangeAt Go.RowKit

theorem own : ownKnob Tryz.prog.godebug = none := by kernel_rfl

theorem calls_laid {W : World} (h : laidMetH Tryz.prog Rows.houseCallsRow.laid W) : laidMetH Tryz.prog laidL W := by
  have e : Rows.houseCallsRow.laid = laidL := by kernel_rfl
  rwa [e] at h
theorem laid_out : laidOutB Tryz.prog = true := by kernel_rfl
theorem calls_readable : ∀ t ∈ [31, 9], Tryz.prog.readableRec t = true ∧ t < Tryz.prog.types.size := by
  have h : ([31, 9].all fun t => Tryz.prog.readableRec t && decide (t < Tryz.prog.types.size)) = true := by kernel_rfl
  intro t ht
  simpa using List.all_eq_true.1 h t ht
set_option maxRecDepth 100000 in
theorem calls_contract (H : Type) (enc : TypeId × Value → H) (W : World) (base : Nat) (args : Array Value) (ds gs : List (DataW H)) (before : List MemPlace)
    (hval : ∀ (j : Nat) t v, Tryz.f4.params[j]? = some t → args[j]? = some v → Value.okWide Tryz.prog W .any base t v)
    (hW : DataW.Whole enc Tryz.prog Tryz.f4.params.toList Rows.houseCallsSpec.vars false W args.toList ds gs before) (hwt : (DataW.weightsEach Tryz.prog Tryz.f4.params.toList ds).all (· ≤ reachBytes) = true) (hL : laidMetH Tryz.prog Rows.houseCallsRow.laid W) (hsh : W.ShapedOpen Tryz.prog) :
    Calls Tryz.prog 4 args W fun e W' => ∃ v, e = .returned v ∧ Rows.houseCallsSpec.post enc Tryz.prog Tryz.f4 false true false false W args v W' := by
  have hW' := hW
  obtain ⟨p, q, hA0, hV, rfl, hfz, hnd⟩ := hW
  have hA : DataW.TrodAll enc Tryz.prog W 0 (fun _ => true) true Tryz.f4.params.toList args.toList ds p := hA0
  rw [Tryz.params4] at hA hval hwt
  have hAll := hA
  obtain ⟨v0, vs0, d0, ds0, p0, q0, hargs, rfl, hp0, h0, r0⟩ := trodAll_cons hA
  obtain ⟨v1, vs1, d1, ds1, p1, q1, hargs1, rfl, hp1, h1, r1⟩ := trodAll_cons r0
  obtain ⟨rfl, rfl, _⟩ := trodAll_nil r1
  subst hargs1
  obtain rfl : args = #[v0, v1] := by cases args; simp_all
  obtain ⟨rfl, rfl⟩ := trodVars_none hV
  obtain ⟨c, rfl, hc⟩ := open_call (hval 0 31 v0 rfl rfl) h0
  obtain ⟨s1, rfl⟩ := okWide_string Tryz.underlying9 (hval 1 9 v1 rfl rfl)
  have henv := env_of_laid (calls_laid hL) hsh
  have hlt : ∀ x ∈ p, x.block < W.heap.size := fun x hx => hW'.lt x (List.mem_append_left _ hx)
  have hb := sayCalls_calls readAt lineAt alive_calls c hc s1.data.toList W henv
  rw [bs_of] at hb
  refine hb.mono fun e W' ⟨he, hf⟩ => ?_
  subst he
  exact ⟨_, rfl, _, _, _, [], p, [], hW', trodAll_cons_mk (shut_bool Tryz.underlying4 _) trodAll_mk0, trodAll_stays laid_out hf.below calls_readable hAll hlt, rfl, hf.below.frame _, fun h => by cases h⟩

def callsArgs : Array Value := #[.agg #[.int .u8 0, .string ⟨#[]⟩, .string ⟨#[]⟩, .int .u64 0, .int .i64 0, .string ⟨#[]⟩, .int .u8 0, .int .u64 0, .string ⟨#[]⟩, .string ⟨#[]⟩, .int .i64 0], .string ⟨#[]⟩]
set_option maxRecDepth 100000 in
theorem calls_lifted (os : Os) (started : os.Started) (H : Type) (enc : TypeId × Value → H) (F : Stop.Interp) :
    ReturnsInHanded {} Tryz.checked os 4 .any ((OpenSpec.ofChange Rows.houseCallsSpec).preRow enc Tryz.prog Tryz.f4 Rows.houseCallsRow.domain false Rows.houseCallsRow.laid) (((OpenSpec.ofChange Rows.houseCallsSpec).at F).post enc Tryz.prog Tryz.f4 false true false false) := by
  refine returnsInHanded_of_row (C := Tryz.checked) (s := OpenSpec.ofChange Rows.houseCallsSpec) own started (by kernel_rfl) Tryz.func4 ?_ ?_
  · have hx : ∃ places, DataW.whole enc Tryz.prog ((World.laidAll Tryz.prog os laidL).forCall (fun _ _ => 0) ⟨#[], callsArgs, []⟩).memory Tryz.f4.params.toList Rows.houseCallsSpec.vars false callsArgs.toList 8 = some ([.agg [.lit (.int .u8 0), .lit (.string []), .lit (.string []), .lit (.int .u64 0), .lit (.int .i64 0), .lit (.string []), .agg [.lit (.int .u8 0), .lit (.int .u64 0)], .lit (.string []), .lit (.string []), .lit (.int .i64 0)], .lit (.string [])], [], places) := ⟨[], by kernel_rfl⟩
    obtain ⟨places, hx⟩ := hx
    exact ⟨World.laidAll Tryz.prog os laidL, fun _ _ => 0, ⟨#[], callsArgs, []⟩, World.laidAll_os _ _ _, World.shaped_of_ZipB (by kernel_rfl) (by kernel_rfl), rfl, (Input.okWide_of_okWideB (by kernel_rfl)).2,
      OpenSpec.preRow_of_cond 8 hx (by kernel_rfl) (fun k hk => by cases hk) (by kernel_rfl) (by rw [MakeChecks.laidMetH_plain _ _ _ (by kernel_rfl)]; exact laidMet_laidAll (laid := laidL) _ (by kernel_rfl) (by kernel_rfl)), by simp [Assume.holds]⟩
  · intro W base args ds gs before hval hW _ _ hwt hL hsh _
    refine calls_contract H enc W base args ds gs before hval hW ?_ hL hsh
    obtain ⟨_, _, _, hV, _⟩ := hW
    obtain ⟨rfl, _⟩ := trodVars_none hV
    have e : (OpenSpec.ofChange Rows.houseCallsSpec).bare.plain.varTypes Tryz.checked.prog = [] := rfl
    rw [e, List.append_nil, List.append_nil] at hwt
    exact hwt

theorem calls_said : Rows.HouseCallsSaid :=
  OpenClaim.holds_of_cond 4 Tryz.f4 rfl rfl rfl rfl rfl rfl rfl ⟨rfl, rfl, rfl, rfl, rfl⟩ rfl rfl rfl rfl rfl (by kernel_rfl) Tryz.func4 (by kernel_rfl)
    (of_decide_eq_true (by kernel_rfl)) (by unfold Func.isWrapper; first | (rw [if_pos (by decide +kernel)]; kernel_rfl) | (rw [if_neg (by decide +kernel)]; exact ⟨rfl, rfl⟩))
    (fun os started H enc _ F => by rw [OpenClaim.pre_eq_preRow]; exact calls_lifted os started H enc F)

theorem calls_plain (f : FuncId) (fn : Func) (hf : Tryz.pinned.checked.prog.funcNamed "hoard/hoardlaw31.HouseCalls" = some f) (hfn : Tryz.pinned.checked.prog.funcs[f]? = some fn) :
    true = Tryz.pinned.checked.prog.looks [] ∧ ∀ (j : Nat) t, fn.params[j]? = some t → Tryz.pinned.checked.prog.wantsStandIn t = false := by
  obtain rfl : f = 4 := Option.some.inj ((show Tryz.prog.funcNamed "hoard/hoardlaw31.HouseCalls" = some 4 by kernel_rfl).symm.trans hf) |>.symm
  obtain rfl : fn = Tryz.f4 := (Option.some.inj (Tryz.func4.symm.trans hfn)).symm
  refine ⟨by kernel_rfl, fun j t ht => ?_⟩
  rw [Tryz.params4] at ht
  have hm : t ∈ [31, 9] := by simpa using Array.mem_of_getElem? ht
  have hall : ([31, 9].all fun u => !Tryz.prog.wantsStandIn u) = true := by kernel_rfl
  exact (show Tryz.prog.wantsStandIn t = false by simpa using List.all_eq_true.1 hall t hm)

theorem calls_card : Rows.HouseCallsCardSaid :=
  Claim7.holds_tied_plain_at .later [] _ _ _ _ calls_said (fun _ h => by cases h) (by kernel_rfl) (fun _ h => by cases h) houseCalls_row_tie rfl ⟨rfl, rfl⟩ (by kernel_rfl) rfl calls_plain (by kernel_rfl)
#print axioms calls_card
end Go.Proofs.YtcaeppncippknaaGreatDoor
