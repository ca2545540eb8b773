/- HouseBack answers true for every input, and leaves its arguments as they were: the card. Conditions: the listed package variables hold what the program's text lays (tied). -/
import Derived.Test.YtcaeppncippknaaGreatDoorCards
import Derived.Test.YtcaeppncippknaaGreatDoorTie
import Derived.Test.YtcaeppncippknaaGreatDoorEnv
import Derived.Test.YtcaeppncippknaaGreatDoorBack
import Derived.Test.YtcaeppncippknaaGreatDoorAlive
import Derived.WalkKit
import Derived.ProofKit
import Derived.OpenShut
import Derived.Lay
import Derived.LaidMore
import Derived.SevenTiedAt
import Derived.Stop.Joined
import Derived.Deep.DeepHandedRow
namespace Go.Proofs.YtcaeppncippknaaGreatDoor
open Go Go.ChangeShapes Go.WideShapes Go.ChangeAt Go.RowKit

theorem own : ownKnob Tryz.prog.godebug = none := by kernel_rfl

theorem back_laid {W : World} (h : laidMetH Tryz.prog Rows.houseBackRow.laid W) : laidMetH Tryz.prog laidL W := by
  have e : Rows.houseBackRow.laid = laidL := by kernel_rfl
  rwa [e] at h
theorem laid_out : laidOutB Tryz.prog = true := by kernel_rfl
theorem back_readable : ∀ t ∈ [31, 31, 47, 47, 5], Tryz.prog.readableRec t = true ∧ t < Tryz.prog.types.size := by
  have h : ([31, 31, 47, 47, 5].all fun t => Tryz.prog.readableRec t && decide (t < Tryz.prog.types.size)) = true := by kernel_rfl
  intro t ht
  simpa using List.all_eq_true.1 h t ht
set_option maxRecDepth 100000 in
theorem back_contract (H : Type) (enc : TypeId × Value → H) (W : World) (base : Nat) (args : Array Value) (ds gs : List (DataW H)) (before : List MemPlace)
    (hval : ∀ (j : Nat) t v, Tryz.f6.params[j]? = some t → args[j]? = some v → Value.okWide Tryz.prog W .any base t v)
    (hW : DataW.Whole enc Tryz.prog Tryz.f6.params.toList Rows.houseBackSpec.vars false W args.toList ds gs before) (hwt : (DataW.weightsEach Tryz.prog Tryz.f6.params.toList ds).all (· ≤ reachBytes) = true) (hL : laidMetH Tryz.prog Rows.houseBackRow.laid W) (hsh : W.ShapedOpen Tryz.prog) :
    Calls Tryz.prog 6 args W fun e W' => ∃ v, e = .returned v ∧ Rows.houseBackSpec.post enc Tryz.prog Tryz.f6 false true false false W args v W' := by
  have hW' := hW
  obtain ⟨p, q, hA0, hV, rfl, hfz, hnd⟩ := hW
  have hA : DataW.TrodAll enc Tryz.prog W 0 (fun _ => true) true Tryz.f6.params.toList args.toList ds p := hA0
  rw [Tryz.params6] at hA hval hwt
  have hAll := hA
  obtain ⟨v0, vs0, d0, ds0, p0, q0, hargs, rfl, hp0, h0, r0⟩ := trodAll_cons hA
  obtain ⟨v1, vs1, d1, ds1, p1, q1, hargs1, rfl, hp1, h1, r1⟩ := trodAll_cons r0
  obtain ⟨v2, vs2, d2, ds2, p2, q2, hargs2, rfl, hp2, h2, r2⟩ := trodAll_cons r1
  obtain ⟨v3, vs3, d3, ds3, p3, q3, hargs3, rfl, hp3, h3, r3⟩ := trodAll_cons r2
  obtain ⟨v4, vs4, d4, ds4, p4, q4, hargs4, rfl, hp4, h4, r4⟩ := trodAll_cons r3
  obtain ⟨rfl, rfl, _⟩ := trodAll_nil r4
  subst hargs4 hargs3 hargs2 hargs1
  obtain rfl : args = #[v0, v1, v2, v3, v4] := by cases args; simp_all
  obtain ⟨rfl, rfl⟩ := trodVars_none hV
  simp only [DataW.weightsEach, List.all_append, Bool.and_eq_true] at hwt
  obtain ⟨_, _, hw2, hw3, _⟩ := hwt
  obtain ⟨c, rfl, hc⟩ := open_call (hval 0 31 v0 rfl rfl) h0
  obtain ⟨d, rfl, hd⟩ := open_call (hval 1 31 v1 rfl rfl) h1
  obtain ⟨a, iva, ba, rfl, hia, ha⟩ := open_answer (hval 2 47 v2 rfl rfl) h2 hw2
  obtain ⟨b, ivb, bb, rfl, hib, hb⟩ := open_answer (hval 3 47 v3 rfl rfl) h3 hw3
  obtain ⟨bl, rfl, _, _, w4⟩ := open_int Tryz.underlying5 (hval 4 5 v4 rfl rfl) h4
  obtain ⟨n4, rfl, b4⟩ := wf_u8 w4
  have hlt : ∀ x ∈ p, x.block < W.heap.size := fun x hx => hW'.lt x (List.mem_append_left _ hx)
  refine (back_calls readAt lineAt alive_calls c d a b iva ivb ba bb n4 b4 hc hd ha hb W (env_of_laid (back_laid hL) hsh) hia hib).mono fun e W' ⟨he, hf⟩ => ?_
  subst he
  exact ⟨_, rfl, _, _, _, [], p, [], hW', trodAll_cons_mk (shut_bool Tryz.underlying4 _) trodAll_mk0, trodAll_stays laid_out hf.below back_readable hAll hlt, rfl, hf.below.frame _, fun h => by cases h⟩

def backArgs : Array Value := #[.agg #[.int .u8 0, .string ⟨#[]⟩, .string ⟨#[]⟩, .int .u64 0, .int .i64 0, .string ⟨#[]⟩, .int .u8 0, .int .u64 0, .string ⟨#[]⟩, .string ⟨#[]⟩, .int .i64 0], .agg #[.int .u8 0, .string ⟨#[]⟩, .string ⟨#[]⟩, .int .u64 0, .int .i64 0, .string ⟨#[]⟩, .int .u8 0, .int .u64 0, .string ⟨#[]⟩, .string ⟨#[]⟩, .int .i64 0], .agg #[.int .i64 0, .int .u64 0, .string ⟨#[]⟩, .slice none 0 0, .bool false], .agg #[.int .i64 0, .int .u64 0, .string ⟨#[]⟩, .slice none 0 0, .bool false], .int .u8 0]
set_option maxRecDepth 100000 in
theorem back_lifted (os : Os) (started : os.Started) (H : Type) (enc : TypeId × Value → H) (F : Stop.Interp) :
    ReturnsInHanded {} Tryz.checked os 6 .any ((OpenSpec.ofChange Rows.houseBackSpec).preRow enc Tryz.prog Tryz.f6 Rows.houseBackRow.domain false Rows.houseBackRow.laid) (((OpenSpec.ofChange Rows.houseBackSpec).at F).post enc Tryz.prog Tryz.f6 false true false false) := by
  refine returnsInHanded_of_row (C := Tryz.checked) (s := OpenSpec.ofChange Rows.houseBackSpec) own started (by kernel_rfl) Tryz.func6 ?_ ?_
  · have hx : ∃ places, DataW.whole enc Tryz.prog ((World.laidAll Tryz.prog os laidL).forCall (fun _ _ => 0) ⟨#[], backArgs, []⟩).memory Tryz.f6.params.toList Rows.houseBackSpec.vars false backArgs.toList 8 = some ([.agg [.lit (.int .u8 0), .lit (.string []), .lit (.string []), .lit (.int .u64 0), .lit (.int .i64 0), .lit (.string []), .agg [.lit (.int .u8 0), .lit (.int .u64 0)], .lit (.string []), .lit (.string []), .lit (.int .i64 0)], .agg [.lit (.int .u8 0), .lit (.string []), .lit (.string []), .lit (.int .u64 0), .lit (.int .i64 0), .lit (.string []), .agg [.lit (.int .u8 0), .lit (.int .u64 0)], .lit (.string []), .lit (.string []), .lit (.int .i64 0)], .agg [.lit (.int .i64 0), .lit (.int .u64 0), .lit (.string []), .agg [.nil, .lit (.bool false)]], .agg [.lit (.int .i64 0), .lit (.int .u64 0), .lit (.string []), .agg [.nil, .lit (.bool false)]], .lit (.int .u8 0)], [], places) := ⟨[], by kernel_rfl⟩
    obtain ⟨places, hx⟩ := hx
    exact ⟨World.laidAll Tryz.prog os laidL, fun _ _ => 0, ⟨#[], backArgs, []⟩, World.laidAll_os _ _ _, World.shaped_of_ZipB (by kernel_rfl) (by kernel_rfl), rfl, (Input.okWide_of_okWideB (by kernel_rfl)).2,
      OpenSpec.preRow_of_cond 8 hx (by kernel_rfl) (fun k hk => by cases hk) (by kernel_rfl) (by rw [MakeChecks.laidMetH_plain _ _ _ (by kernel_rfl)]; exact laidMet_laidAll (laid := laidL) _ (by kernel_rfl) (by kernel_rfl)), by simp [Assume.holds]⟩
  · intro W base args ds gs before hval hW _ _ hwt hL hsh _
    refine back_contract H enc W base args ds gs before hval hW ?_ hL hsh
    obtain ⟨_, _, _, hV, _⟩ := hW
    obtain ⟨rfl, _⟩ := trodVars_none hV
    have e : (OpenSpec.ofChange Rows.houseBackSpec).bare.plain.varTypes Tryz.checked.prog = [] := rfl
    rw [e, List.append_nil, List.append_nil] at hwt
    exact hwt

theorem back_said : Rows.HouseBackSaid :=
  OpenClaim.holds_of_cond 6 Tryz.f6 rfl rfl rfl rfl rfl rfl rfl ⟨rfl, rfl, rfl, rfl, rfl⟩ rfl rfl rfl rfl rfl (by kernel_rfl) Tryz.func6 (by kernel_rfl)
    (of_decide_eq_true (by kernel_rfl)) (by unfold Func.isWrapper; first | (rw [if_pos (by decide +kernel)]; kernel_rfl) | (rw [if_neg (by decide +kernel)]; exact ⟨rfl, rfl⟩))
    (fun os started H enc _ F => by rw [OpenClaim.pre_eq_preRow]; exact back_lifted os started H enc F)

theorem back_plain (f : FuncId) (fn : Func) (hf : Tryz.pinned.checked.prog.funcNamed "hoard/hoardlaw31.HouseBack" = some f) (hfn : Tryz.pinned.checked.prog.funcs[f]? = some fn) :
    true = Tryz.pinned.checked.prog.looks [] ∧ ∀ (j : Nat) t, fn.params[j]? = some t → Tryz.pinned.checked.prog.wantsStandIn t = false := by
  obtain rfl : f = 6 := Option.some.inj ((show Tryz.prog.funcNamed "hoard/hoardlaw31.HouseBack" = some 6 by kernel_rfl).symm.trans hf) |>.symm
  obtain rfl : fn = Tryz.f6 := (Option.some.inj (Tryz.func6.symm.trans hfn)).symm
  refine ⟨by kernel_rfl, fun j t ht => ?_⟩
  rw [Tryz.params6] at ht
  have hm : t ∈ [31, 31, 47, 47, 5] := by simpa using Array.mem_of_getElem? ht
  have hall : ([31, 31, 47, 47, 5].all fun u => !Tryz.prog.wantsStandIn u) = true := by kernel_rfl
  exact (show Tryz.prog.wantsStandIn t = false by simpa using List.all_eq_true.1 hall t hm)

theorem back_card : Rows.HouseBackCardSaid :=
  Claim7.holds_tied_plain_at .later [] _ _ _ _ back_said (fun _ h => by cases h) (by kernel_rfl) (fun _ h => by cases h) houseBack_row_tie rfl ⟨rfl, rfl⟩ (by kernel_rfl) rfl back_plain (by kernel_rfl)
#print axioms back_card
end Go.Proofs.YtcaeppncippknaaGreatDoor
