/- HouseLong answers true for every input, and leaves its arguments as they were: the card. Conditions: the listed package variables hold what the program's text lays (tied). -/
import Derived.Test.YtcaeppncippknaaDoorCards
import Derived.Test.YtcaeppncippknaaDoorTie
import Derived.Test.YtcaeppncippknaaDoorEnv
import Derived.Test.YtcaeppncippknaaDoorLong
import Derived.Test.YtcaeppncippknaaDoorAlive
import Derived.WalkKit
import Derived.ProofKit
import Derived.OpenShut
import Derived.Lay
import Derived.LaidMore
import Derived.SevenTiedAt
import Derived.Stop.Joined
import Derived.Deep.DeepHandedRow
namespace Go.Proofs.YtcaeppncippknaaDoor
open Go Go.ChangeShapes Go.WideShapes Go.ChangeAt Go.RowKit

theorem own : ownKnob Tryd.prog.godebug = none := by kernel_rfl

theorem long_laid {W : World} (h : laidMetH Tryd.prog Rows.houseLongRow.laid W) : laidMetH Tryd.prog laidL W := by
  have e : Rows.houseLongRow.laid = laidL := by kernel_rfl
  rwa [e] at h
set_option maxRecDepth 100000 in
theorem long_contract (H : Type) (enc : TypeId × Value → H) (W : World) (base : Nat) (args : Array Value) (ds gs : List (DataW H)) (before : List MemPlace)
    (hval : ∀ (j : Nat) t v, Tryd.f3.params[j]? = some t → args[j]? = some v → Value.okWide Tryd.prog W .any base t v)
    (hW : DataW.Whole enc Tryd.prog Tryd.f3.params.toList Rows.houseLongSpec.vars false W args.toList ds gs before) (hL : laidMetH Tryd.prog Rows.houseLongRow.laid W) (hsh : W.ShapedOpen Tryd.prog) :
    Calls Tryd.prog 3 args W fun e W' => ∃ v, e = .returned v ∧ Rows.houseLongSpec.post enc Tryd.prog Tryd.f3 false true false false W args v W' := by
  have hW' := hW
  obtain ⟨p, q, hA0, hV, rfl, hfz, hnd⟩ := hW
  have hA : DataW.TrodAll enc Tryd.prog W 0 (fun _ => true) true Tryd.f3.params.toList args.toList ds p := hA0
  rw [Tryd.params3] at hA hval
  obtain ⟨v0, vs0, d0, ds0, p0, q0, hargs, rfl, rfl, h0, r0⟩ := trodAll_cons hA
  obtain ⟨v1, vs1, d1, ds1, p1, q1, hargs1, rfl, rfl, h1, r1⟩ := trodAll_cons r0
  obtain ⟨rfl, rfl, rfl⟩ := trodAll_nil r1
  subst hargs1
  obtain rfl : args = #[v0, v1] := by cases args; simp_all
  obtain ⟨rfl, rfl⟩ := trodVars_none hV
  obtain ⟨o, rfl, rfl, rfl, w0⟩ := open_int Tryd.underlying22 (hval 0 22 v0 rfl rfl) h0
  obtain ⟨odd, rfl, rfl, rfl⟩ := open_bool Tryd.underlying4 (hval 1 4 v1 rfl rfl) h1
  clear hA0
  simp only [List.append_nil] at hW'
  have ho : -128 ≤ o ∧ o ≤ 127 := by simpa [Lit.wf, IntKind.min, IntKind.max, IntKind.signed, IntKind.bits] using w0
  refine (long_calls readAt lineAt alive_calls o odd ho.1 ho.2 W (env_of_laid (long_laid hL) hsh)).mono fun e W' ⟨he, hf⟩ => ?_
  subst he
  exact ⟨_, rfl, _, _, _, [], [], [], hW', trodAll_cons_mk (shut_bool Tryd.underlying4 _) trodAll_mk0, trodAll_cons_mk (shut_int Tryd.underlying22 w0) (trodAll_cons_mk (shut_bool Tryd.underlying4 _) trodAll_mk0), rfl, hf.below.frame _, fun h => by cases h⟩

set_option maxRecDepth 100000 in
theorem long_lifted (os : Os) (started : os.Started) (H : Type) (enc : TypeId × Value → H) (F : Stop.Interp) :
    ReturnsInHanded {} Tryd.checked os 3 .any ((OpenSpec.ofChange Rows.houseLongSpec).preRow enc Tryd.prog Tryd.f3 Rows.houseLongRow.domain false Rows.houseLongRow.laid) (((OpenSpec.ofChange Rows.houseLongSpec).at F).post enc Tryd.prog Tryd.f3 false true false false) := by
  refine returnsInHanded_of_row (C := Tryd.checked) (s := OpenSpec.ofChange Rows.houseLongSpec) own started (by kernel_rfl) Tryd.func3 ?_ ?_
  · have hx : ∃ places, DataW.whole enc Tryd.prog ((World.laidAll Tryd.prog os laidL).forCall (fun _ _ => 0) ⟨#[], #[.int .i8 0, .bool false], []⟩).memory Tryd.f3.params.toList Rows.houseLongSpec.vars false #[Value.int .i8 0, Value.bool false].toList 8 = some ([.lit (.int .i8 0), .lit (.bool false)], [], places) := ⟨[], by kernel_rfl⟩
    obtain ⟨places, hx⟩ := hx
    exact ⟨World.laidAll Tryd.prog os laidL, fun _ _ => 0, ⟨#[], #[.int .i8 0, .bool false], []⟩, World.laidAll_os _ _ _, World.shaped_of_ZipB (by kernel_rfl) (by kernel_rfl), rfl, (Input.okWide_of_okWideB (by kernel_rfl)).2,
      OpenSpec.preRow_of_cond 8 hx (by kernel_rfl) (fun k hk => by cases hk) (by kernel_rfl) (by rw [MakeChecks.laidMetH_plain _ _ _ (by kernel_rfl)]; exact laidMet_laidAll (laid := laidL) _ (by kernel_rfl) (by kernel_rfl)), by simp [Assume.holds]⟩
  · intro W base args ds gs before hval hW _ _ _ hL hsh _
    exact long_contract H enc W base args ds gs before hval hW hL hsh

theorem long_said : Rows.HouseLongSaid :=
  OpenClaim.holds_of_cond 3 Tryd.f3 rfl rfl rfl rfl rfl rfl rfl ⟨rfl, rfl, rfl, rfl, rfl⟩ rfl rfl rfl rfl rfl (by kernel_rfl) Tryd.func3 (by kernel_rfl)
    (of_decide_eq_true (by kernel_rfl)) (by unfold Func.isWrapper; first | (rw [if_pos (by decide +kernel)]; kernel_rfl) | (rw [if_neg (by decide +kernel)]; exact ⟨rfl, rfl⟩))
    (fun os started H enc _ F => by rw [OpenClaim.pre_eq_preRow]; exact long_lifted os started H enc F)

theorem long_plain (f : FuncId) (fn : Func) (hf : Tryd.pinned.checked.prog.funcNamed "hoard/hoardlaw31.HouseLong" = some f) (hfn : Tryd.pinned.checked.prog.funcs[f]? = some fn) :
    true = Tryd.pinned.checked.prog.looks [] ∧ ∀ (j : Nat) t, fn.params[j]? = some t → Tryd.pinned.checked.prog.wantsStandIn t = false := by
  obtain rfl : f = 3 := Option.some.inj ((show Tryd.prog.funcNamed "hoard/hoardlaw31.HouseLong" = some 3 by kernel_rfl).symm.trans hf) |>.symm
  obtain rfl : fn = Tryd.f3 := (Option.some.inj (Tryd.func3.symm.trans hfn)).symm
  refine ⟨by kernel_rfl, fun j t ht => ?_⟩
  rw [Tryd.params3] at ht
  have hm : t ∈ [22, 4] := by simpa using Array.mem_of_getElem? ht
  have hall : ([22, 4].all fun u => !Tryd.prog.wantsStandIn u) = true := by kernel_rfl
  exact (show Tryd.prog.wantsStandIn t = false by simpa using List.all_eq_true.1 hall t hm)

theorem long_card : Rows.HouseLongCardSaid :=
  Claim7.holds_tied_plain_at .later [] _ _ _ _ long_said (fun _ h => by cases h) (by kernel_rfl) (fun _ h => by cases h) houseLong_row_tie rfl ⟨rfl, rfl⟩ (by kernel_rfl) rfl long_plain (by kernel_rfl)
#print axioms long_card
end Go.Proofs.YtcaeppncippknaaDoor
