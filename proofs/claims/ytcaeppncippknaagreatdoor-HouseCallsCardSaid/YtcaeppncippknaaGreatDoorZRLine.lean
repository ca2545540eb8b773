/- hoardref31.Line: a call's line, as house.Line has it. Conditions: a call's texts below 300000 bytes. -/
import Derived.Test.YtcaeppncippknaaGreatDoorZMayA
import Derived.Test.YtcaeppncippknaaGreatDoorZStrs
import Derived.Deep.DeepCutAuto
import Derived.Deep.RegionWith
import Derived.Deep.LoopGhost
namespace Go.Proofs.YtcaeppncippknaaGreatDoor
open Go Go.RowKit

def partS (p : Nat) (c : ACall) : List UInt8 :=
  match p with
  | 1 => hWord c.bucket
  | 2 => hWord c.name
  | 3 => Lib.decDigits c.num
  | 4 => condS c.ck c.cn
  | 5 => hWord c.text
  | 6 => Lib.itoa c.most
  | 7 => hWord c.pre
  | 8 => hWord c.aft
  | 9 => Lib.itoa c.part
  | _ => []
def lineW (h : List UInt8) (c : ACall) : List UInt8 := h.flatMap fun x => 32 :: partS (lp x) c
def lineR (c : ACall) : List UInt8 := (lineX c).2.1 ++ lineW (hasL c.kind) c
theorem joinTail_app (a b : List (List UInt8)) : Lib.joinTail [32] (a ++ b) = Lib.joinTail [32] a ++ Lib.joinTail [32] b := by
  induction a with
  | nil => rfl
  | cons x r _ => simp [Lib.joinTail]
theorem part_tail {f : Nat} (c : ACall) (hf : isPart f) (hk : c.ck ≤ 2) : Lib.joinTail [32] (wrP (pn f) c) = 32 :: partS (pn f) c := by
  have one : ∀ t : List UInt8, Lib.joinTail [32] [t] = 32 :: t := fun t => by simp [Lib.joinTail]
  rcases hf with rfl | rfl | rfl | rfl | rfl | rfl | rfl | rfl | rfl
  case inr.inr.inr.inl =>
    show Lib.joinTail [32] (condOut c.ck c.cn) = 32 :: condS c.ck c.cn
    have h3 : c.ck = 0 ∨ c.ck = 1 ∨ c.ck = 2 := by omega
    unfold condOut condS condW1
    rcases h3 with h | h | h <;> rw [h] <;> simp [Lib.joinTail]
  all_goals exact one _
theorem lineR_eq {c : ACall} (hk : c.ck ≤ 2) : lineR c = joinSp (lineOut c) := by
  unfold lineR joinSp lineOut
  rw [Lib.join_cons]
  congr 1
  have e : lineW (hasL c.kind) c = ((hasL c.kind).map lp).flatMap fun p => 32 :: partS p c := by unfold lineW; rw [List.flatMap_map]
  rw [e, has_parts]
  have hp := lineX_parts c
  generalize (lineX c).2.2 = fs at hp ⊢
  unfold wrAll
  induction fs with
  | nil => rfl
  | cons f fs ih =>
    rw [List.map_cons, List.flatMap_cons, List.flatMap_cons, joinTail_app, part_tail c (hp f (by simp)) hk, ih fun g hg => hp g (by simp [hg])]
theorem condS_length (kd : Nat) {n : Nat} (hn : n < 18446744073709551616) : (condS kd n).length ≤ 30 := by
  have := decDigits_small hn
  unfold condS
  split
  · decide
  · split
    · simp [w_is]; omega
    · decide
theorem partS_length {c : ACall} (hw : c.Wf) (hs : c.Short) (p : Nat) : (partS p c).length ≤ 1000000 := by
  have ht : ∀ t : List UInt8, t.length ≤ 300000 → (hWord t).length ≤ 1000000 := fun t h => by have := hWord_length t; omega
  have h1 := decDigits_small hw.num
  have h2 := condS_length c.ck hw.cn
  have h3 := itoa_small hw.most
  have h4 := itoa_small hw.part
  unfold partS
  split
  all_goals first | exact ht _ hs.bucket | exact ht _ hs.name | exact ht _ hs.text | exact ht _ hs.pre | exact ht _ hs.aft | omega | simp
theorem lineW_succ (h : List UInt8) (c : ACall) {k : Nat} (hk : k < h.length) : lineW (h.take (k + 1)) c = lineW (h.take k) c ++ 32 :: partS (lp h[k]) c := by
  unfold lineW
  rw [List.take_add_one, List.getElem?_eq_getElem hk, List.flatMap_append]
  simp
def ResR (c : ACall) : Value := if mayP c then .tuple #[.string (bs (lineR c)), .int .i64 0] else .tuple #[.string (bs []), .int .i64 2]
theorem may_kind {c : ACall} (h : mayP c = true) : 1 ≤ c.kind ∧ c.kind ≤ 14 := by
  unfold mayP at h
  simp only [Bool.and_eq_true] at h
  have h1 := h.1.1.1.1
  rw [lineK_some] at h1
  simpa using h1
theorem name_at {c : ACall} (h : 1 ≤ c.kind ∧ c.kind ≤ 14) : (nameL.map strV).toArray[c.kind]? = some (.string (bs (lineX c).2.1)) := by
  have hall : ∀ k : Fin 15, 1 ≤ k.val → nameL[k.val]? = some ((kindRows.find? (·.1 == k.val)).getD (0, [], [])).2.1 := by decide
  have h1 := hall ⟨c.kind, by omega⟩ h.1
  have h2 : nameL[c.kind]? = some (lineX c).2.1 := h1
  rw [List.getElem?_toArray, List.getElem?_map, h2]; rfl

set_option maxHeartbeats 16000000 in
set_option maxRecDepth 100000 in
theorem rline_calls (c : ACall) (hwf : c.Wf) (hsh : c.Short) (w : World) : Calls Tryz.prog 14 #[.agg (callCells c)] w fun e w' => e = .returned (ResR c) ∧ Fr [] w w' := by
  have HWF := Lib.hid hwf
  have HSH := Lib.hid hsh
  have HPL : Hid (∀ p, (partS p c).length ≤ 1000000) := partS_length hwf hsh
  have hkd := hwf.kind
  clear hwf hsh
  go_enter Tryz.func14, Tryz.ntmps14
  go_upto_region 1 with fail
  generalize hw1 : w.alloc (.cells (callCells c) 31) = w1
  have HC1 : Hid (w1.heap[w.heap.size]? = some (.cells (callCells c) 31 (0, 0))) := by show _ = _; subst hw1; exact (MapKept.heap_alloc w _).1
  have HF1 : Hid (Fr [] w w1) := by show Fr [] _ _; subst hw1; exact (Fr.refl _ _).alloc _
  clear hw1
  go_wp2_with (refine wpList_load_row (by rfl) 31 (.tmp 1) (by rfl) w.heap.size (by rfl) 31 _ _ _ HC1.out Tryz.underlying31 rfl infoCall ?_)
  refine (rmay_calls c HWF.out w1).mono ?_
  rintro e w2 ⟨rfl, hf2⟩
  have HF2 := Lib.hid (HF1.out.andThen hf2)
  have HC2 := Lib.hid (hf2.blockAs HC1.out (by simp))
  clear hf2 HF1 HC1
  rcases Bool.eq_false_or_eq_true (mayP c) with hm | hm
  rotate_left
  · have HR : Hid (ResR c = .tuple #[.string (bs []), .int .i64 2]) := by show _ = _; unfold ResR; rw [hm]; rfl
    rw [hm]
    clear hm
    go_wp2_with fail
    go_ret2
    exact ⟨by rw [HR.out]; rfl, HF2.out⟩
  have HR : Hid (ResR c = .tuple #[.string (bs (lineR c)), .int .i64 0]) := by show _ = _; unfold ResR; rw [hm]; rfl
  have hkk := may_kind hm
  have HNM := Lib.hid (name_at hkk)
  rw [hm]
  clear hm
  have i0 : (0 : Int) ≤ (c.kind : Int) := by omega
  have i1 : (c.kind : Int) < 15 := by omega
  go_upto_region 3 with fail
  go_cut [4] (fun s4 wx => s4 = .string (bs (lineX c).2.1) ∧ Fr [] w2 wx)
  case first =>
    have d0 := (cells11 HC2.out).1
    go_region_with (first | (go_at_call 38; refine (names_calls _).mono ?_; rintro e w3 ⟨rfl, hw3⟩; have hf3 : Fr [] w2 w3 := (by subst hw3; exact (Fr.refl [] w2).drew.alloc _); have q0 := hf3.cellAs d0 (by simp); have hb3 : w3.heap[w2.heap.size]? = some (.cells (nameL.map strV).toArray 9 (0, 0)) := (by subst hw3; exact (MapKept.heap_alloc w2.drew _).1); have n0 : w3.cell? ⟨w2.heap.size, c.kind, none⟩ = some (.string (bs (lineX c).2.1)) := (by rw [Lib.cell_of_heap hb3]; exact HNM.out); have HF3 := Lib.hid hf3; clear hw3 hf3 hb3))
    all_goals
      go_wp2_with fail
      go_meet
      exact ⟨rfl, HF3.out⟩
  obtain ⟨rfl, hfc⟩ := hcut
  have HFC := Lib.hid (HF2.out.andThen hfc)
  have HCC := Lib.hid (hfc.blockAs HC2.out (by simp))
  clear hfc HF2 HC2 HNM
  obtain ⟨wz, rfl⟩ : ∃ wz : World, wz = wc := ⟨_, rfl⟩
  have d0 := (cells11 HCC.out).1
  go_wp2_with fail
  refine (has_calls c.kind hkd wz).mono ?_
  rintro e w4 ⟨rfl, hf4⟩
  have HF4 := Lib.hid (HFC.out.andThen hf4)
  have HC4 := Lib.hid (hf4.blockAs HCC.out (by simp))
  clear hf4 HFC HCC d0
  have HLR : Hid (lineR c = (lineX c).2.1 ++ lineW (hasL c.kind) c) := rfl
  have hln := hasL_length c.kind
  have HLET := Lib.hid (has_letter c.kind)
  have hwl := lineX_word c
  generalize (lineX c).2.1 = w0 at *
  generalize hasL c.kind = h at *
  have hsz : (bs h).size = h.length := bs_size h
  go_wp2_with fail
  go_loopg [4, 6] h.length (fun g s i wr => ∃ (k : Nat) (acc : List UInt8), k + g = h.length ∧ i = .int .i64 k ∧ s = .string (bs acc) ∧ Fr [] w4 wr ∧ acc.length ≤ 8 + k * 1000001 ∧ Hid (acc = w0 ++ lineW (h.take k) c))
  case atStart => exact ⟨0, w0, by omega, rfl, rfl, Fr.refl _ _, by omega, by show _ = _; simp [lineW]⟩
  case round =>
    obtain ⟨k, acc, hkg, rfl, rfl, hfr, hal, HA⟩ := hrel
    by_cases hlt : k < h.length
    · have HX := Lib.hid (run_index_str hlt)
      have HLK := HLET.out h[k] (List.getElem_mem hlt)
      have HS := Lib.hid (lineW_succ h c hlt)
      generalize h[k] = x at *
      have hC := HC4.out
      obtain ⟨d0, d1, d2, d3, d4, d5, d6, d7, d8, d9, d10⟩ := cells11 (hfr.blockAs HC4.out (by simp))
      have hpl := HPL.out (lp x)
      obtain ⟨s1, H1, n1, a1⟩ := app_ex Tryz.prog acc [32] (by simp; omega)
      obtain ⟨s2, H2, n2, a2⟩ := app_ex Tryz.prog s1 (partS (lp x) c) (by simp at n1; omega)
      have HS2 : Hid (s2 = w0 ++ lineW (h.take (k + 1)) c ∧ s2.length ≤ 8 + (k + 1) * 1000001) := by
        refine ⟨?_, ?_⟩
        · rw [H2.out, H1.out, HA.out, HS.out]; simp
        · simp at n1; rw [n2, n1]; omega
      have HFR := Lib.hid hfr
      have i0 : (0 : Int) ≤ (k : Int) := by omega
      have i1 : (k : Int) < (h.length : Int) := by omega
      clear n1 n2 H1 H2 hC hfr HS hpl
      rcases HLK with rfl | rfl | rfl | rfl | rfl | rfl | rfl | rfl | rfl
      · have hx : ∀ u : World, (Instr.index 9 (.string (bs h)) (.int .i64 (k : Nat))).run Tryz.prog u = .ok (.int .u8 66) u := HX.out
        have a2' : ∀ u : World, (Op.stringOp .add (bs s1) (bs (hWord c.bucket))).run Tryz.prog u = .ok (.string (bs s2)) u := a2
        clear a2
        go_wp2_with fail
        refine (rword_calls c.bucket (by have := HSH.out.bucket; omega) wr).mono ?_
        rintro e w5 ⟨rfl, hf5⟩
        have HF5 := Lib.hid (HFR.out.andThen hf5)
        clear hf5
        go_wp2_with fail
        go_roundg (gk - 1)
        case measure => omega
        case rel => exact ⟨k + 1, s2, by omega, by go_num, rfl, HF5.out, HS2.out.2, HS2.out.1⟩
      · have hx : ∀ u : World, (Instr.index 9 (.string (bs h)) (.int .i64 (k : Nat))).run Tryz.prog u = .ok (.int .u8 78) u := HX.out
        have a2' : ∀ u : World, (Op.stringOp .add (bs s1) (bs (hWord c.name))).run Tryz.prog u = .ok (.string (bs s2)) u := a2
        clear a2
        go_wp2_with fail
        refine (rword_calls c.name (by have := HSH.out.name; omega) wr).mono ?_
        rintro e w5 ⟨rfl, hf5⟩
        have HF5 := Lib.hid (HFR.out.andThen hf5)
        clear hf5
        go_wp2_with fail
        go_roundg (gk - 1)
        case measure => omega
        case rel => exact ⟨k + 1, s2, by omega, by go_num, rfl, HF5.out, HS2.out.2, HS2.out.1⟩
      · have hx : ∀ u : World, (Instr.index 9 (.string (bs h)) (.int .i64 (k : Nat))).run Tryz.prog u = .ok (.int .u8 86) u := HX.out
        have a2' : ∀ u : World, (Op.stringOp .add (bs s1) (bs (Lib.decDigits c.num))).run Tryz.prog u = .ok (.string (bs s2)) u := a2
        clear a2
        go_wp2_with fail
        refine (runum_calls c.num HWF.out.num wr).mono ?_
        rintro e w5 ⟨rfl, hf5⟩
        have HF5 := Lib.hid (HFR.out.andThen hf5)
        clear hf5
        go_wp2_with fail
        go_roundg (gk - 1)
        case measure => omega
        case rel => exact ⟨k + 1, s2, by omega, by go_num, rfl, HF5.out, HS2.out.2, HS2.out.1⟩
      · have hx : ∀ u : World, (Instr.index 9 (.string (bs h)) (.int .i64 (k : Nat))).run Tryz.prog u = .ok (.int .u8 67) u := HX.out
        have a2' : ∀ u : World, (Op.stringOp .add (bs s1) (bs (condS c.ck c.cn))).run Tryz.prog u = .ok (.string (bs s2)) u := a2
        clear a2
        go_wp2_with fail
        refine (rcond_calls c.ck c.cn HWF.out.cn wr).mono ?_
        rintro e w5 ⟨rfl, hf5⟩
        have HF5 := Lib.hid (HFR.out.andThen hf5)
        clear hf5
        go_wp2_with fail
        go_roundg (gk - 1)
        case measure => omega
        case rel => exact ⟨k + 1, s2, by omega, by go_num, rfl, HF5.out, HS2.out.2, HS2.out.1⟩
      · have hx : ∀ u : World, (Instr.index 9 (.string (bs h)) (.int .i64 (k : Nat))).run Tryz.prog u = .ok (.int .u8 84) u := HX.out
        have a2' : ∀ u : World, (Op.stringOp .add (bs s1) (bs (hWord c.text))).run Tryz.prog u = .ok (.string (bs s2)) u := a2
        clear a2
        go_wp2_with fail
        refine (rword_calls c.text (by have := HSH.out.text; omega) wr).mono ?_
        rintro e w5 ⟨rfl, hf5⟩
        have HF5 := Lib.hid (HFR.out.andThen hf5)
        clear hf5
        go_wp2_with fail
        go_roundg (gk - 1)
        case measure => omega
        case rel => exact ⟨k + 1, s2, by omega, by go_num, rfl, HF5.out, HS2.out.2, HS2.out.1⟩
      · have hx : ∀ u : World, (Instr.index 9 (.string (bs h)) (.int .i64 (k : Nat))).run Tryz.prog u = .ok (.int .u8 77) u := HX.out
        have a2' : ∀ u : World, (Op.stringOp .add (bs s1) (bs (Lib.itoa c.most))).run Tryz.prog u = .ok (.string (bs s2)) u := a2
        clear a2
        go_wp2_with fail
        refine (rnum_calls c.most HWF.out.most.1 HWF.out.most.2 wr).mono ?_
        rintro e w5 ⟨rfl, hf5⟩
        have HF5 := Lib.hid (HFR.out.andThen hf5)
        clear hf5
        go_wp2_with fail
        go_roundg (gk - 1)
        case measure => omega
        case rel => exact ⟨k + 1, s2, by omega, by go_num, rfl, HF5.out, HS2.out.2, HS2.out.1⟩
      · have hx : ∀ u : World, (Instr.index 9 (.string (bs h)) (.int .i64 (k : Nat))).run Tryz.prog u = .ok (.int .u8 70) u := HX.out
        have a2' : ∀ u : World, (Op.stringOp .add (bs s1) (bs (hWord c.pre))).run Tryz.prog u = .ok (.string (bs s2)) u := a2
        clear a2
        go_wp2_with fail
        refine (rword_calls c.pre (by have := HSH.out.pre; omega) wr).mono ?_
        rintro e w5 ⟨rfl, hf5⟩
        have HF5 := Lib.hid (HFR.out.andThen hf5)
        clear hf5
        go_wp2_with fail
        go_roundg (gk - 1)
        case measure => omega
        case rel => exact ⟨k + 1, s2, by omega, by go_num, rfl, HF5.out, HS2.out.2, HS2.out.1⟩
      · have hx : ∀ u : World, (Instr.index 9 (.string (bs h)) (.int .i64 (k : Nat))).run Tryz.prog u = .ok (.int .u8 65) u := HX.out
        have a2' : ∀ u : World, (Op.stringOp .add (bs s1) (bs (hWord c.aft))).run Tryz.prog u = .ok (.string (bs s2)) u := a2
        clear a2
        go_wp2_with fail
        refine (rword_calls c.aft (by have := HSH.out.aft; omega) wr).mono ?_
        rintro e w5 ⟨rfl, hf5⟩
        have HF5 := Lib.hid (HFR.out.andThen hf5)
        clear hf5
        go_wp2_with fail
        go_roundg (gk - 1)
        case measure => omega
        case rel => exact ⟨k + 1, s2, by omega, by go_num, rfl, HF5.out, HS2.out.2, HS2.out.1⟩
      · have hx : ∀ u : World, (Instr.index 9 (.string (bs h)) (.int .i64 (k : Nat))).run Tryz.prog u = .ok (.int .u8 80) u := HX.out
        have a2' : ∀ u : World, (Op.stringOp .add (bs s1) (bs (Lib.itoa c.part))).run Tryz.prog u = .ok (.string (bs s2)) u := a2
        clear a2
        go_wp2_with fail
        refine (rnum_calls c.part HWF.out.part.1 HWF.out.part.2 wr).mono ?_
        rintro e w5 ⟨rfl, hf5⟩
        have HF5 := Lib.hid (HFR.out.andThen hf5)
        clear hf5
        go_wp2_with fail
        go_roundg (gk - 1)
        case measure => omega
        case rel => exact ⟨k + 1, s2, by omega, by go_num, rfl, HF5.out, HS2.out.2, HS2.out.1⟩
    · have HE : Hid (acc = lineR c) := by
        show _ = _
        rw [HA.out, HLR.out, List.take_of_length_le (by omega)]
      go_wp2_with fail
      go_ret2
      exact ⟨by rw [HR.out, HE.out]; rfl, HF4.out.andThen hfr⟩
end Go.Proofs.YtcaeppncippknaaGreatDoor
