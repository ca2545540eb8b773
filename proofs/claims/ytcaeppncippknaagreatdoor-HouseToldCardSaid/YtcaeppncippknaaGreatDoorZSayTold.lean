/- hoardlaw31.HouseTold: true, whatever the input. Conditions: the package variables' facts (Env), and lengths below 2^47. -/
import Derived.Test.YtcaeppncippknaaGreatDoorZRAnsA
import Derived.Test.YtcaeppncippknaaGreatDoorZAns0
import Derived.Test.YtcaeppncippknaaGreatDoorZAnswer
import Derived.Test.YtcaeppncippknaaGreatDoorZAnswers
import Derived.Test.YtcaeppncippknaaGreatDoorZGuardA
import Derived.Test.YtcaeppncippknaaGreatDoorZRTold
import Derived.Test.YtcaeppncippknaaGreatDoorZSame
import Derived.Test.YtcaeppncippknaaGreatDoorZOpenA
import Derived.Test.YtcaeppncippknaaGreatDoorZNumA
import Derived.Deep.DeepCutAuto
import Derived.Deep.RegionHeld3
namespace Go.Proofs.YtcaeppncippknaaGreatDoor
open Go Go.RowKit

theorem mem_wf {a : AAns} (h : a.Mem) (hw : wideP a = false) : a.Wf := by
  obtain ⟨h1, h2, h3⟩ := wide_no hw
  exact ⟨h.code, h.n, by omega, by omega, fun x hx => ⟨by have := h3 x hx; omega, (h.items x hx).2.1, (h.items x hx).2.2⟩⟩
theorem ans5 {w : World} {g : Nat} {a : AAns} {iv : Value} (h : w.heap[g]? = some (.cells (ansCells a iv) 47 (0, 0))) :
    w.cell? ⟨g, 0, none⟩ = some (.int .i64 a.code) ∧ w.cell? ⟨g, 1, none⟩ = some (.int .u64 (a.n : Nat)) ∧ w.cell? ⟨g, 2, none⟩ = some (strV a.text) ∧ w.cell? ⟨g, 3, none⟩ = some iv ∧ w.cell? ⟨g, 4, none⟩ = some (.bool a.more) := by
  refine ⟨?_, ?_, ?_, ?_, ?_⟩
  all_goals
    rw [Lib.cell_of_heap h]
    rfl
theorem items_one {w : World} {b : Nat} {v : Value} {a : AAns} (h : ItemsIn w b v a.items) : (ansCells a v).all (·.oneCell') = true := by
  obtain ⟨p, c, o, hv, _⟩ := h
  rw [hv]; exact ansCells_one _ _ _ _

set_option maxHeartbeats 16000000 in
set_option maxRecDepth 100000 in
theorem sayTold_calls (halive : AliveAt) (a : AAns) (iva : Value) (ba : Nat) (ha : a.Mem) (v : Value) (l : List (List UInt8)) (b : Nat) (w : World) (henv : Env w) (hia : ItemsIn w ba iva a.items) (hin : StrsIn w b v l) (hb : b < w.heap.size)
    (hl : l.length ≤ 140737488355328) (hn : ∀ x ∈ l, x.length ≤ 140737488355328) :
    Calls Tryz.prog 5 #[.agg (ansCells a iva), v] w fun e w' => e = .returned (.bool true) ∧ Fr [] w w' := by
  have HENV := Lib.hid henv
  have HALIVE := Lib.hid halive
  have HIA := Lib.hid hia
  have HIN := Lib.hid hin
  have HN := Lib.hid hn
  have ALIVE : Hid (∀ u : World, Fr [] w u → Calls Tryz.prog 7 #[] u fun e w' => e = .returned (.bool true) ∧ Fr [] w w') :=
    fun u hu => (HALIVE.out u (HENV.out.fr hu (by simp))).mono fun e w' ⟨h1, h2⟩ => ⟨h1, hu.andThen h2⟩
  clear henv halive hia hin hn
  go_enter Tryz.func5, Tryz.ntmps5
  go_upto_region 1 with fail
  generalize hw1 : w.alloc (.cells (ansCells a iva) 47) = w1
  have HA1 : Hid (w1.heap[w.heap.size]? = some (.cells (ansCells a iva) 47 (0, 0))) := by show _ = _; subst hw1; exact (MapKept.heap_alloc w _).1
  have HF1 : Hid (Fr [] w w1) := by show Fr [] _ _; subst hw1; exact (Fr.refl _ _).alloc _
  clear hw1
  go_wp2_with (refine wpList_load_row (by rfl) 47 (.tmp 2) (by rfl) w.heap.size (by rfl) 47 _ _ _ HA1.out Tryz.underlying47 rfl infoAns ?_)
  refine (wide_calls a iva ba w1 (HIA.out.fr HF1.out (by simp)) ha.text ha.few (fun x hx => (ha.items x hx).1)).mono ?_
  rintro e w2 ⟨rfl, hf2⟩
  have HF2 := Lib.hid (HF1.out.andThen hf2)
  have HA2 := Lib.hid (hf2.blockAs HA1.out (by simp))
  clear hf2 HF1 HA1
  rcases Bool.eq_false_or_eq_true (wideP a) with hwa | hwa
  · rw [hwa]
    clear hwa
    go_wp2_with fail
    refine (ALIVE.out w2 HF2.out).mono ?_
    rintro e w3 ⟨rfl, hf3⟩
    go_wp2_with fail
    go_ret
    exact ⟨rfl, hf3⟩
  rw [hwa]
  have HWF := Lib.hid (mem_wf ha hwa)
  clear hwa ha
  go_wp2_with fail
  refine (lines_calls v l b w2 (HIN.out.fr HF2.out (by simp)) hl HN.out).mono ?_
  rintro e w3 ⟨rfl, rfl⟩
  rcases Bool.eq_false_or_eq_true (linesP l) with hwl | hwl
  · rw [hwl]
    clear hwl
    go_wp2_with fail
    refine (ALIVE.out w2 HF2.out).mono ?_
    rintro e w3 ⟨rfl, hf3⟩
    go_wp2_with fail
    go_ret
    exact ⟨rfl, hf3⟩
  rw [hwl]
  obtain ⟨hl1, hl2⟩ := lines_no hwl
  have HL2 : Hid (∀ x ∈ l, x.length ≤ 1048576) := fun x hx => Nat.le_trans (hl2 x hx) (by decide)
  have HAN := Lib.hid (aR_eq (l := l) HL2.out (by omega))
  clear hwl hl2 HN
  go_wp2_with fail
  refine (answer_calls b v l w2 (HENV.out.fr HF2.out (by simp)) (HIN.out.fr HF2.out (by simp)) (by omega) HL2.out).mono ?_
  rintro e w4 ⟨xv, rfl, ⟨xb, hxb⟩, hf4⟩
  have hxone := items_one hxb
  have HXB := Lib.hid hxb
  have HF4 := Lib.hid (HF2.out.andThen hf4)
  have HA4 := Lib.hid (hf4.blockAs HA2.out (by simp))
  clear hxb hf4 HF2 HA2
  generalize hxe : (ansP l).1 = x at *
  generalize hze : (if (ansP l).2 then (0 : Int) else 310) = z at *
  have HXE := Lib.hid hxe
  have HZE := Lib.hid hze
  clear hxe hze
  go_upto_region 4 with (refine wpList_store_row (by rfl) 47 (.tmp 5) (.tmp 19) (by rfl) w4.heap.size (ansCells x xv) (by rfl) (by rfl) 47 _ (MapKept.heap_alloc w4 _).1 infoAns rfl hxone ?_)
  generalize hw5 : (w4.alloc _).setRow w4.heap.size (ansCells x xv) = w5
  have HX5 : Hid (w5.heap[w4.heap.size]? = some (.cells (ansCells x xv) 47 (0, 0))) := by show _ = _; subst hw5; exact setRow_heap _ _ _ _ _ _ (MapKept.heap_alloc w4 _).1
  have hf5 : Fr [] w4 w5 := by subst hw5; exact ((Fr.refl _ _).alloc _).setRow (fun h => absurd h (by omega)) _
  have HF5 := Lib.hid (HF4.out.andThen hf5)
  have HA5 := Lib.hid (hf5.blockAs HA4.out (by simp))
  have HXB5 := Lib.hid (HXB.out.fr hf5 (by simp))
  clear hw5 hf5 HF4 HA4 HXB hxone
  generalize w4.heap.size = X at *
  go_wp2_with fail
  refine (rans_calls b v l w5 (HIN.out.fr HF5.out (by simp)) (by have := HF5.out.size; omega) (by omega) HL2.out).mono ?_
  rintro e w6 ⟨yv, he, ⟨yb, hyb⟩, hf6⟩
  rw [HAN.out, HXE.out, HZE.out] at he
  rw [HAN.out, HXE.out] at hyb
  subst he
  have hyone := items_one hyb
  have HYB := Lib.hid hyb
  have HF6 := Lib.hid (HF5.out.andThen hf6)
  have HA6 := Lib.hid (hf6.blockAs HA5.out (by simp))
  have HX6 := Lib.hid (hf6.blockAs HX5.out (by simp))
  have HXB6 := Lib.hid (HXB5.out.fr hf6 (by simp))
  clear hyb hf6 HF5 HA5 HX5 HXB5
  go_upto_region 5 with (refine wpList_store_row (by rfl) 47 (.tmp 7) (.tmp 24) (by rfl) w6.heap.size (ansCells x yv) (by rfl) (by rfl) 47 _ (MapKept.heap_alloc w6 _).1 infoAns rfl hyone ?_)
  generalize hw7 : (w6.alloc _).setRow w6.heap.size (ansCells x yv) = w7
  have HY7 : Hid (w7.heap[w6.heap.size]? = some (.cells (ansCells x yv) 47 (0, 0))) := by show _ = _; subst hw7; exact setRow_heap _ _ _ _ _ _ (MapKept.heap_alloc w6 _).1
  have hf7 : Fr [] w6 w7 := by subst hw7; exact ((Fr.refl _ _).alloc _).setRow (fun h => absurd h (by omega)) _
  have HF7 := Lib.hid (HF6.out.andThen hf7)
  have HA7 := Lib.hid (hf7.blockAs HA6.out (by simp))
  have HX7 := Lib.hid (hf7.blockAs HX6.out (by simp))
  have HXB7 := Lib.hid (HXB6.out.fr hf7 (by simp))
  have HYB7 := Lib.hid (HYB.out.fr hf7 (by simp))
  clear hw7 hf7 HF6 HA6 HX6 HXB6 HYB hyone
  generalize w6.heap.size = Y at *
  have hxl : x.items.length ≤ 140737488355328 := by
    have h1 := (goneA_wf (l := l) HL2.out (by omega) l.length (Nat.le_refl _)).1
    rw [List.take_length] at h1
    have h2 : (ansP l).1.items.length ≤ 1048576 := by
      by_cases hq : toldP (goneA l) = l
      · rw [ansP_yes hq]; exact h1.few
      · rw [ansP_no hq]; decide
    rw [HXE.out] at h2
    omega
  have hT1 : ∀ u : World, Fr [] w7 u → Calls Tryz.prog 24 #[.agg (ansCells a iva)] u fun e w' => ∃ tv tb, e = .returned tv ∧ StrsIn w' tb tv (toldP a) ∧ Fr [] u w' := fun u hu =>
    (told_calls a iva ba HWF.out u (HENV.out.fr (HF7.out.andThen hu) (by simp)) (HIA.out.fr (HF7.out.andThen hu) (by simp))).mono fun e w' ⟨tv, h1, h2, h3⟩ => by
      obtain ⟨tb, htb⟩ := strsIn_any (show w'.ownsRow _ _ _ _ _ _ from h2)
      exact ⟨tv, tb, h1, htb, h3⟩
  have hT2 : ∀ u : World, Fr [] w7 u → Calls Tryz.prog 25 #[.agg (ansCells a iva)] u fun e w' => ∃ tv tb, e = .returned tv ∧ StrsIn w' tb tv (toldP a) ∧ Fr [] u w' := fun u hu =>
    (rtold_calls a iva ba HWF.out u (HIA.out.fr (HF7.out.andThen hu) (by simp))).mono fun e w' ⟨tv, h1, h2, h3⟩ => by
      obtain ⟨tb, htb⟩ := strsIn_any (show w'.ownsRow _ _ _ _ _ _ from h2)
      exact ⟨tv, tb, h1, htb, h3⟩
  have hS : ∀ (u : World) (tv uv : Value) (tb ub : Nat), StrsIn u tb tv (toldP a) → StrsIn u ub uv (toldP a) → Calls Tryz.prog 23 #[tv, uv] u fun e w' => e = .returned (.bool true) ∧ Fr [] u w' := fun u tv uv tb ub h1 h2 => by
    have h := same_calls tb ub tv uv (toldP a) (toldP a) u h1 h2 (told_few HWF.out) (told_few HWF.out)
    rwa [show decide (toldP a = toldP a) = true by simp] at h
  have hA : ∀ u : World, Fr [] w7 u → Calls Tryz.prog 26 #[.agg (ansCells x xv), .agg (ansCells x yv)] u fun e w' => e = .returned (.bool true) ∧ Fr [] u w' := fun u hu => by
    have h := answers_calls x x xv yv xb yb u (HXB7.out.fr hu (by simp)) (HYB7.out.fr hu (by simp)) hxl
    rwa [show decide (x = x) = true by simp] at h
  have hL : ∀ u : World, Fr [] w7 u → Calls Tryz.prog 7 #[] u fun e w' => e = .returned (.bool true) ∧ Fr [] u w' := fun u hu => HALIVE.out u (HENV.out.fr (HF7.out.andThen hu) (by simp))
  unfold ansCells at hT1 hT2 hA
  have HT1 := Lib.hid hT1
  have HT2 := Lib.hid hT2
  have HS := Lib.hid hS
  have HA := Lib.hid hA
  have HL := Lib.hid hL
  clear hT1 hT2 hS hA hL hxl
  obtain ⟨a0, a1, a2, a3, a4⟩ := ans5 HA7.out
  obtain ⟨x0, x1, x2, x3, x4⟩ := ans5 HX7.out
  obtain ⟨y0, y1, y2, y3, y4⟩ := ans5 HY7.out
  go_region_held3 (fun w' => w'.cell? ⟨w.heap.size, 0, none⟩ = some (.int .i64 a.code) ∧ w'.cell? ⟨w.heap.size, 1, none⟩ = some (.int .u64 (a.n : Nat)) ∧ w'.cell? ⟨w.heap.size, 2, none⟩ = some (strV a.text) ∧ w'.cell? ⟨w.heap.size, 3, none⟩ = some iva ∧ w'.cell? ⟨w.heap.size, 4, none⟩ = some (.bool a.more) ∧
      w'.cell? ⟨X, 0, none⟩ = some (.int .i64 x.code) ∧ w'.cell? ⟨X, 1, none⟩ = some (.int .u64 (x.n : Nat)) ∧ w'.cell? ⟨X, 2, none⟩ = some (strV x.text) ∧ w'.cell? ⟨X, 3, none⟩ = some xv ∧ w'.cell? ⟨X, 4, none⟩ = some (.bool x.more) ∧
      w'.cell? ⟨Y, 0, none⟩ = some (.int .i64 x.code) ∧ w'.cell? ⟨Y, 1, none⟩ = some (.int .u64 (x.n : Nat)) ∧ w'.cell? ⟨Y, 2, none⟩ = some (strV x.text) ∧ w'.cell? ⟨Y, 3, none⟩ = some yv ∧ w'.cell? ⟨Y, 4, none⟩ = some (.bool x.more))
    (first | go_keep | exact ⟨f0.1, f0.2.1, f0.2.2.1, f0.2.2.2.1, f0.2.2.2.2, f1.1, f1.2.1, f1.2.2.1, f1.2.2.2.1, f1.2.2.2.2, f2.1, f2.2.1, f2.2.2.1, f2.2.2.2.1, f2.2.2.2.2⟩)
    (first | (go_at_call 24; (with_reducible refine (HT1.out _ ?_).mono ?_); (exact (Fr.refl [] w7).drew); rintro e u1 ⟨tv, tb, rfl, hst, hf⟩; have HTS1 := Lib.hid hst; have HG1 : Hid (Fr [] w7 u1) := (Fr.refl [] w7).drew.andThen hf; clear hf hst; have f0 := ans5 (HG1.out.blockAs HA7.out (by simp)); have f1 := ans5 (HG1.out.blockAs HX7.out (by simp)); have f2 := ans5 (HG1.out.blockAs HY7.out (by simp)))
           | (go_at_call 25; (with_reducible refine (HT2.out _ ?_).mono ?_); (exact HG1.out); rintro e u2 ⟨uv, ub, rfl, hst, hf⟩; have HTS2 := Lib.hid (HTS1.out.fr hf (by simp)); have HUS2 := Lib.hid hst; have HG2 : Hid (Fr [] w7 u2) := HG1.out.andThen hf; clear hf hst; have f0 := ans5 (HG2.out.blockAs HA7.out (by simp)); have f1 := ans5 (HG2.out.blockAs HX7.out (by simp)); have f2 := ans5 (HG2.out.blockAs HY7.out (by simp)))
           | (go_at_call 23; refine (HS.out _ _ _ _ _ HTS2.out HUS2.out).mono ?_; rintro e u3 ⟨rfl, hf⟩; have HG3 : Hid (Fr [] w7 u3) := HG2.out.andThen hf; clear hf; have f0 := ans5 (HG3.out.blockAs HA7.out (by simp)); have f1 := ans5 (HG3.out.blockAs HX7.out (by simp)); have f2 := ans5 (HG3.out.blockAs HY7.out (by simp)))
           | (go_at_call 26; (with_reducible refine (HA.out _ ?_).mono ?_); (exact HG3.out); rintro e u4 ⟨rfl, hf⟩; have HG4 : Hid (Fr [] w7 u4) := HG3.out.andThen hf; clear hf; have f0 := ans5 (HG4.out.blockAs HA7.out (by simp)); have f1 := ans5 (HG4.out.blockAs HX7.out (by simp)); have f2 := ans5 (HG4.out.blockAs HY7.out (by simp)))
           | (go_at_call 7; (with_reducible refine (HL.out _ ?_).mono ?_); (exact HG4.out); rintro e u5 ⟨rfl, hf⟩; have HG5 : Hid (Fr [] w7 u5) := HG4.out.andThen hf; clear hf; have f0 := ans5 (HG5.out.blockAs HA7.out (by simp)); have f1 := ans5 (HG5.out.blockAs HX7.out (by simp)); have f2 := ans5 (HG5.out.blockAs HY7.out (by simp))))
  go_wp2_with fail
  go_ret
  exact ⟨rfl, HF7.out.andThen HG5.out⟩
end Go.Proofs.YtcaeppncippknaaGreatDoor
