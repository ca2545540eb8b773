/- hoardref31: names, Has, short, cond and only. Conditions: a text's length below 2^40. -/
import Derived.Test.YtcaeppncippknaaGreatDoorZCallsA
import Derived.Test.YtcaeppncippknaaGreatDoorZTextR
import Derived.Test.YtcaeppncippknaaGreatDoorZRNum
import Derived.Test.YtcaeppncippknaaGreatDoorZTold0
import Derived.Test.YtcaeppncippknaaGreatDoorZBaseA
import Derived.Deep.LoopGhost
import Derived.Test.YtcaeppncippknaaGreatDoorZRead0A
import Derived.Deep.RegionHeld3
import Derived.Deep.DeepCutAuto
namespace Go.Proofs.YtcaeppncippknaaGreatDoor
open Go Go.RowKit

def nameL : List (List UInt8) := [] :: kindRows.map (·.2.1)
def hasT : List (List UInt8) := [[], [66], [66], [66, 78, 84, 67], [66, 78, 86], [66, 78, 67], [66, 78, 86], [66, 70, 65, 77], [66, 78, 86, 77], [66, 78], [66, 86, 80, 84], [66, 86, 67], [66, 86], [], [86]]
def hasL (k : Nat) : List UInt8 := hasT.getD k []
def lp (x : UInt8) : Nat := if x = 66 then 1 else if x = 78 then 2 else if x = 86 then 3 else if x = 67 then 4 else if x = 84 then 5 else if x = 77 then 6 else if x = 70 then 7 else if x = 65 then 8 else if x = 80 then 9 else 0
theorem hasL_big {k : Nat} (h : 15 ≤ k) : hasL k = [] := by
  unfold hasL
  rw [List.getD, List.getElem?_eq_none (by simpa [hasT] using h)]; rfl
theorem row_small : ∀ r ∈ kindRows, r.1 < 15 := by decide
theorem has_parts (c : ACall) : (hasL c.kind).map lp = (lineX c).2.2.map pn := by
  unfold lineX lineK
  by_cases h : c.kind < 15
  · have hall : ∀ k : Fin 15, (hasL k.val).map lp = ((kindRows.find? (·.1 == k.val)).getD (0, [], [])).2.2.map pn := by decide
    exact hall ⟨c.kind, h⟩
  · rw [hasL_big (by omega)]
    have e : kindRows.find? (·.1 == c.kind) = none := by
      rw [List.find?_eq_none]
      intro r hr
      have := row_small r hr
      simp; omega
    rw [e]; rfl
theorem has_letter (k : Nat) : ∀ x ∈ hasL k, x = 66 ∨ x = 78 ∨ x = 86 ∨ x = 67 ∨ x = 84 ∨ x = 77 ∨ x = 70 ∨ x = 65 ∨ x = 80 := by
  by_cases h : k < 15
  · have hall : ∀ k : Fin 15, ∀ x ∈ hasL k.val, x = 66 ∨ x = 78 ∨ x = 86 ∨ x = 67 ∨ x = 84 ∨ x = 77 ∨ x = 70 ∨ x = 65 ∨ x = 80 := by decide
    exact hall ⟨k, h⟩
  · rw [hasL_big (by omega)]
    intro x hx; cases hx
theorem hasL_length (k : Nat) : (hasL k).length ≤ 4 := by
  by_cases h : k < 15
  · have hall : ∀ k : Fin 15, (hasL k.val).length ≤ 4 := by decide
    exact hall ⟨k, h⟩
  · rw [hasL_big (by omega)]
    decide

set_option maxRecDepth 100000 in
theorem names_calls (w : World) : Calls Tryz.prog 38 #[] w fun e w' => e = .returned (.slice (some ⟨w.heap.size, 0, none⟩) 15 15) ∧ w.alloc (.cells (nameL.map strV).toArray 9) = w' := by
  go_enter Tryz.func38, Tryz.ntmps38
  go_wp2
  go_ret
  exact ⟨rfl, rfl⟩

set_option maxHeartbeats 1000000 in
set_option maxRecDepth 100000 in
theorem has_calls (k : Nat) (hk : k ≤ 255) (w : World) : Calls Tryz.prog 39 #[.int .u8 (k : Nat)] w fun e w' => e = .returned (.string (bs (hasL k))) ∧ Fr [] w w' := by
  by_cases h : k < 15
  · have hx : (hasT.map strV).toArray[k]? = some (.string (bs (hasL k))) := by
      have hl : k < hasT.length := h
      unfold hasL
      rw [List.getD, List.getElem?_eq_getElem hl]
      simp [hl, strV]
    have HX := Lib.hid hx
    clear hx
    go_enter Tryz.func39, Tryz.ntmps39
    go_upto_region 2 with fail
    generalize hw1 : w.alloc _ = w1
    have hb : w1.heap[w.heap.size]? = some (.cells (hasT.map strV).toArray 9 (0, 0)) := by subst hw1; exact (MapKept.heap_alloc w _).1
    have hf1 : Fr [] w w1 := by subst hw1; exact (Fr.refl _ _).alloc _
    have c1 : w1.cell? ⟨w.heap.size, k, none⟩ = some (.string (bs (hasL k))) := by rw [Lib.cell_of_heap hb]; exact HX.out
    clear hw1 hb
    have i0 : (0 : Int) ≤ (k : Int) := by omega
    have i1 : (k : Int) < 15 := by omega
    go_wp2_with fail
    go_ret
    exact ⟨rfl, hf1⟩
  · have hb := hasL_big (k := k) (by omega)
    rw [hb]
    clear hb
    have i1 : ¬ (k : Int) < 15 := by omega
    go_enter Tryz.func39, Tryz.ntmps39
    go_wp2_with fail
    go_ret
    exact ⟨rfl, (Fr.refl _ _).alloc _⟩

set_option maxRecDepth 100000 in
theorem short_calls (l : List UInt8) (hl : l.length ≤ 1048576) (w : World) : Calls Tryz.prog 47 #[.string (bs l)] w fun e w' => e = .returned (.bool (shortP l)) ∧ Fr [] w w' := by
  have HS : Hid (shortP l = decide ((hWord l).length ≤ 65536)) := rfl
  have hs := bs_size (hWord l)
  go_enter Tryz.func47, Tryz.ntmps47
  go_wp2_with fail
  refine (rword_calls l (by omega) w).mono ?_
  rintro e w1 ⟨rfl, hf1⟩
  go_wp2_with fail
  go_ret
  refine ⟨?_, hf1⟩
  rw [HS.out]
  refine congrArg (fun x : Bool => Ending.returned (.bool x)) ?_
  rw [Bool.eq_iff_iff]
  simp only [decide_eq_true_eq]
  omega

/-- A condition's words in one text. -/
def condS (kd n : Nat) : List UInt8 := if kd = 1 then w_absent else if kd = 2 then w_is ++ [32] ++ Lib.decDigits n else w_any
set_option maxHeartbeats 1000000 in
set_option maxRecDepth 100000 in
theorem rcond_calls (kd n : Nat) (hn : n < 18446744073709551616) (w : World) : Calls Tryz.prog 42 #[.agg #[.int .u8 (kd : Nat), .int .u64 (n : Nat)]] w fun e w' => e = .returned (.string (bs (condS kd n))) ∧ Fr [] w w' := by
  by_cases h1 : kd = 1
  · subst h1
    go_enter Tryz.func42, Tryz.ntmps42
    go_wp2_with fail
    go_ret
    exact ⟨rfl, (Fr.refl _ _).alloc _⟩
  · by_cases h2 : kd = 2
    · subst h2
      have li := decDigits_small hn
      obtain ⟨s1, H1, n1, a1⟩ := app_ex Tryz.prog [105, 115, 32] (Lib.decDigits n) (by simp; omega)
      have HC : Hid (condS 2 n = s1) := by show _ = _; rw [H1.out]; rfl
      clear H1 n1 li
      go_enter Tryz.func42, Tryz.ntmps42
      go_wp2_with fail
      refine (runum_calls n hn _).mono ?_
      rintro e w1 ⟨rfl, hf1⟩
      go_wp2_with fail
      go_ret
      refine ⟨by rw [HC.out]; rfl, ((Fr.refl [] w).alloc _).trans hf1 (by simp)⟩
    · have HC : Hid (condS kd n = w_any) := by show _ = _; unfold condS; rw [if_neg h1, if_neg h2]
      have e1 : ((kd : Int) == 1) = false := by rw [beq_eq_false_iff_ne]; omega
      have e2 : ((kd : Int) == 2) = false := by rw [beq_eq_false_iff_ne]; omega
      clear h1 h2
      go_enter Tryz.func42, Tryz.ntmps42
      go_wp2_with fail
      go_ret
      exact ⟨by rw [HC.out]; rfl, (Fr.refl _ _).alloc _⟩

theorem results_one {P : Program} {fn : Func} {p : Tmp} {ty : TypeId} (h : fn.results = #[.cell p ty]) (tmps : Array Value) (w : World) (g : Nat) (t : TypeId) (cs : Array Value) (fr : Nat × Nat) (d : TypeDesc)
    (hp : tmps.getD p undef = .pointer (some ⟨g, 0, none⟩)) (hg : w.heap[g]? = some (.cells cs t fr))
    (hu : P.underlying ty = some d) (hd : (match d with | .struct _ | .array _ _ => true | _ => false) = true) (hi : (P.info? ty).map (·.size) = some cs.size) :
    (results fn tmps).run P w = .ok (.agg cs) w := by
  have hp' : tmps[p]?.getD undef = .pointer (some ⟨g, 0, none⟩) := by simpa using hp
  have hl := run_loadVar_row (P := P) w g t ty cs fr d hg hu hd hi
  simp [results, h, hp', asAddr, hl]
def putL (h : List UInt8) (c d : ACall) : ACall := h.foldl (fun d x => putP (lp x) c d) d
theorem putL_succ (h : List UInt8) (c d : ACall) {k : Nat} (hk : k < h.length) : putL (h.take (k + 1)) c d = putP (lp h[k]) c (putL (h.take k) c d) := by
  unfold putL
  rw [List.take_add_one, List.getElem?_eq_getElem hk, List.foldl_append]
  rfl
theorem put_map (c : ACall) : ∀ (h : List UInt8) (fs : List Nat) (d : ACall), h.map lp = fs.map pn → putL h c d = putAll fs c d
  | [], [], _, _ => rfl
  | [], _ :: _, _, e => by cases e
  | _ :: _, [], _, e => by cases e
  | x :: h, f :: fs, d, e => by
    rw [List.map_cons, List.map_cons] at e
    injection e with e1 e2
    show putL h c (putP (lp x) c d) = putAll fs c (putP (pn f) c d)
    rw [e1]
    exact put_map c h fs _ e2
theorem only_has (c : ACall) : putL (hasL c.kind) c { ACall.zero with kind := c.kind } = onlyP c := put_map c _ _ _ (has_parts c)
theorem cells11 {w : World} {g : Nat} {c : ACall} {T : TypeId} {fr : Nat × Nat} (h : w.heap[g]? = some (.cells (callCells c) T fr)) :
    w.cell? ⟨g, 0, none⟩ = some (.int .u8 (c.kind : Nat)) ∧ w.cell? ⟨g, 1, none⟩ = some (.string (bs c.bucket)) ∧ w.cell? ⟨g, 2, none⟩ = some (.string (bs c.name)) ∧ w.cell? ⟨g, 3, none⟩ = some (.int .u64 (c.num : Nat)) ∧ w.cell? ⟨g, 4, none⟩ = some (.int .i64 c.part) ∧
    w.cell? ⟨g, 5, none⟩ = some (.string (bs c.text)) ∧ w.cell? ⟨g, 6, none⟩ = some (.int .u8 (c.ck : Nat)) ∧ w.cell? ⟨g, 7, none⟩ = some (.int .u64 (c.cn : Nat)) ∧ w.cell? ⟨g, 8, none⟩ = some (.string (bs c.pre)) ∧ w.cell? ⟨g, 9, none⟩ = some (.string (bs c.aft)) ∧ w.cell? ⟨g, 10, none⟩ = some (.int .i64 c.most) := by
  refine ⟨?_, ?_, ?_, ?_, ?_, ?_, ?_, ?_, ?_, ?_, ?_⟩ <;> (rw [Lib.cell_of_heap h]; rfl)
/-- Two calls in blocks C and D. -/
structure TwoC (C D R : Nat) (c d : ACall) (w0 w : World) : Prop where
  c : w.heap[C]? = some (.cells (callCells c) 31 (0, 0))
  d : w.heap[D]? = some (.cells (callCells d) 31 (0, 0))
  r : w.heap[R]? = some (.cells (callCells ACall.zero) 31 (0, 0))
  f : Fr [] w0 w
  cd : C ≠ D
  rd : R ≠ D
  dw : w0.heap.size ≤ D
  rw : w0.heap.size ≤ R
theorem TwoC.store {C D R : Nat} {c d d' : ACall} {w0 w : World} (h : TwoC C D R c d w0 w) (i : Nat) (v : Value) (he : (callCells d).setIfInBounds i v = callCells d') : TwoC C D R c d' w0 (w.setCell ⟨D, i, none⟩ v) := by
  have hf : Fr [D] w (w.setCell ⟨D, i, none⟩ v) := (Fr.refl _ _).setCell (by simp) _
  have h1 := h.cd
  have h2 := h.rd
  have h3 := h.dw
  exact ⟨hf.blockAs h.c (by simpa using h1), by rw [← he]; exact setCell_block h.d v, hf.blockAs h.r (by simpa using h2), h.f.trans hf (fun i hi hlt => by have := List.mem_singleton.1 hi; omega), h1, h2, h3, h.rw⟩

set_option maxHeartbeats 16000000 in
set_option maxRecDepth 100000 in
theorem only_calls (c : ACall) (hk : c.kind ≤ 255) (w : World) : Calls Tryz.prog 46 #[.agg (callCells c)] w fun e w' => e = .returned (.agg (callCells (onlyP c))) ∧ Fr [] w w' := by
  have HONLY := Lib.hid (only_has c)
  go_enter Tryz.func46, Tryz.ntmps46
  go_upto_region 1 with fail
  generalize hw1 : (w.alloc _).alloc _ = w1
  have hf1 : Fr [] w w1 := by subst hw1; exact ((Fr.refl _ _).alloc _).alloc _
  have hC1 : w1.heap[w.heap.size]? = some (.cells (callCells c) 31 (0, 0)) := by
    subst hw1; rw [Lib.alloc_old _ _ _ (by simp)]; exact (MapKept.heap_alloc w _).1
  have hR1 : w1.heap[w.heap.size + 1]? = some (.cells (callCells ACall.zero) 31 (0, 0)) := by
    subst hw1
    exact heap_alloc2 w _ _
  have HS1 : Hid (w1.heap.size = w.heap.size + 2) := by show _ = _; subst hw1; simp
  clear hw1
  have k0 := (cells11 hC1).1
  go_upto_region 2 with fail
  generalize hw2 : w1.alloc _ = w2
  have hf2 : Fr [] w1 w2 := by subst hw2; exact (Fr.refl _ _).alloc _
  have hA2 : TwoC w.heap.size w1.heap.size (w.heap.size + 1) c { ACall.zero with kind := c.kind } w w2 := by
    have hs1 := HS1.out
    refine ⟨hf2.blockAs hC1 (by simp), ?_, hf2.blockAs hR1 (by simp), hf1.andThen hf2, by omega, by omega, by omega, by omega⟩
    subst hw2
    exact (MapKept.heap_alloc w1 _).1
  clear hw2 hf2 hR1 hC1 hf1 k0 HS1
  generalize w1.heap.size = D at *
  generalize w.heap.size + 1 = R at *
  have k0 := (cells11 hA2.c).1
  have HA2 := Lib.hid hA2
  clear hA2
  go_wp2_with fail
  refine (has_calls c.kind hk w2).mono ?_
  rintro e w3 ⟨rfl, hf3⟩
  have HA3 : Hid (TwoC w.heap.size D R c { ACall.zero with kind := c.kind } w w3) := ⟨hf3.blockAs HA2.out.c (by simp), hf3.blockAs HA2.out.d (by simp), hf3.blockAs HA2.out.r (by simp), HA2.out.f.andThen hf3, HA2.out.cd, HA2.out.rd, HA2.out.dw, HA2.out.rw⟩
  have hln := hasL_length c.kind
  have HLET := Lib.hid (has_letter c.kind)
  clear hf3 HA2 k0
  generalize hasL c.kind = h at *
  have hsz : (bs h).size = h.length := bs_size h
  go_wp2_with fail
  go_loopg [5] h.length (fun g i wr => ∃ (k : Nat) (d : ACall), k + g = h.length ∧ i = .int .i64 k ∧ TwoC w.heap.size D R c d w wr ∧ Hid (d = putL (h.take k) c { ACall.zero with kind := c.kind }))
  case atStart => exact ⟨0, _, by omega, rfl, HA3.out, rfl⟩
  case round =>
    obtain ⟨k, d, hkg, rfl, hA, HD⟩ := hrel
    have HA := Lib.hid hA
    clear hA
    by_cases hlt : k < h.length
    · have HX := Lib.hid (run_index_str hlt)
      have HLK := HLET.out h[k] (List.getElem_mem hlt)
      have HS := Lib.hid (putL_succ h c { ACall.zero with kind := c.kind } hlt)
      generalize h[k] = x at *
      have i0 : (0 : Int) ≤ (k : Int) := by omega
      have i1 : (k : Int) < (h.length : Int) := by omega
      rcases HLK with rfl | rfl | rfl | rfl | rfl | rfl | rfl | rfl | rfl
      · have hx : ∀ u : World, (Instr.index 9 (.string (bs h)) (.int .i64 (k : Nat))).run Tryz.prog u = .ok (.int .u8 66) u := HX.out
        have e0 := (cells11 HA.out.c).2.1
        have q0 := (cells11 HA.out.d).2.1
        have z0 := Lib.frozen_of_heap HA.out.d 1
        have HA5 : Hid (TwoC w.heap.size D R c { d with bucket := c.bucket } w (wr.setCell ⟨D, 1, none⟩ (.string (bs c.bucket)))) := HA.out.store 1 _ rfl
        have HD5 : Hid (({ d with bucket := c.bucket } : ACall) = putL (h.take (k + 1)) c { ACall.zero with kind := c.kind }) := by show _ = _; rw [HS.out, ← HD.out]; rfl
        go_wp2_with fail
        go_roundg (gk - 1)
        case measure => omega
        case rel => exact ⟨k + 1, _, by omega, by go_num, HA5.out, HD5⟩
      · have hx : ∀ u : World, (Instr.index 9 (.string (bs h)) (.int .i64 (k : Nat))).run Tryz.prog u = .ok (.int .u8 78) u := HX.out
        have e0 := (cells11 HA.out.c).2.2.1
        have q0 := (cells11 HA.out.d).2.2.1
        have z0 := Lib.frozen_of_heap HA.out.d 2
        have HA5 : Hid (TwoC w.heap.size D R c { d with name := c.name } w (wr.setCell ⟨D, 2, none⟩ (.string (bs c.name)))) := HA.out.store 2 _ rfl
        have HD5 : Hid (({ d with name := c.name } : ACall) = putL (h.take (k + 1)) c { ACall.zero with kind := c.kind }) := by show _ = _; rw [HS.out, ← HD.out]; rfl
        go_wp2_with fail
        go_roundg (gk - 1)
        case measure => omega
        case rel => exact ⟨k + 1, _, by omega, by go_num, HA5.out, HD5⟩
      · have hx : ∀ u : World, (Instr.index 9 (.string (bs h)) (.int .i64 (k : Nat))).run Tryz.prog u = .ok (.int .u8 86) u := HX.out
        have e0 := (cells11 HA.out.c).2.2.2.1
        have q0 := (cells11 HA.out.d).2.2.2.1
        have z0 := Lib.frozen_of_heap HA.out.d 3
        have HA5 : Hid (TwoC w.heap.size D R c { d with num := c.num } w (wr.setCell ⟨D, 3, none⟩ (.int .u64 (c.num : Nat)))) := HA.out.store 3 _ rfl
        have HD5 : Hid (({ d with num := c.num } : ACall) = putL (h.take (k + 1)) c { ACall.zero with kind := c.kind }) := by show _ = _; rw [HS.out, ← HD.out]; rfl
        go_wp2_with fail
        go_roundg (gk - 1)
        case measure => omega
        case rel => exact ⟨k + 1, _, by omega, by go_num, HA5.out, HD5⟩
      · have hx : ∀ u : World, (Instr.index 9 (.string (bs h)) (.int .i64 (k : Nat))).run Tryz.prog u = .ok (.int .u8 67) u := HX.out
        have e6 := (cells11 HA.out.c).2.2.2.2.2.2.1
        have e7 := (cells11 HA.out.c).2.2.2.2.2.2.2.1
        have q6 := (cells11 HA.out.d).2.2.2.2.2.2.1
        have q7 := (cells11 HA.out.d).2.2.2.2.2.2.2.1
        have z6 := Lib.frozen_of_heap HA.out.d 6
        have z7 := Lib.frozen_of_heap HA.out.d 7
        have HA5 : Hid (TwoC w.heap.size D R c { d with ck := c.ck, cn := c.cn } w ((wr.setCell ⟨D, 6, none⟩ (.int .u8 (c.ck : Nat))).setCell ⟨D, 7, none⟩ (.int .u64 (c.cn : Nat)))) := (HA.out.store (d' := { d with ck := c.ck }) 6 _ rfl).store 7 _ rfl
        have HD5 : Hid (({ d with ck := c.ck, cn := c.cn } : ACall) = putL (h.take (k + 1)) c { ACall.zero with kind := c.kind }) := by show _ = _; rw [HS.out, ← HD.out]; rfl
        go_wp2_with fail
        go_roundg (gk - 1)
        case measure => omega
        case rel => exact ⟨k + 1, _, by omega, by go_num, HA5.out, HD5⟩
      · have hx : ∀ u : World, (Instr.index 9 (.string (bs h)) (.int .i64 (k : Nat))).run Tryz.prog u = .ok (.int .u8 84) u := HX.out
        have e0 := (cells11 HA.out.c).2.2.2.2.2.1
        have q0 := (cells11 HA.out.d).2.2.2.2.2.1
        have z0 := Lib.frozen_of_heap HA.out.d 5
        have HA5 : Hid (TwoC w.heap.size D R c { d with text := c.text } w (wr.setCell ⟨D, 5, none⟩ (.string (bs c.text)))) := HA.out.store 5 _ rfl
        have HD5 : Hid (({ d with text := c.text } : ACall) = putL (h.take (k + 1)) c { ACall.zero with kind := c.kind }) := by show _ = _; rw [HS.out, ← HD.out]; rfl
        go_wp2_with fail
        go_roundg (gk - 1)
        case measure => omega
        case rel => exact ⟨k + 1, _, by omega, by go_num, HA5.out, HD5⟩
      · have hx : ∀ u : World, (Instr.index 9 (.string (bs h)) (.int .i64 (k : Nat))).run Tryz.prog u = .ok (.int .u8 77) u := HX.out
        have e0 := (cells11 HA.out.c).2.2.2.2.2.2.2.2.2.2
        have q0 := (cells11 HA.out.d).2.2.2.2.2.2.2.2.2.2
        have z0 := Lib.frozen_of_heap HA.out.d 10
        have HA5 : Hid (TwoC w.heap.size D R c { d with most := c.most } w (wr.setCell ⟨D, 10, none⟩ (.int .i64 c.most))) := HA.out.store 10 _ rfl
        have HD5 : Hid (({ d with most := c.most } : ACall) = putL (h.take (k + 1)) c { ACall.zero with kind := c.kind }) := by show _ = _; rw [HS.out, ← HD.out]; rfl
        go_wp2_with fail
        go_roundg (gk - 1)
        case measure => omega
        case rel => exact ⟨k + 1, _, by omega, by go_num, HA5.out, HD5⟩
      · have hx : ∀ u : World, (Instr.index 9 (.string (bs h)) (.int .i64 (k : Nat))).run Tryz.prog u = .ok (.int .u8 70) u := HX.out
        have e0 := (cells11 HA.out.c).2.2.2.2.2.2.2.2.1
        have q0 := (cells11 HA.out.d).2.2.2.2.2.2.2.2.1
        have z0 := Lib.frozen_of_heap HA.out.d 8
        have HA5 : Hid (TwoC w.heap.size D R c { d with pre := c.pre } w (wr.setCell ⟨D, 8, none⟩ (.string (bs c.pre)))) := HA.out.store 8 _ rfl
        have HD5 : Hid (({ d with pre := c.pre } : ACall) = putL (h.take (k + 1)) c { ACall.zero with kind := c.kind }) := by show _ = _; rw [HS.out, ← HD.out]; rfl
        go_wp2_with fail
        go_roundg (gk - 1)
        case measure => omega
        case rel => exact ⟨k + 1, _, by omega, by go_num, HA5.out, HD5⟩
      · have hx : ∀ u : World, (Instr.index 9 (.string (bs h)) (.int .i64 (k : Nat))).run Tryz.prog u = .ok (.int .u8 65) u := HX.out
        have e0 := (cells11 HA.out.c).2.2.2.2.2.2.2.2.2.1
        have q0 := (cells11 HA.out.d).2.2.2.2.2.2.2.2.2.1
        have z0 := Lib.frozen_of_heap HA.out.d 9
        have HA5 : Hid (TwoC w.heap.size D R c { d with aft := c.aft } w (wr.setCell ⟨D, 9, none⟩ (.string (bs c.aft)))) := HA.out.store 9 _ rfl
        have HD5 : Hid (({ d with aft := c.aft } : ACall) = putL (h.take (k + 1)) c { ACall.zero with kind := c.kind }) := by show _ = _; rw [HS.out, ← HD.out]; rfl
        go_wp2_with fail
        go_roundg (gk - 1)
        case measure => omega
        case rel => exact ⟨k + 1, _, by omega, by go_num, HA5.out, HD5⟩
      · have hx : ∀ u : World, (Instr.index 9 (.string (bs h)) (.int .i64 (k : Nat))).run Tryz.prog u = .ok (.int .u8 80) u := HX.out
        have e0 := (cells11 HA.out.c).2.2.2.2.1
        have q0 := (cells11 HA.out.d).2.2.2.2.1
        have z0 := Lib.frozen_of_heap HA.out.d 4
        have HA5 : Hid (TwoC w.heap.size D R c { d with part := c.part } w (wr.setCell ⟨D, 4, none⟩ (.int .i64 c.part))) := HA.out.store 4 _ rfl
        have HD5 : Hid (({ d with part := c.part } : ACall) = putL (h.take (k + 1)) c { ACall.zero with kind := c.kind }) := by show _ = _; rw [HS.out, ← HD.out]; rfl
        go_wp2_with fail
        go_roundg (gk - 1)
        case measure => omega
        case rel => exact ⟨k + 1, _, by omega, by go_num, HA5.out, HD5⟩
    · have HE : Hid (d = onlyP c) := by
        show _ = _
        rw [HD.out, ← HONLY.out, List.take_of_length_le (by omega)]
      have hge : ¬ (k : Int) < (h.length : Int) := by omega
      clear hlt
      go_wp2_with (first
        | (refine wpList_load_row (by rfl) 31 (.tmp 3) (by rfl) D (by rfl) 31 _ _ _ HA.out.d Tryz.underlying31 rfl infoCall ?_)
        | (refine wpList_store_row (by rfl) 31 (.tmp 2) (.tmp 66) (by rfl) R (callCells d) (by rfl) (by rfl) 31 _ HA.out.r infoCall rfl (callCells_one _) ?_))
      refine bodyPost_ret (v := .agg (callCells d)) (results_one rfl _ _ R 31 (callCells d) (0, 0) _ (by rfl) (setRow_heap _ _ _ _ _ _ HA.out.r) Tryz.underlying31 rfl infoCall) rfl ?_
      exact ⟨by rw [HE.out], HA.out.f.setRow (fun h => absurd h (by have := HA.out.rw; omega)) _⟩
end Go.Proofs.YtcaeppncippknaaGreatDoor
/- hoardref31.May: which calls may be, as house.May has it. Conditions: a call's texts below 2^20 bytes. -/
namespace Go.Proofs.YtcaeppncippknaaGreatDoor
open Go Go.RowKit

theorem lineK_some (c : ACall) : (lineK c).isSome = decide (1 ≤ c.kind ∧ c.kind ≤ 14) := by
  unfold lineK
  by_cases h : c.kind < 15
  · have hall : ∀ k : Fin 15, (kindRows.find? (·.1 == k.val)).isSome = decide (1 ≤ k.val ∧ k.val ≤ 14) := by decide
    exact hall ⟨c.kind, h⟩
  · have e : kindRows.find? (·.1 == c.kind) = none := by
      rw [List.find?_eq_none]
      intro r hr
      have := row_small r hr
      simp; omega
    rw [e]
    symm
    rw [show (none : Option KRow).isSome = false from rfl, decide_eq_false_iff_not]
    omega
theorem exec_load_row {P : Program} {w : World} {o : Oper} {ev : Operand → Value} (ty : TypeId) (x : Operand) (ho : o.op = .load ty x) (g : Nat) (hx : ev x = .pointer (some ⟨g, 0, none⟩)) (t : TypeId) (cs : Array Value) (fr : Nat × Nat) (d : TypeDesc) (hg : w.heap[g]? = some (.cells cs t fr))
    (hu : P.underlying ty = some d) (hd : (match d with | .struct _ | .array _ _ => true | _ => false) = true) (hi : (P.info? ty).map (·.size) = some cs.size) : (execOp ev o).run P w = .ok (.value (.agg cs)) w := by
  unfold execOp
  simp only [ho, hx, Instr.loadAt, Instr.sureAddr, Sem.run_bind, Sem.run_pure, Result.andThen_ok, run_loadVar_row w g t ty cs fr d hg hu hd hi]
theorem load_call {w : World} {g : Nat} {c : ACall} (h : w.heap[g]? = some (.cells (callCells c) 31 (0, 0))) : (Instr.loadAt 31 (.pointer (some ⟨g, 0, none⟩))).run Tryz.prog w = .ok (.agg (callCells c)) w := by
  simp only [Instr.loadAt, Instr.sureAddr, Sem.run_bind, Sem.run_pure, Result.andThen_ok, run_loadVar_row w g 31 31 (callCells c) (0, 0) _ h Tryz.underlying31 rfl infoCall]

def frontP (c : ACall) : Bool := (lineK c).isSome && decide (c = onlyP c) && decide (c.ck ≤ 2) && (decide (c.ck = 2) || decide (c.cn = 0))
def Front (b1 b2 b3 b4 b5 b6 fv : Bool) : Prop :=
  (b1 = true ∧ fv = false) ∨ (b1 = false ∧ b2 = true ∧ fv = false) ∨ (b1 = false ∧ b2 = false ∧ b3 = true ∧ fv = false) ∨ (b1 = false ∧ b2 = false ∧ b3 = false ∧ b4 = true ∧ fv = false) ∨
  (b1 = false ∧ b2 = false ∧ b3 = false ∧ b4 = false ∧ b5 = true ∧ b6 = true ∧ fv = false) ∨ (b1 = false ∧ b2 = false ∧ b3 = false ∧ b4 = false ∧ b5 = true ∧ b6 = false ∧ fv = true) ∨
  (b1 = false ∧ b2 = false ∧ b3 = false ∧ b4 = false ∧ b5 = false ∧ fv = true)
theorem front_cases (c : ACall) : Front (decide ((c.kind : Int) < 1)) (decide ((c.kind : Int) > 14)) (!decide (c = onlyP c)) (decide ((c.ck : Int) > 2)) ((c.ck : Int) != 2) ((c.cn : Int) != 0) (frontP c) := by
  unfold Front frontP
  rw [lineK_some]
  generalize hd : decide (c = onlyP c) = d
  clear hd
  by_cases h1 : (c.kind : Int) < 1
  · exact .inl ⟨by simpa using h1, by rw [show decide (1 ≤ c.kind ∧ c.kind ≤ 14) = false by rw [decide_eq_false_iff_not]; omega]; simp⟩
  have e1 : decide ((c.kind : Int) < 1) = false := by simpa using h1
  by_cases h2 : (c.kind : Int) > 14
  · exact .inr (.inl ⟨e1, by simpa using h2, by rw [show decide (1 ≤ c.kind ∧ c.kind ≤ 14) = false by rw [decide_eq_false_iff_not]; omega]; simp⟩)
  have e2 : decide ((c.kind : Int) > 14) = false := by simpa using h2
  rw [show decide (1 ≤ c.kind ∧ c.kind ≤ 14) = true by rw [decide_eq_true_eq]; omega, e1, e2]
  cases d with
  | false => exact .inr (.inr (.inl ⟨rfl, rfl, rfl, by simp⟩))
  | true =>
    by_cases h4 : (c.ck : Int) > 2
    · exact .inr (.inr (.inr (.inl ⟨rfl, rfl, rfl, by simpa using h4, by rw [show decide (c.ck ≤ 2) = false by rw [decide_eq_false_iff_not]; omega]; simp⟩)))
    have e4 : decide ((c.ck : Int) > 2) = false := by simpa using h4
    rw [show decide (c.ck ≤ 2) = true by rw [decide_eq_true_eq]; omega, e4]
    by_cases h5 : c.ck = 2
    · exact .inr (.inr (.inr (.inr (.inr (.inr ⟨rfl, rfl, rfl, rfl, by rw [h5]; rfl, by rw [h5]; rfl⟩)))))
    have e5 : ((c.ck : Int) != 2) = true := by simp; omega
    rw [e5, show decide (c.ck = 2) = false by simpa using h5]
    by_cases h6 : c.cn = 0
    · exact .inr (.inr (.inr (.inr (.inr (.inl ⟨rfl, rfl, rfl, rfl, rfl, by rw [h6]; rfl, by rw [h6]; rfl⟩)))))
    · exact .inr (.inr (.inr (.inr (.inl ⟨rfl, rfl, rfl, rfl, rfl, by simpa using h6, by simp [h6]⟩))))

set_option maxHeartbeats 16000000 in
set_option maxRecDepth 100000 in
theorem rmay_calls (c : ACall) (hwf : c.Wf) (w : World) : Calls Tryz.prog 18 #[.agg (callCells c)] w fun e w' => e = .returned (.bool (mayP c)) ∧ Fr [] w w' := by
  have HO := Lib.hid (only_calls c hwf.kind)
  have HWF := Lib.hid hwf
  have hkind := hwf.kind
  have hck := hwf.ck
  have HM : Hid (mayP c = (frontP c && (shortP c.bucket && shortP c.name && shortP c.text && shortP c.pre && shortP c.aft))) := rfl
  have HC := Lib.hid (front_cases c)
  have hneq := neqCall c (onlyP c)
  have HNEQ := Lib.hid hneq
  clear hwf hneq
  go_enter Tryz.func18, Tryz.ntmps18
  go_upto_region 1 with fail
  generalize hw1 : w.alloc (.cells (callCells c) 31) = w1
  have hC1 : w1.heap[w.heap.size]? = some (.cells (callCells c) 31 (0, 0)) := by subst hw1; exact (MapKept.heap_alloc w _).1
  have HF1 : Hid (Fr [] w w1) := by show Fr [] _ _; subst hw1; exact (Fr.refl _ _).alloc _
  clear hw1
  have HLD : Hid (∀ w' : World, w'.heap[w.heap.size]? = some (.cells (callCells c) 31 (0, 0)) → (Instr.loadAt 31 (.pointer (some ⟨w.heap.size, 0, none⟩))).run Tryz.prog w' = .ok (.agg (callCells c)) w') := fun w' h => load_call h
  have hbD : w1.drew.heap[w.heap.size]? = some (.cells (callCells c) 31 (0, 0)) := hC1
  obtain ⟨d0, _, _, _, _, _, d6, d7, _⟩ := cells11 hbD
  have HC1 := Lib.hid hC1
  clear hC1
  go_cut [34] (fun s34 wx => s34 = .bool (!frontP c) ∧ Fr [] w1 wx)
  case first =>
    have hcs := HC.out
    generalize hb1 : decide ((c.kind : Int) < 1) = b1 at hcs
    generalize hb2 : decide ((c.kind : Int) > 14) = b2 at hcs
    generalize hb3 : (!decide (c = onlyP c)) = b3 at hcs HNEQ
    generalize hb4 : decide ((c.ck : Int) > 2) = b4 at hcs
    generalize hb5 : ((c.ck : Int) != 2) = b5 at hcs
    generalize hb6 : ((c.cn : Int) != 0) = b6 at hcs
    generalize hfv : frontP c = fv at hcs
    have HFV := Lib.hid hfv
    clear hb3 hfv HC
    have hneq := HNEQ.out
    have HF0 : Hid (Fr [] w1 w1.drew) := (Fr.refl _ _).drew
    refine wp_region_held_drew (S := fun w' => w'.heap[w.heap.size]? = some (.cells (callCells c) 31 (0, 0)) ∧ w'.cell? ⟨w.heap.size, 0, none⟩ = some (.int .u8 (c.kind : Nat)) ∧ w'.cell? ⟨w.heap.size, 6, none⟩ = some (.int .u8 (c.ck : Nat)) ∧ w'.cell? ⟨w.heap.size, 7, none⟩ = some (.int .u64 (c.cn : Nat))) (by kernel_rfl) ⟨hbD, d0, d6, d7⟩ (fun hHeld => ?_)
    rcases hcs with ⟨rfl, rfl⟩ | ⟨rfl, rfl, rfl⟩ | ⟨rfl, rfl, rfl, rfl⟩ | ⟨rfl, rfl, rfl, rfl, rfl⟩ | ⟨rfl, rfl, rfl, rfl, rfl, rfl, rfl⟩ | ⟨rfl, rfl, rfl, rfl, rfl, rfl, rfl⟩ | ⟨rfl, rfl, rfl, rfl, rfl, rfl⟩
    · refine wpAnyH_take (i := 0) (v := (.pointer (some ⟨w.heap.size, 0, none⟩))) (by simp only [List.getElem?_toArray, List.getElem?_cons_zero]; rfl) (by kernel_rfl) (by kernel_rfl) (by kernel_rfl) (by exact fun _ _ _ h => h) (Or.inl ⟨by rfl, ?_⟩) hHeld ?_
      · (intro w' hw'; obtain ⟨s0, s1, s2, s3⟩ := hw'; go_simp)
      simp only [Act.put, List.setIfInBounds_toArray, List.set_cons_zero, List.set_cons_succ]
      refine wpAnyH_take (i := 1) (v := (.int .u8 (c.kind : Nat))) (by simp only [List.getElem?_toArray, List.getElem?_cons_succ, List.getElem?_cons_zero]; rfl) (by kernel_rfl) (by kernel_rfl) (by kernel_rfl) (by exact fun _ _ _ h => h) (Or.inl ⟨by rfl, ?_⟩) hHeld ?_
      · (intro w' hw'; obtain ⟨s0, s1, s2, s3⟩ := hw'; go_simp)
      simp only [Act.put, List.setIfInBounds_toArray, List.set_cons_zero, List.set_cons_succ]
      refine wpAnyH_take (i := 2) (v := (.bool true)) (by simp only [List.getElem?_toArray, List.getElem?_cons_succ, List.getElem?_cons_zero]; rfl) (by kernel_rfl) (by kernel_rfl) (by kernel_rfl) (by exact fun _ _ _ h => h) (Or.inl ⟨by rfl, ?_⟩) hHeld ?_
      · (intro w' hw'; obtain ⟨s0, s1, s2, s3⟩ := hw'; go_simp)
      simp only [Act.put, List.setIfInBounds_toArray, List.set_cons_zero, List.set_cons_succ]
      refine wpAnyH_take (i := 3) (v := (.bool true)) (by simp only [List.getElem?_toArray, List.getElem?_cons_succ, List.getElem?_cons_zero]; rfl) (by kernel_rfl) (by kernel_rfl) (by kernel_rfl) (by exact fun _ _ _ h => h) (Or.inl ⟨by rfl, ?_⟩) hHeld ?_
      · (intro w' hw'; obtain ⟨s0, s1, s2, s3⟩ := hw'; go_simp)
      simp only [Act.put, List.setIfInBounds_toArray, List.set_cons_zero, List.set_cons_succ]
      refine wpAnyH_take (i := 4) (v := undef) (by simp only [List.getElem?_toArray, List.getElem?_cons_succ, List.getElem?_cons_zero]; rfl) (by kernel_rfl) (by kernel_rfl) (by kernel_rfl) (by exact fun _ _ _ h => h) (Or.inr ⟨by rfl, rfl⟩) hHeld ?_
      simp only [Act.put, List.setIfInBounds_toArray, List.set_cons_zero, List.set_cons_succ]
      refine wpAnyH_take (i := 5) (v := undef) (by simp only [List.getElem?_toArray, List.getElem?_cons_succ, List.getElem?_cons_zero]; rfl) (by kernel_rfl) (by kernel_rfl) (by kernel_rfl) (by exact fun _ _ _ h => h) (Or.inr ⟨by rfl, rfl⟩) hHeld ?_
      simp only [Act.put, List.setIfInBounds_toArray, List.set_cons_zero, List.set_cons_succ]
      refine wpAnyH_take (i := 6) (v := undef) (by simp only [List.getElem?_toArray, List.getElem?_cons_succ, List.getElem?_cons_zero]; rfl) (by kernel_rfl) (by kernel_rfl) (by kernel_rfl) (by exact fun _ _ _ h => h) (Or.inr ⟨by rfl, rfl⟩) hHeld ?_
      simp only [Act.put, List.setIfInBounds_toArray, List.set_cons_zero, List.set_cons_succ]
      refine wpAnyH_take (i := 7) (v := (.bool true)) (by simp only [List.getElem?_toArray, List.getElem?_cons_succ, List.getElem?_cons_zero]; rfl) (by kernel_rfl) (by kernel_rfl) (by kernel_rfl) (by exact fun _ _ _ h => h) (Or.inl ⟨by rfl, ?_⟩) hHeld ?_
      · (intro w' hw'; obtain ⟨s0, s1, s2, s3⟩ := hw'; go_simp)
      simp only [Act.put, List.setIfInBounds_toArray, List.set_cons_zero, List.set_cons_succ]
      refine wpAnyH_take (i := 8) (v := (.bool true)) (by simp only [List.getElem?_toArray, List.getElem?_cons_succ, List.getElem?_cons_zero]; rfl) (by kernel_rfl) (by kernel_rfl) (by kernel_rfl) (by exact fun _ _ _ h => h) (Or.inl ⟨by rfl, ?_⟩) hHeld ?_
      · (intro w' hw'; obtain ⟨s0, s1, s2, s3⟩ := hw'; go_simp)
      simp only [Act.put, List.setIfInBounds_toArray, List.set_cons_zero, List.set_cons_succ]
      refine wpAnyH_take (i := 9) (v := undef) (by simp only [List.getElem?_toArray, List.getElem?_cons_succ, List.getElem?_cons_zero]; rfl) (by kernel_rfl) (by kernel_rfl) (by kernel_rfl) (by exact fun _ _ _ h => h) (Or.inr ⟨by rfl, rfl⟩) hHeld ?_
      simp only [Act.put, List.setIfInBounds_toArray, List.set_cons_zero, List.set_cons_succ]
      refine wpAnyH_take (i := 10) (v := undef) (by simp only [List.getElem?_toArray, List.getElem?_cons_succ, List.getElem?_cons_zero]; rfl) (by kernel_rfl) (by kernel_rfl) (by kernel_rfl) (by exact fun _ _ _ h => h) (Or.inr ⟨by rfl, rfl⟩) hHeld ?_
      simp only [Act.put, List.setIfInBounds_toArray, List.set_cons_zero, List.set_cons_succ]
      refine wpAnyH_take (i := 11) (v := undef) (by simp only [List.getElem?_toArray, List.getElem?_cons_succ, List.getElem?_cons_zero]; rfl) (by kernel_rfl) (by kernel_rfl) (by kernel_rfl) (by exact fun _ _ _ h => h) (Or.inr ⟨by rfl, rfl⟩) hHeld ?_
      simp only [Act.put, List.setIfInBounds_toArray, List.set_cons_zero, List.set_cons_succ]
      refine wpAnyH_take (i := 12) (v := undef) (by simp only [List.getElem?_toArray, List.getElem?_cons_succ, List.getElem?_cons_zero]; rfl) (by kernel_rfl) (by kernel_rfl) (by kernel_rfl) (by exact fun _ _ _ h => h) (Or.inr ⟨by rfl, rfl⟩) hHeld ?_
      simp only [Act.put, List.setIfInBounds_toArray, List.set_cons_zero, List.set_cons_succ]
      refine wpAnyH_take (i := 13) (v := (.bool true)) (by simp only [List.getElem?_toArray, List.getElem?_cons_succ, List.getElem?_cons_zero]; rfl) (by kernel_rfl) (by kernel_rfl) (by kernel_rfl) (by exact fun _ _ _ h => h) (Or.inl ⟨by rfl, ?_⟩) hHeld ?_
      · (intro w' hw'; obtain ⟨s0, s1, s2, s3⟩ := hw'; go_simp)
      simp only [Act.put, List.setIfInBounds_toArray, List.set_cons_zero, List.set_cons_succ]
      refine wpAnyH_take (i := 14) (v := (.bool true)) (by simp only [List.getElem?_toArray, List.getElem?_cons_succ, List.getElem?_cons_zero]; rfl) (by kernel_rfl) (by kernel_rfl) (by kernel_rfl) (by exact fun _ _ _ h => h) (Or.inl ⟨by rfl, ?_⟩) hHeld ?_
      · (intro w' hw'; obtain ⟨s0, s1, s2, s3⟩ := hw'; go_simp)
      simp only [Act.put, List.setIfInBounds_toArray, List.set_cons_zero, List.set_cons_succ]
      refine wpAnyH_take (i := 15) (v := undef) (by simp only [List.getElem?_toArray, List.getElem?_cons_succ, List.getElem?_cons_zero]; rfl) (by kernel_rfl) (by kernel_rfl) (by kernel_rfl) (by exact fun _ _ _ h => h) (Or.inr ⟨by rfl, rfl⟩) hHeld ?_
      simp only [Act.put, List.setIfInBounds_toArray, List.set_cons_zero, List.set_cons_succ]
      refine wpAnyH_take (i := 16) (v := undef) (by simp only [List.getElem?_toArray, List.getElem?_cons_succ, List.getElem?_cons_zero]; rfl) (by kernel_rfl) (by kernel_rfl) (by kernel_rfl) (by exact fun _ _ _ h => h) (Or.inr ⟨by rfl, rfl⟩) hHeld ?_
      simp only [Act.put, List.setIfInBounds_toArray, List.set_cons_zero, List.set_cons_succ]
      refine wpAnyH_take (i := 17) (v := undef) (by simp only [List.getElem?_toArray, List.getElem?_cons_succ, List.getElem?_cons_zero]; rfl) (by kernel_rfl) (by kernel_rfl) (by kernel_rfl) (by exact fun _ _ _ h => h) (Or.inr ⟨by rfl, rfl⟩) hHeld ?_
      simp only [Act.put, List.setIfInBounds_toArray, List.set_cons_zero, List.set_cons_succ]
      refine wpAnyH_take (i := 18) (v := undef) (by simp only [List.getElem?_toArray, List.getElem?_cons_succ, List.getElem?_cons_zero]; rfl) (by kernel_rfl) (by kernel_rfl) (by kernel_rfl) (by exact fun _ _ _ h => h) (Or.inr ⟨by rfl, rfl⟩) hHeld ?_
      simp only [Act.put, List.setIfInBounds_toArray, List.set_cons_zero, List.set_cons_succ]
      refine wpAnyH_take (i := 19) (v := (.bool true)) (by simp only [List.getElem?_toArray, List.getElem?_cons_succ, List.getElem?_cons_zero]; rfl) (by kernel_rfl) (by kernel_rfl) (by kernel_rfl) (by exact fun _ _ _ h => h) (Or.inl ⟨by rfl, ?_⟩) hHeld ?_
      · (intro w' hw'; obtain ⟨s0, s1, s2, s3⟩ := hw'; go_simp)
      simp only [Act.put, List.setIfInBounds_toArray, List.set_cons_zero, List.set_cons_succ]
      refine wpAnyH_take (i := 20) (v := (.bool true)) (by simp only [List.getElem?_toArray, List.getElem?_cons_succ, List.getElem?_cons_zero]; rfl) (by kernel_rfl) (by kernel_rfl) (by kernel_rfl) (by exact fun _ _ _ h => h) (Or.inl ⟨by rfl, ?_⟩) hHeld ?_
      · (intro w' hw'; obtain ⟨s0, s1, s2, s3⟩ := hw'; go_simp)
      simp only [Act.put, List.setIfInBounds_toArray, List.set_cons_zero, List.set_cons_succ]
      refine wpAnyH_take (i := 21) (v := undef) (by simp only [List.getElem?_toArray, List.getElem?_cons_succ, List.getElem?_cons_zero]; rfl) (by kernel_rfl) (by kernel_rfl) (by kernel_rfl) (by exact fun _ _ _ h => h) (Or.inr ⟨by rfl, rfl⟩) hHeld ?_
      simp only [Act.put, List.setIfInBounds_toArray, List.set_cons_zero, List.set_cons_succ]
      refine wpAnyH_take (i := 22) (v := undef) (by simp only [List.getElem?_toArray, List.getElem?_cons_succ, List.getElem?_cons_zero]; rfl) (by kernel_rfl) (by kernel_rfl) (by kernel_rfl) (by exact fun _ _ _ h => h) (Or.inr ⟨by rfl, rfl⟩) hHeld ?_
      simp only [Act.put, List.setIfInBounds_toArray, List.set_cons_zero, List.set_cons_succ]
      refine wpAnyH_take (i := 23) (v := undef) (by simp only [List.getElem?_toArray, List.getElem?_cons_succ, List.getElem?_cons_zero]; rfl) (by kernel_rfl) (by kernel_rfl) (by kernel_rfl) (by exact fun _ _ _ h => h) (Or.inr ⟨by rfl, rfl⟩) hHeld ?_
      simp only [Act.put, List.setIfInBounds_toArray, List.set_cons_zero, List.set_cons_succ]
      refine wpAnyH_take (i := 24) (v := undef) (by simp only [List.getElem?_toArray, List.getElem?_cons_succ, List.getElem?_cons_zero]; rfl) (by kernel_rfl) (by kernel_rfl) (by kernel_rfl) (by exact fun _ _ _ h => h) (Or.inr ⟨by rfl, rfl⟩) hHeld ?_
      simp only [Act.put, List.setIfInBounds_toArray, List.set_cons_zero, List.set_cons_succ]
      refine wpAnyH_take (i := 25) (v := undef) (by simp only [List.getElem?_toArray, List.getElem?_cons_succ, List.getElem?_cons_zero]; rfl) (by kernel_rfl) (by kernel_rfl) (by kernel_rfl) (by exact fun _ _ _ h => h) (Or.inr ⟨by rfl, rfl⟩) hHeld ?_
      simp only [Act.put, List.setIfInBounds_toArray, List.set_cons_zero, List.set_cons_succ]
      refine wpAnyH_take (i := 26) (v := undef) (by simp only [List.getElem?_toArray, List.getElem?_cons_succ, List.getElem?_cons_zero]; rfl) (by kernel_rfl) (by kernel_rfl) (by kernel_rfl) (by exact fun _ _ _ h => h) (Or.inr ⟨by rfl, rfl⟩) hHeld ?_
      simp only [Act.put, List.setIfInBounds_toArray, List.set_cons_zero, List.set_cons_succ]
      refine wpAnyH_take (i := 27) (v := undef) (by simp only [List.getElem?_toArray, List.getElem?_cons_succ, List.getElem?_cons_zero]; rfl) (by kernel_rfl) (by kernel_rfl) (by kernel_rfl) (by exact fun _ _ _ h => h) (Or.inr ⟨by rfl, rfl⟩) hHeld ?_
      simp only [Act.put, List.setIfInBounds_toArray, List.set_cons_zero, List.set_cons_succ]
      refine wpAnyH_take (i := 28) (v := undef) (by simp only [List.getElem?_toArray, List.getElem?_cons_succ, List.getElem?_cons_zero]; rfl) (by kernel_rfl) (by kernel_rfl) (by kernel_rfl) (by exact fun _ _ _ h => h) (Or.inr ⟨by rfl, rfl⟩) hHeld ?_
      simp only [Act.put, List.setIfInBounds_toArray, List.set_cons_zero, List.set_cons_succ]
      refine wpAnyH_take (i := 29) (v := undef) (by simp only [List.getElem?_toArray, List.getElem?_cons_succ, List.getElem?_cons_zero]; rfl) (by kernel_rfl) (by kernel_rfl) (by kernel_rfl) (by exact fun _ _ _ h => h) (Or.inr ⟨by rfl, rfl⟩) hHeld ?_
      simp only [Act.put, List.setIfInBounds_toArray, List.set_cons_zero, List.set_cons_succ]
      refine wpAnyH_take (i := 30) (v := undef) (by simp only [List.getElem?_toArray, List.getElem?_cons_succ, List.getElem?_cons_zero]; rfl) (by kernel_rfl) (by kernel_rfl) (by kernel_rfl) (by exact fun _ _ _ h => h) (Or.inr ⟨by rfl, rfl⟩) hHeld ?_
      simp only [Act.put, List.setIfInBounds_toArray, List.set_cons_zero, List.set_cons_succ]
      refine wpAnyH_take (i := 31) (v := (.bool true)) (by simp only [List.getElem?_toArray, List.getElem?_cons_succ, List.getElem?_cons_zero]; rfl) (by kernel_rfl) (by kernel_rfl) (by kernel_rfl) (by exact fun _ _ _ h => h) (Or.inl ⟨by rfl, ?_⟩) hHeld ?_
      · (intro w' hw'; obtain ⟨s0, s1, s2, s3⟩ := hw'; go_simp)
      simp only [Act.put, List.setIfInBounds_toArray, List.set_cons_zero, List.set_cons_succ]
      refine wpAnyH_done (by kernel_rfl) ?_ _
      go_wp2_with fail
      go_meet
      exact ⟨by rw [HFV.out]; rfl, HF0.out⟩
    · refine wpAnyH_take (i := 0) (v := (.pointer (some ⟨w.heap.size, 0, none⟩))) (by simp only [List.getElem?_toArray, List.getElem?_cons_zero]; rfl) (by kernel_rfl) (by kernel_rfl) (by kernel_rfl) (by exact fun _ _ _ h => h) (Or.inl ⟨by rfl, ?_⟩) hHeld ?_
      · (intro w' hw'; obtain ⟨s0, s1, s2, s3⟩ := hw'; go_simp)
      simp only [Act.put, List.setIfInBounds_toArray, List.set_cons_zero, List.set_cons_succ]
      refine wpAnyH_take (i := 1) (v := (.int .u8 (c.kind : Nat))) (by simp only [List.getElem?_toArray, List.getElem?_cons_succ, List.getElem?_cons_zero]; rfl) (by kernel_rfl) (by kernel_rfl) (by kernel_rfl) (by exact fun _ _ _ h => h) (Or.inl ⟨by rfl, ?_⟩) hHeld ?_
      · (intro w' hw'; obtain ⟨s0, s1, s2, s3⟩ := hw'; go_simp)
      simp only [Act.put, List.setIfInBounds_toArray, List.set_cons_zero, List.set_cons_succ]
      refine wpAnyH_take (i := 2) (v := (.bool false)) (by simp only [List.getElem?_toArray, List.getElem?_cons_succ, List.getElem?_cons_zero]; rfl) (by kernel_rfl) (by kernel_rfl) (by kernel_rfl) (by exact fun _ _ _ h => h) (Or.inl ⟨by rfl, ?_⟩) hHeld ?_
      · (intro w' hw'; obtain ⟨s0, s1, s2, s3⟩ := hw'; go_simp)
      simp only [Act.put, List.setIfInBounds_toArray, List.set_cons_zero, List.set_cons_succ]
      refine wpAnyH_take (i := 3) (v := (.bool false)) (by simp only [List.getElem?_toArray, List.getElem?_cons_succ, List.getElem?_cons_zero]; rfl) (by kernel_rfl) (by kernel_rfl) (by kernel_rfl) (by exact fun _ _ _ h => h) (Or.inl ⟨by rfl, ?_⟩) hHeld ?_
      · (intro w' hw'; obtain ⟨s0, s1, s2, s3⟩ := hw'; go_simp)
      simp only [Act.put, List.setIfInBounds_toArray, List.set_cons_zero, List.set_cons_succ]
      refine wpAnyH_take (i := 4) (v := (.pointer (some ⟨w.heap.size, 0, none⟩))) (by simp only [List.getElem?_toArray, List.getElem?_cons_succ, List.getElem?_cons_zero]; rfl) (by kernel_rfl) (by kernel_rfl) (by kernel_rfl) (by exact fun _ _ _ h => h) (Or.inl ⟨by rfl, ?_⟩) hHeld ?_
      · (intro w' hw'; obtain ⟨s0, s1, s2, s3⟩ := hw'; go_simp)
      simp only [Act.put, List.setIfInBounds_toArray, List.set_cons_zero, List.set_cons_succ]
      refine wpAnyH_take (i := 5) (v := (.int .u8 (c.kind : Nat))) (by simp only [List.getElem?_toArray, List.getElem?_cons_succ, List.getElem?_cons_zero]; rfl) (by kernel_rfl) (by kernel_rfl) (by kernel_rfl) (by exact fun _ _ _ h => h) (Or.inl ⟨by rfl, ?_⟩) hHeld ?_
      · (intro w' hw'; obtain ⟨s0, s1, s2, s3⟩ := hw'; go_simp)
      simp only [Act.put, List.setIfInBounds_toArray, List.set_cons_zero, List.set_cons_succ]
      refine wpAnyH_take (i := 6) (v := (.bool true)) (by simp only [List.getElem?_toArray, List.getElem?_cons_succ, List.getElem?_cons_zero]; rfl) (by kernel_rfl) (by kernel_rfl) (by kernel_rfl) (by exact fun _ _ _ h => h) (Or.inl ⟨by rfl, ?_⟩) hHeld ?_
      · (intro w' hw'; obtain ⟨s0, s1, s2, s3⟩ := hw'; go_simp)
      simp only [Act.put, List.setIfInBounds_toArray, List.set_cons_zero, List.set_cons_succ]
      refine wpAnyH_take (i := 7) (v := (.bool true)) (by simp only [List.getElem?_toArray, List.getElem?_cons_succ, List.getElem?_cons_zero]; rfl) (by kernel_rfl) (by kernel_rfl) (by kernel_rfl) (by exact fun _ _ _ h => h) (Or.inl ⟨by rfl, ?_⟩) hHeld ?_
      · (intro w' hw'; obtain ⟨s0, s1, s2, s3⟩ := hw'; go_simp)
      simp only [Act.put, List.setIfInBounds_toArray, List.set_cons_zero, List.set_cons_succ]
      refine wpAnyH_take (i := 8) (v := (.bool true)) (by simp only [List.getElem?_toArray, List.getElem?_cons_succ, List.getElem?_cons_zero]; rfl) (by kernel_rfl) (by kernel_rfl) (by kernel_rfl) (by exact fun _ _ _ h => h) (Or.inl ⟨by rfl, ?_⟩) hHeld ?_
      · (intro w' hw'; obtain ⟨s0, s1, s2, s3⟩ := hw'; go_simp)
      simp only [Act.put, List.setIfInBounds_toArray, List.set_cons_zero, List.set_cons_succ]
      refine wpAnyH_take (i := 9) (v := undef) (by simp only [List.getElem?_toArray, List.getElem?_cons_succ, List.getElem?_cons_zero]; rfl) (by kernel_rfl) (by kernel_rfl) (by kernel_rfl) (by exact fun _ _ _ h => h) (Or.inr ⟨by rfl, rfl⟩) hHeld ?_
      simp only [Act.put, List.setIfInBounds_toArray, List.set_cons_zero, List.set_cons_succ]
      refine wpAnyH_take (i := 10) (v := undef) (by simp only [List.getElem?_toArray, List.getElem?_cons_succ, List.getElem?_cons_zero]; rfl) (by kernel_rfl) (by kernel_rfl) (by kernel_rfl) (by exact fun _ _ _ h => h) (Or.inr ⟨by rfl, rfl⟩) hHeld ?_
      simp only [Act.put, List.setIfInBounds_toArray, List.set_cons_zero, List.set_cons_succ]
      refine wpAnyH_take (i := 11) (v := undef) (by simp only [List.getElem?_toArray, List.getElem?_cons_succ, List.getElem?_cons_zero]; rfl) (by kernel_rfl) (by kernel_rfl) (by kernel_rfl) (by exact fun _ _ _ h => h) (Or.inr ⟨by rfl, rfl⟩) hHeld ?_
      simp only [Act.put, List.setIfInBounds_toArray, List.set_cons_zero, List.set_cons_succ]
      refine wpAnyH_take (i := 12) (v := undef) (by simp only [List.getElem?_toArray, List.getElem?_cons_succ, List.getElem?_cons_zero]; rfl) (by kernel_rfl) (by kernel_rfl) (by kernel_rfl) (by exact fun _ _ _ h => h) (Or.inr ⟨by rfl, rfl⟩) hHeld ?_
      simp only [Act.put, List.setIfInBounds_toArray, List.set_cons_zero, List.set_cons_succ]
      refine wpAnyH_take (i := 13) (v := (.bool true)) (by simp only [List.getElem?_toArray, List.getElem?_cons_succ, List.getElem?_cons_zero]; rfl) (by kernel_rfl) (by kernel_rfl) (by kernel_rfl) (by exact fun _ _ _ h => h) (Or.inl ⟨by rfl, ?_⟩) hHeld ?_
      · (intro w' hw'; obtain ⟨s0, s1, s2, s3⟩ := hw'; go_simp)
      simp only [Act.put, List.setIfInBounds_toArray, List.set_cons_zero, List.set_cons_succ]
      refine wpAnyH_take (i := 14) (v := (.bool true)) (by simp only [List.getElem?_toArray, List.getElem?_cons_succ, List.getElem?_cons_zero]; rfl) (by kernel_rfl) (by kernel_rfl) (by kernel_rfl) (by exact fun _ _ _ h => h) (Or.inl ⟨by rfl, ?_⟩) hHeld ?_
      · (intro w' hw'; obtain ⟨s0, s1, s2, s3⟩ := hw'; go_simp)
      simp only [Act.put, List.setIfInBounds_toArray, List.set_cons_zero, List.set_cons_succ]
      refine wpAnyH_take (i := 15) (v := undef) (by simp only [List.getElem?_toArray, List.getElem?_cons_succ, List.getElem?_cons_zero]; rfl) (by kernel_rfl) (by kernel_rfl) (by kernel_rfl) (by exact fun _ _ _ h => h) (Or.inr ⟨by rfl, rfl⟩) hHeld ?_
      simp only [Act.put, List.setIfInBounds_toArray, List.set_cons_zero, List.set_cons_succ]
      refine wpAnyH_take (i := 16) (v := undef) (by simp only [List.getElem?_toArray, List.getElem?_cons_succ, List.getElem?_cons_zero]; rfl) (by kernel_rfl) (by kernel_rfl) (by kernel_rfl) (by exact fun _ _ _ h => h) (Or.inr ⟨by rfl, rfl⟩) hHeld ?_
      simp only [Act.put, List.setIfInBounds_toArray, List.set_cons_zero, List.set_cons_succ]
      refine wpAnyH_take (i := 17) (v := undef) (by simp only [List.getElem?_toArray, List.getElem?_cons_succ, List.getElem?_cons_zero]; rfl) (by kernel_rfl) (by kernel_rfl) (by kernel_rfl) (by exact fun _ _ _ h => h) (Or.inr ⟨by rfl, rfl⟩) hHeld ?_
      simp only [Act.put, List.setIfInBounds_toArray, List.set_cons_zero, List.set_cons_succ]
      refine wpAnyH_take (i := 18) (v := undef) (by simp only [List.getElem?_toArray, List.getElem?_cons_succ, List.getElem?_cons_zero]; rfl) (by kernel_rfl) (by kernel_rfl) (by kernel_rfl) (by exact fun _ _ _ h => h) (Or.inr ⟨by rfl, rfl⟩) hHeld ?_
      simp only [Act.put, List.setIfInBounds_toArray, List.set_cons_zero, List.set_cons_succ]
      refine wpAnyH_take (i := 19) (v := (.bool true)) (by simp only [List.getElem?_toArray, List.getElem?_cons_succ, List.getElem?_cons_zero]; rfl) (by kernel_rfl) (by kernel_rfl) (by kernel_rfl) (by exact fun _ _ _ h => h) (Or.inl ⟨by rfl, ?_⟩) hHeld ?_
      · (intro w' hw'; obtain ⟨s0, s1, s2, s3⟩ := hw'; go_simp)
      simp only [Act.put, List.setIfInBounds_toArray, List.set_cons_zero, List.set_cons_succ]
      refine wpAnyH_take (i := 20) (v := (.bool true)) (by simp only [List.getElem?_toArray, List.getElem?_cons_succ, List.getElem?_cons_zero]; rfl) (by kernel_rfl) (by kernel_rfl) (by kernel_rfl) (by exact fun _ _ _ h => h) (Or.inl ⟨by rfl, ?_⟩) hHeld ?_
      · (intro w' hw'; obtain ⟨s0, s1, s2, s3⟩ := hw'; go_simp)
      simp only [Act.put, List.setIfInBounds_toArray, List.set_cons_zero, List.set_cons_succ]
      refine wpAnyH_take (i := 21) (v := undef) (by simp only [List.getElem?_toArray, List.getElem?_cons_succ, List.getElem?_cons_zero]; rfl) (by kernel_rfl) (by kernel_rfl) (by kernel_rfl) (by exact fun _ _ _ h => h) (Or.inr ⟨by rfl, rfl⟩) hHeld ?_
      simp only [Act.put, List.setIfInBounds_toArray, List.set_cons_zero, List.set_cons_succ]
      refine wpAnyH_take (i := 22) (v := undef) (by simp only [List.getElem?_toArray, List.getElem?_cons_succ, List.getElem?_cons_zero]; rfl) (by kernel_rfl) (by kernel_rfl) (by kernel_rfl) (by exact fun _ _ _ h => h) (Or.inr ⟨by rfl, rfl⟩) hHeld ?_
      simp only [Act.put, List.setIfInBounds_toArray, List.set_cons_zero, List.set_cons_succ]
      refine wpAnyH_take (i := 23) (v := undef) (by simp only [List.getElem?_toArray, List.getElem?_cons_succ, List.getElem?_cons_zero]; rfl) (by kernel_rfl) (by kernel_rfl) (by kernel_rfl) (by exact fun _ _ _ h => h) (Or.inr ⟨by rfl, rfl⟩) hHeld ?_
      simp only [Act.put, List.setIfInBounds_toArray, List.set_cons_zero, List.set_cons_succ]
      refine wpAnyH_take (i := 24) (v := undef) (by simp only [List.getElem?_toArray, List.getElem?_cons_succ, List.getElem?_cons_zero]; rfl) (by kernel_rfl) (by kernel_rfl) (by kernel_rfl) (by exact fun _ _ _ h => h) (Or.inr ⟨by rfl, rfl⟩) hHeld ?_
      simp only [Act.put, List.setIfInBounds_toArray, List.set_cons_zero, List.set_cons_succ]
      refine wpAnyH_take (i := 25) (v := undef) (by simp only [List.getElem?_toArray, List.getElem?_cons_succ, List.getElem?_cons_zero]; rfl) (by kernel_rfl) (by kernel_rfl) (by kernel_rfl) (by exact fun _ _ _ h => h) (Or.inr ⟨by rfl, rfl⟩) hHeld ?_
      simp only [Act.put, List.setIfInBounds_toArray, List.set_cons_zero, List.set_cons_succ]
      refine wpAnyH_take (i := 26) (v := undef) (by simp only [List.getElem?_toArray, List.getElem?_cons_succ, List.getElem?_cons_zero]; rfl) (by kernel_rfl) (by kernel_rfl) (by kernel_rfl) (by exact fun _ _ _ h => h) (Or.inr ⟨by rfl, rfl⟩) hHeld ?_
      simp only [Act.put, List.setIfInBounds_toArray, List.set_cons_zero, List.set_cons_succ]
      refine wpAnyH_take (i := 27) (v := undef) (by simp only [List.getElem?_toArray, List.getElem?_cons_succ, List.getElem?_cons_zero]; rfl) (by kernel_rfl) (by kernel_rfl) (by kernel_rfl) (by exact fun _ _ _ h => h) (Or.inr ⟨by rfl, rfl⟩) hHeld ?_
      simp only [Act.put, List.setIfInBounds_toArray, List.set_cons_zero, List.set_cons_succ]
      refine wpAnyH_take (i := 28) (v := undef) (by simp only [List.getElem?_toArray, List.getElem?_cons_succ, List.getElem?_cons_zero]; rfl) (by kernel_rfl) (by kernel_rfl) (by kernel_rfl) (by exact fun _ _ _ h => h) (Or.inr ⟨by rfl, rfl⟩) hHeld ?_
      simp only [Act.put, List.setIfInBounds_toArray, List.set_cons_zero, List.set_cons_succ]
      refine wpAnyH_take (i := 29) (v := undef) (by simp only [List.getElem?_toArray, List.getElem?_cons_succ, List.getElem?_cons_zero]; rfl) (by kernel_rfl) (by kernel_rfl) (by kernel_rfl) (by exact fun _ _ _ h => h) (Or.inr ⟨by rfl, rfl⟩) hHeld ?_
      simp only [Act.put, List.setIfInBounds_toArray, List.set_cons_zero, List.set_cons_succ]
      refine wpAnyH_take (i := 30) (v := undef) (by simp only [List.getElem?_toArray, List.getElem?_cons_succ, List.getElem?_cons_zero]; rfl) (by kernel_rfl) (by kernel_rfl) (by kernel_rfl) (by exact fun _ _ _ h => h) (Or.inr ⟨by rfl, rfl⟩) hHeld ?_
      simp only [Act.put, List.setIfInBounds_toArray, List.set_cons_zero, List.set_cons_succ]
      refine wpAnyH_take (i := 31) (v := (.bool true)) (by simp only [List.getElem?_toArray, List.getElem?_cons_succ, List.getElem?_cons_zero]; rfl) (by kernel_rfl) (by kernel_rfl) (by kernel_rfl) (by exact fun _ _ _ h => h) (Or.inl ⟨by rfl, ?_⟩) hHeld ?_
      · (intro w' hw'; obtain ⟨s0, s1, s2, s3⟩ := hw'; go_simp)
      simp only [Act.put, List.setIfInBounds_toArray, List.set_cons_zero, List.set_cons_succ]
      refine wpAnyH_done (by kernel_rfl) ?_ _
      go_wp2_with fail
      go_meet
      exact ⟨by rw [HFV.out]; rfl, HF0.out⟩
    · refine wpAnyH_take (i := 0) (v := (.pointer (some ⟨w.heap.size, 0, none⟩))) (by simp only [List.getElem?_toArray, List.getElem?_cons_zero]; rfl) (by kernel_rfl) (by kernel_rfl) (by kernel_rfl) (by exact fun _ _ _ h => h) (Or.inl ⟨by rfl, ?_⟩) hHeld ?_
      · (intro w' hw'; obtain ⟨s0, s1, s2, s3⟩ := hw'; go_simp)
      simp only [Act.put, List.setIfInBounds_toArray, List.set_cons_zero, List.set_cons_succ]
      refine wpAnyH_take (i := 1) (v := (.int .u8 (c.kind : Nat))) (by simp only [List.getElem?_toArray, List.getElem?_cons_succ, List.getElem?_cons_zero]; rfl) (by kernel_rfl) (by kernel_rfl) (by kernel_rfl) (by exact fun _ _ _ h => h) (Or.inl ⟨by rfl, ?_⟩) hHeld ?_
      · (intro w' hw'; obtain ⟨s0, s1, s2, s3⟩ := hw'; go_simp)
      simp only [Act.put, List.setIfInBounds_toArray, List.set_cons_zero, List.set_cons_succ]
      refine wpAnyH_take (i := 2) (v := (.bool false)) (by simp only [List.getElem?_toArray, List.getElem?_cons_succ, List.getElem?_cons_zero]; rfl) (by kernel_rfl) (by kernel_rfl) (by kernel_rfl) (by exact fun _ _ _ h => h) (Or.inl ⟨by rfl, ?_⟩) hHeld ?_
      · (intro w' hw'; obtain ⟨s0, s1, s2, s3⟩ := hw'; go_simp)
      simp only [Act.put, List.setIfInBounds_toArray, List.set_cons_zero, List.set_cons_succ]
      refine wpAnyH_take (i := 3) (v := (.bool false)) (by simp only [List.getElem?_toArray, List.getElem?_cons_succ, List.getElem?_cons_zero]; rfl) (by kernel_rfl) (by kernel_rfl) (by kernel_rfl) (by exact fun _ _ _ h => h) (Or.inl ⟨by rfl, ?_⟩) hHeld ?_
      · (intro w' hw'; obtain ⟨s0, s1, s2, s3⟩ := hw'; go_simp)
      simp only [Act.put, List.setIfInBounds_toArray, List.set_cons_zero, List.set_cons_succ]
      refine wpAnyH_take (i := 4) (v := (.pointer (some ⟨w.heap.size, 0, none⟩))) (by simp only [List.getElem?_toArray, List.getElem?_cons_succ, List.getElem?_cons_zero]; rfl) (by kernel_rfl) (by kernel_rfl) (by kernel_rfl) (by exact fun _ _ _ h => h) (Or.inl ⟨by rfl, ?_⟩) hHeld ?_
      · (intro w' hw'; obtain ⟨s0, s1, s2, s3⟩ := hw'; go_simp)
      simp only [Act.put, List.setIfInBounds_toArray, List.set_cons_zero, List.set_cons_succ]
      refine wpAnyH_take (i := 5) (v := (.int .u8 (c.kind : Nat))) (by simp only [List.getElem?_toArray, List.getElem?_cons_succ, List.getElem?_cons_zero]; rfl) (by kernel_rfl) (by kernel_rfl) (by kernel_rfl) (by exact fun _ _ _ h => h) (Or.inl ⟨by rfl, ?_⟩) hHeld ?_
      · (intro w' hw'; obtain ⟨s0, s1, s2, s3⟩ := hw'; go_simp)
      simp only [Act.put, List.setIfInBounds_toArray, List.set_cons_zero, List.set_cons_succ]
      refine wpAnyH_take (i := 6) (v := (.bool false)) (by simp only [List.getElem?_toArray, List.getElem?_cons_succ, List.getElem?_cons_zero]; rfl) (by kernel_rfl) (by kernel_rfl) (by kernel_rfl) (by exact fun _ _ _ h => h) (Or.inl ⟨by rfl, ?_⟩) hHeld ?_
      · (intro w' hw'; obtain ⟨s0, s1, s2, s3⟩ := hw'; go_simp)
      simp only [Act.put, List.setIfInBounds_toArray, List.set_cons_zero, List.set_cons_succ]
      refine wpAnyH_take (i := 7) (v := (.bool false)) (by simp only [List.getElem?_toArray, List.getElem?_cons_succ, List.getElem?_cons_zero]; rfl) (by kernel_rfl) (by kernel_rfl) (by kernel_rfl) (by exact fun _ _ _ h => h) (Or.inl ⟨by rfl, ?_⟩) hHeld ?_
      · (intro w' hw'; obtain ⟨s0, s1, s2, s3⟩ := hw'; go_simp)
      simp only [Act.put, List.setIfInBounds_toArray, List.set_cons_zero, List.set_cons_succ]
      refine wpAnyH_take (i := 8) (v := (.bool false)) (by simp only [List.getElem?_toArray, List.getElem?_cons_succ, List.getElem?_cons_zero]; rfl) (by kernel_rfl) (by kernel_rfl) (by kernel_rfl) (by exact fun _ _ _ h => h) (Or.inl ⟨by rfl, ?_⟩) hHeld ?_
      · (intro w' hw'; obtain ⟨s0, s1, s2, s3⟩ := hw'; go_simp)
      simp only [Act.put, List.setIfInBounds_toArray, List.set_cons_zero, List.set_cons_succ]
      refine wpAnyH_take (i := 9) (v := (.agg (callCells c))) (by simp only [List.getElem?_toArray, List.getElem?_cons_succ, List.getElem?_cons_zero]; rfl) (by kernel_rfl) (by kernel_rfl) (by kernel_rfl) (by exact fun _ _ _ h => h) (Or.inl ⟨by rfl, ?_⟩) hHeld ?_
      · (intro w' hw'; obtain ⟨s0, s1, s2, s3⟩ := hw'; exact exec_load_row 31 (.tmp 1) rfl w.heap.size rfl 31 _ _ _ s0 Tryz.underlying31 rfl infoCall)
      simp only [Act.put, List.setIfInBounds_toArray, List.set_cons_zero, List.set_cons_succ]
      refine wpAnyH_take (i := 10) (v := (.agg (callCells c))) (by simp only [List.getElem?_toArray, List.getElem?_cons_succ, List.getElem?_cons_zero]; rfl) (by kernel_rfl) (by kernel_rfl) (by kernel_rfl) (by exact fun _ _ _ h => h) (Or.inl ⟨by rfl, ?_⟩) hHeld ?_
      · (intro w' hw'; obtain ⟨s0, s1, s2, s3⟩ := hw'; exact exec_load_row 31 (.tmp 1) rfl w.heap.size rfl 31 _ _ _ s0 Tryz.underlying31 rfl infoCall)
      simp only [Act.put, List.setIfInBounds_toArray, List.set_cons_zero, List.set_cons_succ]
      refine wpAnyH_ready (rs := [11]) (by kernel_rfl) (by simp) ?_
      refine AllReadyH.cons rfl (fun K hK => ?_) AllReadyH.nil
      rw [if_pos (by rfl)]
      go_simp
      refine (HO.out _).mono ?_
      rintro e w2 ⟨rfl, hf2⟩
      have HF2 : Hid (Fr [] w1 w2) := HF0.out.andThen hf2
      have hb2 := hf2.blockAs hbD (by simp)
      have q0 := hf2.cellAs d0 (by simp)
      have q6 := hf2.cellAs d6 (by simp)
      have q7 := hf2.cellAs d7 (by simp)
      go_wp2_with fail
      refine hK.out _ _ ⟨hb2, q0, q6, q7⟩ (fun hHeld => ?_)
      clear hK K
      try simp only [Act.put, List.setIfInBounds_toArray, List.set_cons_zero, List.set_cons_succ]
      refine wpAnyH_take (i := 12) (v := (.bool true)) (by simp only [List.getElem?_toArray, List.getElem?_cons_succ, List.getElem?_cons_zero]; rfl) (by kernel_rfl) (by kernel_rfl) (by kernel_rfl) (by exact fun _ _ _ h => h) (Or.inl ⟨by rfl, ?_⟩) hHeld ?_
      · (intro w' hw'; obtain ⟨s0, s1, s2, s3⟩ := hw'; go_simp)
      simp only [Act.put, List.setIfInBounds_toArray, List.set_cons_zero, List.set_cons_succ]
      refine wpAnyH_take (i := 13) (v := (.bool true)) (by simp only [List.getElem?_toArray, List.getElem?_cons_succ, List.getElem?_cons_zero]; rfl) (by kernel_rfl) (by kernel_rfl) (by kernel_rfl) (by exact fun _ _ _ h => h) (Or.inl ⟨by rfl, ?_⟩) hHeld ?_
      · (intro w' hw'; obtain ⟨s0, s1, s2, s3⟩ := hw'; go_simp)
      simp only [Act.put, List.setIfInBounds_toArray, List.set_cons_zero, List.set_cons_succ]
      refine wpAnyH_take (i := 14) (v := (.bool true)) (by simp only [List.getElem?_toArray, List.getElem?_cons_succ, List.getElem?_cons_zero]; rfl) (by kernel_rfl) (by kernel_rfl) (by kernel_rfl) (by exact fun _ _ _ h => h) (Or.inl ⟨by rfl, ?_⟩) hHeld ?_
      · (intro w' hw'; obtain ⟨s0, s1, s2, s3⟩ := hw'; go_simp)
      simp only [Act.put, List.setIfInBounds_toArray, List.set_cons_zero, List.set_cons_succ]
      refine wpAnyH_take (i := 15) (v := undef) (by simp only [List.getElem?_toArray, List.getElem?_cons_succ, List.getElem?_cons_zero]; rfl) (by kernel_rfl) (by kernel_rfl) (by kernel_rfl) (by exact fun _ _ _ h => h) (Or.inr ⟨by rfl, rfl⟩) hHeld ?_
      simp only [Act.put, List.setIfInBounds_toArray, List.set_cons_zero, List.set_cons_succ]
      refine wpAnyH_take (i := 16) (v := undef) (by simp only [List.getElem?_toArray, List.getElem?_cons_succ, List.getElem?_cons_zero]; rfl) (by kernel_rfl) (by kernel_rfl) (by kernel_rfl) (by exact fun _ _ _ h => h) (Or.inr ⟨by rfl, rfl⟩) hHeld ?_
      simp only [Act.put, List.setIfInBounds_toArray, List.set_cons_zero, List.set_cons_succ]
      refine wpAnyH_take (i := 17) (v := undef) (by simp only [List.getElem?_toArray, List.getElem?_cons_succ, List.getElem?_cons_zero]; rfl) (by kernel_rfl) (by kernel_rfl) (by kernel_rfl) (by exact fun _ _ _ h => h) (Or.inr ⟨by rfl, rfl⟩) hHeld ?_
      simp only [Act.put, List.setIfInBounds_toArray, List.set_cons_zero, List.set_cons_succ]
      refine wpAnyH_take (i := 18) (v := undef) (by simp only [List.getElem?_toArray, List.getElem?_cons_succ, List.getElem?_cons_zero]; rfl) (by kernel_rfl) (by kernel_rfl) (by kernel_rfl) (by exact fun _ _ _ h => h) (Or.inr ⟨by rfl, rfl⟩) hHeld ?_
      simp only [Act.put, List.setIfInBounds_toArray, List.set_cons_zero, List.set_cons_succ]
      refine wpAnyH_take (i := 19) (v := (.bool true)) (by simp only [List.getElem?_toArray, List.getElem?_cons_succ, List.getElem?_cons_zero]; rfl) (by kernel_rfl) (by kernel_rfl) (by kernel_rfl) (by exact fun _ _ _ h => h) (Or.inl ⟨by rfl, ?_⟩) hHeld ?_
      · (intro w' hw'; obtain ⟨s0, s1, s2, s3⟩ := hw'; go_simp)
      simp only [Act.put, List.setIfInBounds_toArray, List.set_cons_zero, List.set_cons_succ]
      refine wpAnyH_take (i := 20) (v := (.bool true)) (by simp only [List.getElem?_toArray, List.getElem?_cons_succ, List.getElem?_cons_zero]; rfl) (by kernel_rfl) (by kernel_rfl) (by kernel_rfl) (by exact fun _ _ _ h => h) (Or.inl ⟨by rfl, ?_⟩) hHeld ?_
      · (intro w' hw'; obtain ⟨s0, s1, s2, s3⟩ := hw'; go_simp)
      simp only [Act.put, List.setIfInBounds_toArray, List.set_cons_zero, List.set_cons_succ]
      refine wpAnyH_take (i := 21) (v := undef) (by simp only [List.getElem?_toArray, List.getElem?_cons_succ, List.getElem?_cons_zero]; rfl) (by kernel_rfl) (by kernel_rfl) (by kernel_rfl) (by exact fun _ _ _ h => h) (Or.inr ⟨by rfl, rfl⟩) hHeld ?_
      simp only [Act.put, List.setIfInBounds_toArray, List.set_cons_zero, List.set_cons_succ]
      refine wpAnyH_take (i := 22) (v := undef) (by simp only [List.getElem?_toArray, List.getElem?_cons_succ, List.getElem?_cons_zero]; rfl) (by kernel_rfl) (by kernel_rfl) (by kernel_rfl) (by exact fun _ _ _ h => h) (Or.inr ⟨by rfl, rfl⟩) hHeld ?_
      simp only [Act.put, List.setIfInBounds_toArray, List.set_cons_zero, List.set_cons_succ]
      refine wpAnyH_take (i := 23) (v := undef) (by simp only [List.getElem?_toArray, List.getElem?_cons_succ, List.getElem?_cons_zero]; rfl) (by kernel_rfl) (by kernel_rfl) (by kernel_rfl) (by exact fun _ _ _ h => h) (Or.inr ⟨by rfl, rfl⟩) hHeld ?_
      simp only [Act.put, List.setIfInBounds_toArray, List.set_cons_zero, List.set_cons_succ]
      refine wpAnyH_take (i := 24) (v := undef) (by simp only [List.getElem?_toArray, List.getElem?_cons_succ, List.getElem?_cons_zero]; rfl) (by kernel_rfl) (by kernel_rfl) (by kernel_rfl) (by exact fun _ _ _ h => h) (Or.inr ⟨by rfl, rfl⟩) hHeld ?_
      simp only [Act.put, List.setIfInBounds_toArray, List.set_cons_zero, List.set_cons_succ]
      refine wpAnyH_take (i := 25) (v := undef) (by simp only [List.getElem?_toArray, List.getElem?_cons_succ, List.getElem?_cons_zero]; rfl) (by kernel_rfl) (by kernel_rfl) (by kernel_rfl) (by exact fun _ _ _ h => h) (Or.inr ⟨by rfl, rfl⟩) hHeld ?_
      simp only [Act.put, List.setIfInBounds_toArray, List.set_cons_zero, List.set_cons_succ]
      refine wpAnyH_take (i := 26) (v := undef) (by simp only [List.getElem?_toArray, List.getElem?_cons_succ, List.getElem?_cons_zero]; rfl) (by kernel_rfl) (by kernel_rfl) (by kernel_rfl) (by exact fun _ _ _ h => h) (Or.inr ⟨by rfl, rfl⟩) hHeld ?_
      simp only [Act.put, List.setIfInBounds_toArray, List.set_cons_zero, List.set_cons_succ]
      refine wpAnyH_take (i := 27) (v := undef) (by simp only [List.getElem?_toArray, List.getElem?_cons_succ, List.getElem?_cons_zero]; rfl) (by kernel_rfl) (by kernel_rfl) (by kernel_rfl) (by exact fun _ _ _ h => h) (Or.inr ⟨by rfl, rfl⟩) hHeld ?_
      simp only [Act.put, List.setIfInBounds_toArray, List.set_cons_zero, List.set_cons_succ]
      refine wpAnyH_take (i := 28) (v := undef) (by simp only [List.getElem?_toArray, List.getElem?_cons_succ, List.getElem?_cons_zero]; rfl) (by kernel_rfl) (by kernel_rfl) (by kernel_rfl) (by exact fun _ _ _ h => h) (Or.inr ⟨by rfl, rfl⟩) hHeld ?_
      simp only [Act.put, List.setIfInBounds_toArray, List.set_cons_zero, List.set_cons_succ]
      refine wpAnyH_take (i := 29) (v := undef) (by simp only [List.getElem?_toArray, List.getElem?_cons_succ, List.getElem?_cons_zero]; rfl) (by kernel_rfl) (by kernel_rfl) (by kernel_rfl) (by exact fun _ _ _ h => h) (Or.inr ⟨by rfl, rfl⟩) hHeld ?_
      simp only [Act.put, List.setIfInBounds_toArray, List.set_cons_zero, List.set_cons_succ]
      refine wpAnyH_take (i := 30) (v := undef) (by simp only [List.getElem?_toArray, List.getElem?_cons_succ, List.getElem?_cons_zero]; rfl) (by kernel_rfl) (by kernel_rfl) (by kernel_rfl) (by exact fun _ _ _ h => h) (Or.inr ⟨by rfl, rfl⟩) hHeld ?_
      simp only [Act.put, List.setIfInBounds_toArray, List.set_cons_zero, List.set_cons_succ]
      refine wpAnyH_take (i := 31) (v := (.bool true)) (by simp only [List.getElem?_toArray, List.getElem?_cons_succ, List.getElem?_cons_zero]; rfl) (by kernel_rfl) (by kernel_rfl) (by kernel_rfl) (by exact fun _ _ _ h => h) (Or.inl ⟨by rfl, ?_⟩) hHeld ?_
      · (intro w' hw'; obtain ⟨s0, s1, s2, s3⟩ := hw'; go_simp)
      simp only [Act.put, List.setIfInBounds_toArray, List.set_cons_zero, List.set_cons_succ]
      refine wpAnyH_done (by kernel_rfl) ?_ _
      go_wp2_with fail
      go_meet
      exact ⟨by rw [HFV.out]; rfl, HF2.out⟩
    · refine wpAnyH_take (i := 0) (v := (.pointer (some ⟨w.heap.size, 0, none⟩))) (by simp only [List.getElem?_toArray, List.getElem?_cons_zero]; rfl) (by kernel_rfl) (by kernel_rfl) (by kernel_rfl) (by exact fun _ _ _ h => h) (Or.inl ⟨by rfl, ?_⟩) hHeld ?_
      · (intro w' hw'; obtain ⟨s0, s1, s2, s3⟩ := hw'; go_simp)
      simp only [Act.put, List.setIfInBounds_toArray, List.set_cons_zero, List.set_cons_succ]
      refine wpAnyH_take (i := 1) (v := (.int .u8 (c.kind : Nat))) (by simp only [List.getElem?_toArray, List.getElem?_cons_succ, List.getElem?_cons_zero]; rfl) (by kernel_rfl) (by kernel_rfl) (by kernel_rfl) (by exact fun _ _ _ h => h) (Or.inl ⟨by rfl, ?_⟩) hHeld ?_
      · (intro w' hw'; obtain ⟨s0, s1, s2, s3⟩ := hw'; go_simp)
      simp only [Act.put, List.setIfInBounds_toArray, List.set_cons_zero, List.set_cons_succ]
      refine wpAnyH_take (i := 2) (v := (.bool false)) (by simp only [List.getElem?_toArray, List.getElem?_cons_succ, List.getElem?_cons_zero]; rfl) (by kernel_rfl) (by kernel_rfl) (by kernel_rfl) (by exact fun _ _ _ h => h) (Or.inl ⟨by rfl, ?_⟩) hHeld ?_
      · (intro w' hw'; obtain ⟨s0, s1, s2, s3⟩ := hw'; go_simp)
      simp only [Act.put, List.setIfInBounds_toArray, List.set_cons_zero, List.set_cons_succ]
      refine wpAnyH_take (i := 3) (v := (.bool false)) (by simp only [List.getElem?_toArray, List.getElem?_cons_succ, List.getElem?_cons_zero]; rfl) (by kernel_rfl) (by kernel_rfl) (by kernel_rfl) (by exact fun _ _ _ h => h) (Or.inl ⟨by rfl, ?_⟩) hHeld ?_
      · (intro w' hw'; obtain ⟨s0, s1, s2, s3⟩ := hw'; go_simp)
      simp only [Act.put, List.setIfInBounds_toArray, List.set_cons_zero, List.set_cons_succ]
      refine wpAnyH_take (i := 4) (v := (.pointer (some ⟨w.heap.size, 0, none⟩))) (by simp only [List.getElem?_toArray, List.getElem?_cons_succ, List.getElem?_cons_zero]; rfl) (by kernel_rfl) (by kernel_rfl) (by kernel_rfl) (by exact fun _ _ _ h => h) (Or.inl ⟨by rfl, ?_⟩) hHeld ?_
      · (intro w' hw'; obtain ⟨s0, s1, s2, s3⟩ := hw'; go_simp)
      simp only [Act.put, List.setIfInBounds_toArray, List.set_cons_zero, List.set_cons_succ]
      refine wpAnyH_take (i := 5) (v := (.int .u8 (c.kind : Nat))) (by simp only [List.getElem?_toArray, List.getElem?_cons_succ, List.getElem?_cons_zero]; rfl) (by kernel_rfl) (by kernel_rfl) (by kernel_rfl) (by exact fun _ _ _ h => h) (Or.inl ⟨by rfl, ?_⟩) hHeld ?_
      · (intro w' hw'; obtain ⟨s0, s1, s2, s3⟩ := hw'; go_simp)
      simp only [Act.put, List.setIfInBounds_toArray, List.set_cons_zero, List.set_cons_succ]
      refine wpAnyH_take (i := 6) (v := (.bool false)) (by simp only [List.getElem?_toArray, List.getElem?_cons_succ, List.getElem?_cons_zero]; rfl) (by kernel_rfl) (by kernel_rfl) (by kernel_rfl) (by exact fun _ _ _ h => h) (Or.inl ⟨by rfl, ?_⟩) hHeld ?_
      · (intro w' hw'; obtain ⟨s0, s1, s2, s3⟩ := hw'; go_simp)
      simp only [Act.put, List.setIfInBounds_toArray, List.set_cons_zero, List.set_cons_succ]
      refine wpAnyH_take (i := 7) (v := (.bool false)) (by simp only [List.getElem?_toArray, List.getElem?_cons_succ, List.getElem?_cons_zero]; rfl) (by kernel_rfl) (by kernel_rfl) (by kernel_rfl) (by exact fun _ _ _ h => h) (Or.inl ⟨by rfl, ?_⟩) hHeld ?_
      · (intro w' hw'; obtain ⟨s0, s1, s2, s3⟩ := hw'; go_simp)
      simp only [Act.put, List.setIfInBounds_toArray, List.set_cons_zero, List.set_cons_succ]
      refine wpAnyH_take (i := 8) (v := (.bool false)) (by simp only [List.getElem?_toArray, List.getElem?_cons_succ, List.getElem?_cons_zero]; rfl) (by kernel_rfl) (by kernel_rfl) (by kernel_rfl) (by exact fun _ _ _ h => h) (Or.inl ⟨by rfl, ?_⟩) hHeld ?_
      · (intro w' hw'; obtain ⟨s0, s1, s2, s3⟩ := hw'; go_simp)
      simp only [Act.put, List.setIfInBounds_toArray, List.set_cons_zero, List.set_cons_succ]
      refine wpAnyH_take (i := 9) (v := (.agg (callCells c))) (by simp only [List.getElem?_toArray, List.getElem?_cons_succ, List.getElem?_cons_zero]; rfl) (by kernel_rfl) (by kernel_rfl) (by kernel_rfl) (by exact fun _ _ _ h => h) (Or.inl ⟨by rfl, ?_⟩) hHeld ?_
      · (intro w' hw'; obtain ⟨s0, s1, s2, s3⟩ := hw'; exact exec_load_row 31 (.tmp 1) rfl w.heap.size rfl 31 _ _ _ s0 Tryz.underlying31 rfl infoCall)
      simp only [Act.put, List.setIfInBounds_toArray, List.set_cons_zero, List.set_cons_succ]
      refine wpAnyH_take (i := 10) (v := (.agg (callCells c))) (by simp only [List.getElem?_toArray, List.getElem?_cons_succ, List.getElem?_cons_zero]; rfl) (by kernel_rfl) (by kernel_rfl) (by kernel_rfl) (by exact fun _ _ _ h => h) (Or.inl ⟨by rfl, ?_⟩) hHeld ?_
      · (intro w' hw'; obtain ⟨s0, s1, s2, s3⟩ := hw'; exact exec_load_row 31 (.tmp 1) rfl w.heap.size rfl 31 _ _ _ s0 Tryz.underlying31 rfl infoCall)
      simp only [Act.put, List.setIfInBounds_toArray, List.set_cons_zero, List.set_cons_succ]
      refine wpAnyH_ready (rs := [11]) (by kernel_rfl) (by simp) ?_
      refine AllReadyH.cons rfl (fun K hK => ?_) AllReadyH.nil
      rw [if_pos (by rfl)]
      go_simp
      refine (HO.out _).mono ?_
      rintro e w2 ⟨rfl, hf2⟩
      have HF2 : Hid (Fr [] w1 w2) := HF0.out.andThen hf2
      have hb2 := hf2.blockAs hbD (by simp)
      have q0 := hf2.cellAs d0 (by simp)
      have q6 := hf2.cellAs d6 (by simp)
      have q7 := hf2.cellAs d7 (by simp)
      go_wp2_with fail
      refine hK.out _ _ ⟨hb2, q0, q6, q7⟩ (fun hHeld => ?_)
      clear hK K
      try simp only [Act.put, List.setIfInBounds_toArray, List.set_cons_zero, List.set_cons_succ]
      refine wpAnyH_take (i := 12) (v := (.bool false)) (by simp only [List.getElem?_toArray, List.getElem?_cons_succ, List.getElem?_cons_zero]; rfl) (by kernel_rfl) (by kernel_rfl) (by kernel_rfl) (by exact fun _ _ _ h => h) (Or.inl ⟨by rfl, ?_⟩) hHeld ?_
      · (intro w' hw'; obtain ⟨s0, s1, s2, s3⟩ := hw'; go_simp)
      simp only [Act.put, List.setIfInBounds_toArray, List.set_cons_zero, List.set_cons_succ]
      refine wpAnyH_take (i := 13) (v := (.bool false)) (by simp only [List.getElem?_toArray, List.getElem?_cons_succ, List.getElem?_cons_zero]; rfl) (by kernel_rfl) (by kernel_rfl) (by kernel_rfl) (by exact fun _ _ _ h => h) (Or.inl ⟨by rfl, ?_⟩) hHeld ?_
      · (intro w' hw'; obtain ⟨s0, s1, s2, s3⟩ := hw'; go_simp)
      simp only [Act.put, List.setIfInBounds_toArray, List.set_cons_zero, List.set_cons_succ]
      refine wpAnyH_take (i := 14) (v := (.bool false)) (by simp only [List.getElem?_toArray, List.getElem?_cons_succ, List.getElem?_cons_zero]; rfl) (by kernel_rfl) (by kernel_rfl) (by kernel_rfl) (by exact fun _ _ _ h => h) (Or.inl ⟨by rfl, ?_⟩) hHeld ?_
      · (intro w' hw'; obtain ⟨s0, s1, s2, s3⟩ := hw'; go_simp)
      simp only [Act.put, List.setIfInBounds_toArray, List.set_cons_zero, List.set_cons_succ]
      refine wpAnyH_take (i := 15) (v := (.pointer (some ⟨w.heap.size, 6, none⟩))) (by simp only [List.getElem?_toArray, List.getElem?_cons_succ, List.getElem?_cons_zero]; rfl) (by kernel_rfl) (by kernel_rfl) (by kernel_rfl) (by exact fun _ _ _ h => h) (Or.inl ⟨by rfl, ?_⟩) hHeld ?_
      · (intro w' hw'; obtain ⟨s0, s1, s2, s3⟩ := hw'; go_simp)
      simp only [Act.put, List.setIfInBounds_toArray, List.set_cons_zero, List.set_cons_succ]
      refine wpAnyH_take (i := 16) (v := (.pointer (some ⟨w.heap.size, 6, none⟩))) (by simp only [List.getElem?_toArray, List.getElem?_cons_succ, List.getElem?_cons_zero]; rfl) (by kernel_rfl) (by kernel_rfl) (by kernel_rfl) (by exact fun _ _ _ h => h) (Or.inl ⟨by rfl, ?_⟩) hHeld ?_
      · (intro w' hw'; obtain ⟨s0, s1, s2, s3⟩ := hw'; go_simp)
      simp only [Act.put, List.setIfInBounds_toArray, List.set_cons_zero, List.set_cons_succ]
      refine wpAnyH_take (i := 17) (v := (.int .u8 (c.ck : Nat))) (by simp only [List.getElem?_toArray, List.getElem?_cons_succ, List.getElem?_cons_zero]; rfl) (by kernel_rfl) (by kernel_rfl) (by kernel_rfl) (by exact fun _ _ _ h => h) (Or.inl ⟨by rfl, ?_⟩) hHeld ?_
      · (intro w' hw'; obtain ⟨s0, s1, s2, s3⟩ := hw'; go_simp)
      simp only [Act.put, List.setIfInBounds_toArray, List.set_cons_zero, List.set_cons_succ]
      refine wpAnyH_take (i := 18) (v := (.bool true)) (by simp only [List.getElem?_toArray, List.getElem?_cons_succ, List.getElem?_cons_zero]; rfl) (by kernel_rfl) (by kernel_rfl) (by kernel_rfl) (by exact fun _ _ _ h => h) (Or.inl ⟨by rfl, ?_⟩) hHeld ?_
      · (intro w' hw'; obtain ⟨s0, s1, s2, s3⟩ := hw'; go_simp)
      simp only [Act.put, List.setIfInBounds_toArray, List.set_cons_zero, List.set_cons_succ]
      refine wpAnyH_take (i := 19) (v := (.bool true)) (by simp only [List.getElem?_toArray, List.getElem?_cons_succ, List.getElem?_cons_zero]; rfl) (by kernel_rfl) (by kernel_rfl) (by kernel_rfl) (by exact fun _ _ _ h => h) (Or.inl ⟨by rfl, ?_⟩) hHeld ?_
      · (intro w' hw'; obtain ⟨s0, s1, s2, s3⟩ := hw'; go_simp)
      simp only [Act.put, List.setIfInBounds_toArray, List.set_cons_zero, List.set_cons_succ]
      refine wpAnyH_take (i := 20) (v := (.bool true)) (by simp only [List.getElem?_toArray, List.getElem?_cons_succ, List.getElem?_cons_zero]; rfl) (by kernel_rfl) (by kernel_rfl) (by kernel_rfl) (by exact fun _ _ _ h => h) (Or.inl ⟨by rfl, ?_⟩) hHeld ?_
      · (intro w' hw'; obtain ⟨s0, s1, s2, s3⟩ := hw'; go_simp)
      simp only [Act.put, List.setIfInBounds_toArray, List.set_cons_zero, List.set_cons_succ]
      refine wpAnyH_take (i := 21) (v := undef) (by simp only [List.getElem?_toArray, List.getElem?_cons_succ, List.getElem?_cons_zero]; rfl) (by kernel_rfl) (by kernel_rfl) (by kernel_rfl) (by exact fun _ _ _ h => h) (Or.inr ⟨by rfl, rfl⟩) hHeld ?_
      simp only [Act.put, List.setIfInBounds_toArray, List.set_cons_zero, List.set_cons_succ]
      refine wpAnyH_take (i := 22) (v := undef) (by simp only [List.getElem?_toArray, List.getElem?_cons_succ, List.getElem?_cons_zero]; rfl) (by kernel_rfl) (by kernel_rfl) (by kernel_rfl) (by exact fun _ _ _ h => h) (Or.inr ⟨by rfl, rfl⟩) hHeld ?_
      simp only [Act.put, List.setIfInBounds_toArray, List.set_cons_zero, List.set_cons_succ]
      refine wpAnyH_take (i := 23) (v := undef) (by simp only [List.getElem?_toArray, List.getElem?_cons_succ, List.getElem?_cons_zero]; rfl) (by kernel_rfl) (by kernel_rfl) (by kernel_rfl) (by exact fun _ _ _ h => h) (Or.inr ⟨by rfl, rfl⟩) hHeld ?_
      simp only [Act.put, List.setIfInBounds_toArray, List.set_cons_zero, List.set_cons_succ]
      refine wpAnyH_take (i := 24) (v := undef) (by simp only [List.getElem?_toArray, List.getElem?_cons_succ, List.getElem?_cons_zero]; rfl) (by kernel_rfl) (by kernel_rfl) (by kernel_rfl) (by exact fun _ _ _ h => h) (Or.inr ⟨by rfl, rfl⟩) hHeld ?_
      simp only [Act.put, List.setIfInBounds_toArray, List.set_cons_zero, List.set_cons_succ]
      refine wpAnyH_take (i := 25) (v := undef) (by simp only [List.getElem?_toArray, List.getElem?_cons_succ, List.getElem?_cons_zero]; rfl) (by kernel_rfl) (by kernel_rfl) (by kernel_rfl) (by exact fun _ _ _ h => h) (Or.inr ⟨by rfl, rfl⟩) hHeld ?_
      simp only [Act.put, List.setIfInBounds_toArray, List.set_cons_zero, List.set_cons_succ]
      refine wpAnyH_take (i := 26) (v := undef) (by simp only [List.getElem?_toArray, List.getElem?_cons_succ, List.getElem?_cons_zero]; rfl) (by kernel_rfl) (by kernel_rfl) (by kernel_rfl) (by exact fun _ _ _ h => h) (Or.inr ⟨by rfl, rfl⟩) hHeld ?_
      simp only [Act.put, List.setIfInBounds_toArray, List.set_cons_zero, List.set_cons_succ]
      refine wpAnyH_take (i := 27) (v := undef) (by simp only [List.getElem?_toArray, List.getElem?_cons_succ, List.getElem?_cons_zero]; rfl) (by kernel_rfl) (by kernel_rfl) (by kernel_rfl) (by exact fun _ _ _ h => h) (Or.inr ⟨by rfl, rfl⟩) hHeld ?_
      simp only [Act.put, List.setIfInBounds_toArray, List.set_cons_zero, List.set_cons_succ]
      refine wpAnyH_take (i := 28) (v := undef) (by simp only [List.getElem?_toArray, List.getElem?_cons_succ, List.getElem?_cons_zero]; rfl) (by kernel_rfl) (by kernel_rfl) (by kernel_rfl) (by exact fun _ _ _ h => h) (Or.inr ⟨by rfl, rfl⟩) hHeld ?_
      simp only [Act.put, List.setIfInBounds_toArray, List.set_cons_zero, List.set_cons_succ]
      refine wpAnyH_take (i := 29) (v := undef) (by simp only [List.getElem?_toArray, List.getElem?_cons_succ, List.getElem?_cons_zero]; rfl) (by kernel_rfl) (by kernel_rfl) (by kernel_rfl) (by exact fun _ _ _ h => h) (Or.inr ⟨by rfl, rfl⟩) hHeld ?_
      simp only [Act.put, List.setIfInBounds_toArray, List.set_cons_zero, List.set_cons_succ]
      refine wpAnyH_take (i := 30) (v := undef) (by simp only [List.getElem?_toArray, List.getElem?_cons_succ, List.getElem?_cons_zero]; rfl) (by kernel_rfl) (by kernel_rfl) (by kernel_rfl) (by exact fun _ _ _ h => h) (Or.inr ⟨by rfl, rfl⟩) hHeld ?_
      simp only [Act.put, List.setIfInBounds_toArray, List.set_cons_zero, List.set_cons_succ]
      refine wpAnyH_take (i := 31) (v := (.bool true)) (by simp only [List.getElem?_toArray, List.getElem?_cons_succ, List.getElem?_cons_zero]; rfl) (by kernel_rfl) (by kernel_rfl) (by kernel_rfl) (by exact fun _ _ _ h => h) (Or.inl ⟨by rfl, ?_⟩) hHeld ?_
      · (intro w' hw'; obtain ⟨s0, s1, s2, s3⟩ := hw'; go_simp)
      simp only [Act.put, List.setIfInBounds_toArray, List.set_cons_zero, List.set_cons_succ]
      refine wpAnyH_done (by kernel_rfl) ?_ _
      go_wp2_with fail
      go_meet
      exact ⟨by rw [HFV.out]; rfl, HF2.out⟩
    · refine wpAnyH_take (i := 0) (v := (.pointer (some ⟨w.heap.size, 0, none⟩))) (by simp only [List.getElem?_toArray, List.getElem?_cons_zero]; rfl) (by kernel_rfl) (by kernel_rfl) (by kernel_rfl) (by exact fun _ _ _ h => h) (Or.inl ⟨by rfl, ?_⟩) hHeld ?_
      · (intro w' hw'; obtain ⟨s0, s1, s2, s3⟩ := hw'; go_simp)
      simp only [Act.put, List.setIfInBounds_toArray, List.set_cons_zero, List.set_cons_succ]
      refine wpAnyH_take (i := 1) (v := (.int .u8 (c.kind : Nat))) (by simp only [List.getElem?_toArray, List.getElem?_cons_succ, List.getElem?_cons_zero]; rfl) (by kernel_rfl) (by kernel_rfl) (by kernel_rfl) (by exact fun _ _ _ h => h) (Or.inl ⟨by rfl, ?_⟩) hHeld ?_
      · (intro w' hw'; obtain ⟨s0, s1, s2, s3⟩ := hw'; go_simp)
      simp only [Act.put, List.setIfInBounds_toArray, List.set_cons_zero, List.set_cons_succ]
      refine wpAnyH_take (i := 2) (v := (.bool false)) (by simp only [List.getElem?_toArray, List.getElem?_cons_succ, List.getElem?_cons_zero]; rfl) (by kernel_rfl) (by kernel_rfl) (by kernel_rfl) (by exact fun _ _ _ h => h) (Or.inl ⟨by rfl, ?_⟩) hHeld ?_
      · (intro w' hw'; obtain ⟨s0, s1, s2, s3⟩ := hw'; go_simp)
      simp only [Act.put, List.setIfInBounds_toArray, List.set_cons_zero, List.set_cons_succ]
      refine wpAnyH_take (i := 3) (v := (.bool false)) (by simp only [List.getElem?_toArray, List.getElem?_cons_succ, List.getElem?_cons_zero]; rfl) (by kernel_rfl) (by kernel_rfl) (by kernel_rfl) (by exact fun _ _ _ h => h) (Or.inl ⟨by rfl, ?_⟩) hHeld ?_
      · (intro w' hw'; obtain ⟨s0, s1, s2, s3⟩ := hw'; go_simp)
      simp only [Act.put, List.setIfInBounds_toArray, List.set_cons_zero, List.set_cons_succ]
      refine wpAnyH_take (i := 4) (v := (.pointer (some ⟨w.heap.size, 0, none⟩))) (by simp only [List.getElem?_toArray, List.getElem?_cons_succ, List.getElem?_cons_zero]; rfl) (by kernel_rfl) (by kernel_rfl) (by kernel_rfl) (by exact fun _ _ _ h => h) (Or.inl ⟨by rfl, ?_⟩) hHeld ?_
      · (intro w' hw'; obtain ⟨s0, s1, s2, s3⟩ := hw'; go_simp)
      simp only [Act.put, List.setIfInBounds_toArray, List.set_cons_zero, List.set_cons_succ]
      refine wpAnyH_take (i := 5) (v := (.int .u8 (c.kind : Nat))) (by simp only [List.getElem?_toArray, List.getElem?_cons_succ, List.getElem?_cons_zero]; rfl) (by kernel_rfl) (by kernel_rfl) (by kernel_rfl) (by exact fun _ _ _ h => h) (Or.inl ⟨by rfl, ?_⟩) hHeld ?_
      · (intro w' hw'; obtain ⟨s0, s1, s2, s3⟩ := hw'; go_simp)
      simp only [Act.put, List.setIfInBounds_toArray, List.set_cons_zero, List.set_cons_succ]
      refine wpAnyH_take (i := 6) (v := (.bool false)) (by simp only [List.getElem?_toArray, List.getElem?_cons_succ, List.getElem?_cons_zero]; rfl) (by kernel_rfl) (by kernel_rfl) (by kernel_rfl) (by exact fun _ _ _ h => h) (Or.inl ⟨by rfl, ?_⟩) hHeld ?_
      · (intro w' hw'; obtain ⟨s0, s1, s2, s3⟩ := hw'; go_simp)
      simp only [Act.put, List.setIfInBounds_toArray, List.set_cons_zero, List.set_cons_succ]
      refine wpAnyH_take (i := 7) (v := (.bool false)) (by simp only [List.getElem?_toArray, List.getElem?_cons_succ, List.getElem?_cons_zero]; rfl) (by kernel_rfl) (by kernel_rfl) (by kernel_rfl) (by exact fun _ _ _ h => h) (Or.inl ⟨by rfl, ?_⟩) hHeld ?_
      · (intro w' hw'; obtain ⟨s0, s1, s2, s3⟩ := hw'; go_simp)
      simp only [Act.put, List.setIfInBounds_toArray, List.set_cons_zero, List.set_cons_succ]
      refine wpAnyH_take (i := 8) (v := (.bool false)) (by simp only [List.getElem?_toArray, List.getElem?_cons_succ, List.getElem?_cons_zero]; rfl) (by kernel_rfl) (by kernel_rfl) (by kernel_rfl) (by exact fun _ _ _ h => h) (Or.inl ⟨by rfl, ?_⟩) hHeld ?_
      · (intro w' hw'; obtain ⟨s0, s1, s2, s3⟩ := hw'; go_simp)
      simp only [Act.put, List.setIfInBounds_toArray, List.set_cons_zero, List.set_cons_succ]
      refine wpAnyH_take (i := 9) (v := (.agg (callCells c))) (by simp only [List.getElem?_toArray, List.getElem?_cons_succ, List.getElem?_cons_zero]; rfl) (by kernel_rfl) (by kernel_rfl) (by kernel_rfl) (by exact fun _ _ _ h => h) (Or.inl ⟨by rfl, ?_⟩) hHeld ?_
      · (intro w' hw'; obtain ⟨s0, s1, s2, s3⟩ := hw'; exact exec_load_row 31 (.tmp 1) rfl w.heap.size rfl 31 _ _ _ s0 Tryz.underlying31 rfl infoCall)
      simp only [Act.put, List.setIfInBounds_toArray, List.set_cons_zero, List.set_cons_succ]
      refine wpAnyH_take (i := 10) (v := (.agg (callCells c))) (by simp only [List.getElem?_toArray, List.getElem?_cons_succ, List.getElem?_cons_zero]; rfl) (by kernel_rfl) (by kernel_rfl) (by kernel_rfl) (by exact fun _ _ _ h => h) (Or.inl ⟨by rfl, ?_⟩) hHeld ?_
      · (intro w' hw'; obtain ⟨s0, s1, s2, s3⟩ := hw'; exact exec_load_row 31 (.tmp 1) rfl w.heap.size rfl 31 _ _ _ s0 Tryz.underlying31 rfl infoCall)
      simp only [Act.put, List.setIfInBounds_toArray, List.set_cons_zero, List.set_cons_succ]
      refine wpAnyH_ready (rs := [11]) (by kernel_rfl) (by simp) ?_
      refine AllReadyH.cons rfl (fun K hK => ?_) AllReadyH.nil
      rw [if_pos (by rfl)]
      go_simp
      refine (HO.out _).mono ?_
      rintro e w2 ⟨rfl, hf2⟩
      have HF2 : Hid (Fr [] w1 w2) := HF0.out.andThen hf2
      have hb2 := hf2.blockAs hbD (by simp)
      have q0 := hf2.cellAs d0 (by simp)
      have q6 := hf2.cellAs d6 (by simp)
      have q7 := hf2.cellAs d7 (by simp)
      go_wp2_with fail
      refine hK.out _ _ ⟨hb2, q0, q6, q7⟩ (fun hHeld => ?_)
      clear hK K
      try simp only [Act.put, List.setIfInBounds_toArray, List.set_cons_zero, List.set_cons_succ]
      refine wpAnyH_take (i := 12) (v := (.bool false)) (by simp only [List.getElem?_toArray, List.getElem?_cons_succ, List.getElem?_cons_zero]; rfl) (by kernel_rfl) (by kernel_rfl) (by kernel_rfl) (by exact fun _ _ _ h => h) (Or.inl ⟨by rfl, ?_⟩) hHeld ?_
      · (intro w' hw'; obtain ⟨s0, s1, s2, s3⟩ := hw'; go_simp)
      simp only [Act.put, List.setIfInBounds_toArray, List.set_cons_zero, List.set_cons_succ]
      refine wpAnyH_take (i := 13) (v := (.bool false)) (by simp only [List.getElem?_toArray, List.getElem?_cons_succ, List.getElem?_cons_zero]; rfl) (by kernel_rfl) (by kernel_rfl) (by kernel_rfl) (by exact fun _ _ _ h => h) (Or.inl ⟨by rfl, ?_⟩) hHeld ?_
      · (intro w' hw'; obtain ⟨s0, s1, s2, s3⟩ := hw'; go_simp)
      simp only [Act.put, List.setIfInBounds_toArray, List.set_cons_zero, List.set_cons_succ]
      refine wpAnyH_take (i := 14) (v := (.bool false)) (by simp only [List.getElem?_toArray, List.getElem?_cons_succ, List.getElem?_cons_zero]; rfl) (by kernel_rfl) (by kernel_rfl) (by kernel_rfl) (by exact fun _ _ _ h => h) (Or.inl ⟨by rfl, ?_⟩) hHeld ?_
      · (intro w' hw'; obtain ⟨s0, s1, s2, s3⟩ := hw'; go_simp)
      simp only [Act.put, List.setIfInBounds_toArray, List.set_cons_zero, List.set_cons_succ]
      refine wpAnyH_take (i := 15) (v := (.pointer (some ⟨w.heap.size, 6, none⟩))) (by simp only [List.getElem?_toArray, List.getElem?_cons_succ, List.getElem?_cons_zero]; rfl) (by kernel_rfl) (by kernel_rfl) (by kernel_rfl) (by exact fun _ _ _ h => h) (Or.inl ⟨by rfl, ?_⟩) hHeld ?_
      · (intro w' hw'; obtain ⟨s0, s1, s2, s3⟩ := hw'; go_simp)
      simp only [Act.put, List.setIfInBounds_toArray, List.set_cons_zero, List.set_cons_succ]
      refine wpAnyH_take (i := 16) (v := (.pointer (some ⟨w.heap.size, 6, none⟩))) (by simp only [List.getElem?_toArray, List.getElem?_cons_succ, List.getElem?_cons_zero]; rfl) (by kernel_rfl) (by kernel_rfl) (by kernel_rfl) (by exact fun _ _ _ h => h) (Or.inl ⟨by rfl, ?_⟩) hHeld ?_
      · (intro w' hw'; obtain ⟨s0, s1, s2, s3⟩ := hw'; go_simp)
      simp only [Act.put, List.setIfInBounds_toArray, List.set_cons_zero, List.set_cons_succ]
      refine wpAnyH_take (i := 17) (v := (.int .u8 (c.ck : Nat))) (by simp only [List.getElem?_toArray, List.getElem?_cons_succ, List.getElem?_cons_zero]; rfl) (by kernel_rfl) (by kernel_rfl) (by kernel_rfl) (by exact fun _ _ _ h => h) (Or.inl ⟨by rfl, ?_⟩) hHeld ?_
      · (intro w' hw'; obtain ⟨s0, s1, s2, s3⟩ := hw'; go_simp)
      simp only [Act.put, List.setIfInBounds_toArray, List.set_cons_zero, List.set_cons_succ]
      refine wpAnyH_take (i := 18) (v := (.bool false)) (by simp only [List.getElem?_toArray, List.getElem?_cons_succ, List.getElem?_cons_zero]; rfl) (by kernel_rfl) (by kernel_rfl) (by kernel_rfl) (by exact fun _ _ _ h => h) (Or.inl ⟨by rfl, ?_⟩) hHeld ?_
      · (intro w' hw'; obtain ⟨s0, s1, s2, s3⟩ := hw'; go_simp)
      simp only [Act.put, List.setIfInBounds_toArray, List.set_cons_zero, List.set_cons_succ]
      refine wpAnyH_take (i := 19) (v := (.bool false)) (by simp only [List.getElem?_toArray, List.getElem?_cons_succ, List.getElem?_cons_zero]; rfl) (by kernel_rfl) (by kernel_rfl) (by kernel_rfl) (by exact fun _ _ _ h => h) (Or.inl ⟨by rfl, ?_⟩) hHeld ?_
      · (intro w' hw'; obtain ⟨s0, s1, s2, s3⟩ := hw'; go_simp)
      simp only [Act.put, List.setIfInBounds_toArray, List.set_cons_zero, List.set_cons_succ]
      refine wpAnyH_take (i := 20) (v := (.bool false)) (by simp only [List.getElem?_toArray, List.getElem?_cons_succ, List.getElem?_cons_zero]; rfl) (by kernel_rfl) (by kernel_rfl) (by kernel_rfl) (by exact fun _ _ _ h => h) (Or.inl ⟨by rfl, ?_⟩) hHeld ?_
      · (intro w' hw'; obtain ⟨s0, s1, s2, s3⟩ := hw'; go_simp)
      simp only [Act.put, List.setIfInBounds_toArray, List.set_cons_zero, List.set_cons_succ]
      refine wpAnyH_take (i := 21) (v := (.pointer (some ⟨w.heap.size, 6, none⟩))) (by simp only [List.getElem?_toArray, List.getElem?_cons_succ, List.getElem?_cons_zero]; rfl) (by kernel_rfl) (by kernel_rfl) (by kernel_rfl) (by exact fun _ _ _ h => h) (Or.inl ⟨by rfl, ?_⟩) hHeld ?_
      · (intro w' hw'; obtain ⟨s0, s1, s2, s3⟩ := hw'; go_simp)
      simp only [Act.put, List.setIfInBounds_toArray, List.set_cons_zero, List.set_cons_succ]
      refine wpAnyH_take (i := 22) (v := (.pointer (some ⟨w.heap.size, 6, none⟩))) (by simp only [List.getElem?_toArray, List.getElem?_cons_succ, List.getElem?_cons_zero]; rfl) (by kernel_rfl) (by kernel_rfl) (by kernel_rfl) (by exact fun _ _ _ h => h) (Or.inl ⟨by rfl, ?_⟩) hHeld ?_
      · (intro w' hw'; obtain ⟨s0, s1, s2, s3⟩ := hw'; go_simp)
      simp only [Act.put, List.setIfInBounds_toArray, List.set_cons_zero, List.set_cons_succ]
      refine wpAnyH_take (i := 23) (v := (.int .u8 (c.ck : Nat))) (by simp only [List.getElem?_toArray, List.getElem?_cons_succ, List.getElem?_cons_zero]; rfl) (by kernel_rfl) (by kernel_rfl) (by kernel_rfl) (by exact fun _ _ _ h => h) (Or.inl ⟨by rfl, ?_⟩) hHeld ?_
      · (intro w' hw'; obtain ⟨s0, s1, s2, s3⟩ := hw'; go_simp)
      simp only [Act.put, List.setIfInBounds_toArray, List.set_cons_zero, List.set_cons_succ]
      refine wpAnyH_take (i := 24) (v := (.bool true)) (by simp only [List.getElem?_toArray, List.getElem?_cons_succ, List.getElem?_cons_zero]; rfl) (by kernel_rfl) (by kernel_rfl) (by kernel_rfl) (by exact fun _ _ _ h => h) (Or.inl ⟨by rfl, ?_⟩) hHeld ?_
      · (intro w' hw'; obtain ⟨s0, s1, s2, s3⟩ := hw'; go_simp)
      simp only [Act.put, List.setIfInBounds_toArray, List.set_cons_zero, List.set_cons_succ]
      refine wpAnyH_take (i := 25) (v := (.bool true)) (by simp only [List.getElem?_toArray, List.getElem?_cons_succ, List.getElem?_cons_zero]; rfl) (by kernel_rfl) (by kernel_rfl) (by kernel_rfl) (by exact fun _ _ _ h => h) (Or.inl ⟨by rfl, ?_⟩) hHeld ?_
      · (intro w' hw'; obtain ⟨s0, s1, s2, s3⟩ := hw'; go_simp)
      simp only [Act.put, List.setIfInBounds_toArray, List.set_cons_zero, List.set_cons_succ]
      refine wpAnyH_take (i := 26) (v := (.pointer (some ⟨w.heap.size, 6, none⟩))) (by simp only [List.getElem?_toArray, List.getElem?_cons_succ, List.getElem?_cons_zero]; rfl) (by kernel_rfl) (by kernel_rfl) (by kernel_rfl) (by exact fun _ _ _ h => h) (Or.inl ⟨by rfl, ?_⟩) hHeld ?_
      · (intro w' hw'; obtain ⟨s0, s1, s2, s3⟩ := hw'; go_simp)
      simp only [Act.put, List.setIfInBounds_toArray, List.set_cons_zero, List.set_cons_succ]
      refine wpAnyH_take (i := 27) (v := (.pointer (some ⟨w.heap.size, 7, none⟩))) (by simp only [List.getElem?_toArray, List.getElem?_cons_succ, List.getElem?_cons_zero]; rfl) (by kernel_rfl) (by kernel_rfl) (by kernel_rfl) (by exact fun _ _ _ h => h) (Or.inl ⟨by rfl, ?_⟩) hHeld ?_
      · (intro w' hw'; obtain ⟨s0, s1, s2, s3⟩ := hw'; go_simp)
      simp only [Act.put, List.setIfInBounds_toArray, List.set_cons_zero, List.set_cons_succ]
      refine wpAnyH_take (i := 28) (v := (.int .u64 (c.cn : Nat))) (by simp only [List.getElem?_toArray, List.getElem?_cons_succ, List.getElem?_cons_zero]; rfl) (by kernel_rfl) (by kernel_rfl) (by kernel_rfl) (by exact fun _ _ _ h => h) (Or.inl ⟨by rfl, ?_⟩) hHeld ?_
      · (intro w' hw'; obtain ⟨s0, s1, s2, s3⟩ := hw'; go_simp)
      simp only [Act.put, List.setIfInBounds_toArray, List.set_cons_zero, List.set_cons_succ]
      refine wpAnyH_take (i := 29) (v := (.bool true)) (by simp only [List.getElem?_toArray, List.getElem?_cons_succ, List.getElem?_cons_zero]; rfl) (by kernel_rfl) (by kernel_rfl) (by kernel_rfl) (by exact fun _ _ _ h => h) (Or.inl ⟨by rfl, ?_⟩) hHeld ?_
      · (intro w' hw'; obtain ⟨s0, s1, s2, s3⟩ := hw'; go_simp)
      simp only [Act.put, List.setIfInBounds_toArray, List.set_cons_zero, List.set_cons_succ]
      refine wpAnyH_take (i := 30) (v := (.bool true)) (by simp only [List.getElem?_toArray, List.getElem?_cons_succ, List.getElem?_cons_zero]; rfl) (by kernel_rfl) (by kernel_rfl) (by kernel_rfl) (by exact fun _ _ _ h => h) (Or.inl ⟨by rfl, ?_⟩) hHeld ?_
      · (intro w' hw'; obtain ⟨s0, s1, s2, s3⟩ := hw'; go_simp)
      simp only [Act.put, List.setIfInBounds_toArray, List.set_cons_zero, List.set_cons_succ]
      refine wpAnyH_take (i := 31) (v := (.bool true)) (by simp only [List.getElem?_toArray, List.getElem?_cons_succ, List.getElem?_cons_zero]; rfl) (by kernel_rfl) (by kernel_rfl) (by kernel_rfl) (by exact fun _ _ _ h => h) (Or.inl ⟨by rfl, ?_⟩) hHeld ?_
      · (intro w' hw'; obtain ⟨s0, s1, s2, s3⟩ := hw'; go_simp)
      simp only [Act.put, List.setIfInBounds_toArray, List.set_cons_zero, List.set_cons_succ]
      refine wpAnyH_done (by kernel_rfl) ?_ _
      go_wp2_with fail
      go_meet
      exact ⟨by rw [HFV.out]; rfl, HF2.out⟩
    · refine wpAnyH_take (i := 0) (v := (.pointer (some ⟨w.heap.size, 0, none⟩))) (by simp only [List.getElem?_toArray, List.getElem?_cons_zero]; rfl) (by kernel_rfl) (by kernel_rfl) (by kernel_rfl) (by exact fun _ _ _ h => h) (Or.inl ⟨by rfl, ?_⟩) hHeld ?_
      · (intro w' hw'; obtain ⟨s0, s1, s2, s3⟩ := hw'; go_simp)
      simp only [Act.put, List.setIfInBounds_toArray, List.set_cons_zero, List.set_cons_succ]
      refine wpAnyH_take (i := 1) (v := (.int .u8 (c.kind : Nat))) (by simp only [List.getElem?_toArray, List.getElem?_cons_succ, List.getElem?_cons_zero]; rfl) (by kernel_rfl) (by kernel_rfl) (by kernel_rfl) (by exact fun _ _ _ h => h) (Or.inl ⟨by rfl, ?_⟩) hHeld ?_
      · (intro w' hw'; obtain ⟨s0, s1, s2, s3⟩ := hw'; go_simp)
      simp only [Act.put, List.setIfInBounds_toArray, List.set_cons_zero, List.set_cons_succ]
      refine wpAnyH_take (i := 2) (v := (.bool false)) (by simp only [List.getElem?_toArray, List.getElem?_cons_succ, List.getElem?_cons_zero]; rfl) (by kernel_rfl) (by kernel_rfl) (by kernel_rfl) (by exact fun _ _ _ h => h) (Or.inl ⟨by rfl, ?_⟩) hHeld ?_
      · (intro w' hw'; obtain ⟨s0, s1, s2, s3⟩ := hw'; go_simp)
      simp only [Act.put, List.setIfInBounds_toArray, List.set_cons_zero, List.set_cons_succ]
      refine wpAnyH_take (i := 3) (v := (.bool false)) (by simp only [List.getElem?_toArray, List.getElem?_cons_succ, List.getElem?_cons_zero]; rfl) (by kernel_rfl) (by kernel_rfl) (by kernel_rfl) (by exact fun _ _ _ h => h) (Or.inl ⟨by rfl, ?_⟩) hHeld ?_
      · (intro w' hw'; obtain ⟨s0, s1, s2, s3⟩ := hw'; go_simp)
      simp only [Act.put, List.setIfInBounds_toArray, List.set_cons_zero, List.set_cons_succ]
      refine wpAnyH_take (i := 4) (v := (.pointer (some ⟨w.heap.size, 0, none⟩))) (by simp only [List.getElem?_toArray, List.getElem?_cons_succ, List.getElem?_cons_zero]; rfl) (by kernel_rfl) (by kernel_rfl) (by kernel_rfl) (by exact fun _ _ _ h => h) (Or.inl ⟨by rfl, ?_⟩) hHeld ?_
      · (intro w' hw'; obtain ⟨s0, s1, s2, s3⟩ := hw'; go_simp)
      simp only [Act.put, List.setIfInBounds_toArray, List.set_cons_zero, List.set_cons_succ]
      refine wpAnyH_take (i := 5) (v := (.int .u8 (c.kind : Nat))) (by simp only [List.getElem?_toArray, List.getElem?_cons_succ, List.getElem?_cons_zero]; rfl) (by kernel_rfl) (by kernel_rfl) (by kernel_rfl) (by exact fun _ _ _ h => h) (Or.inl ⟨by rfl, ?_⟩) hHeld ?_
      · (intro w' hw'; obtain ⟨s0, s1, s2, s3⟩ := hw'; go_simp)
      simp only [Act.put, List.setIfInBounds_toArray, List.set_cons_zero, List.set_cons_succ]
      refine wpAnyH_take (i := 6) (v := (.bool false)) (by simp only [List.getElem?_toArray, List.getElem?_cons_succ, List.getElem?_cons_zero]; rfl) (by kernel_rfl) (by kernel_rfl) (by kernel_rfl) (by exact fun _ _ _ h => h) (Or.inl ⟨by rfl, ?_⟩) hHeld ?_
      · (intro w' hw'; obtain ⟨s0, s1, s2, s3⟩ := hw'; go_simp)
      simp only [Act.put, List.setIfInBounds_toArray, List.set_cons_zero, List.set_cons_succ]
      refine wpAnyH_take (i := 7) (v := (.bool false)) (by simp only [List.getElem?_toArray, List.getElem?_cons_succ, List.getElem?_cons_zero]; rfl) (by kernel_rfl) (by kernel_rfl) (by kernel_rfl) (by exact fun _ _ _ h => h) (Or.inl ⟨by rfl, ?_⟩) hHeld ?_
      · (intro w' hw'; obtain ⟨s0, s1, s2, s3⟩ := hw'; go_simp)
      simp only [Act.put, List.setIfInBounds_toArray, List.set_cons_zero, List.set_cons_succ]
      refine wpAnyH_take (i := 8) (v := (.bool false)) (by simp only [List.getElem?_toArray, List.getElem?_cons_succ, List.getElem?_cons_zero]; rfl) (by kernel_rfl) (by kernel_rfl) (by kernel_rfl) (by exact fun _ _ _ h => h) (Or.inl ⟨by rfl, ?_⟩) hHeld ?_
      · (intro w' hw'; obtain ⟨s0, s1, s2, s3⟩ := hw'; go_simp)
      simp only [Act.put, List.setIfInBounds_toArray, List.set_cons_zero, List.set_cons_succ]
      refine wpAnyH_take (i := 9) (v := (.agg (callCells c))) (by simp only [List.getElem?_toArray, List.getElem?_cons_succ, List.getElem?_cons_zero]; rfl) (by kernel_rfl) (by kernel_rfl) (by kernel_rfl) (by exact fun _ _ _ h => h) (Or.inl ⟨by rfl, ?_⟩) hHeld ?_
      · (intro w' hw'; obtain ⟨s0, s1, s2, s3⟩ := hw'; exact exec_load_row 31 (.tmp 1) rfl w.heap.size rfl 31 _ _ _ s0 Tryz.underlying31 rfl infoCall)
      simp only [Act.put, List.setIfInBounds_toArray, List.set_cons_zero, List.set_cons_succ]
      refine wpAnyH_take (i := 10) (v := (.agg (callCells c))) (by simp only [List.getElem?_toArray, List.getElem?_cons_succ, List.getElem?_cons_zero]; rfl) (by kernel_rfl) (by kernel_rfl) (by kernel_rfl) (by exact fun _ _ _ h => h) (Or.inl ⟨by rfl, ?_⟩) hHeld ?_
      · (intro w' hw'; obtain ⟨s0, s1, s2, s3⟩ := hw'; exact exec_load_row 31 (.tmp 1) rfl w.heap.size rfl 31 _ _ _ s0 Tryz.underlying31 rfl infoCall)
      simp only [Act.put, List.setIfInBounds_toArray, List.set_cons_zero, List.set_cons_succ]
      refine wpAnyH_ready (rs := [11]) (by kernel_rfl) (by simp) ?_
      refine AllReadyH.cons rfl (fun K hK => ?_) AllReadyH.nil
      rw [if_pos (by rfl)]
      go_simp
      refine (HO.out _).mono ?_
      rintro e w2 ⟨rfl, hf2⟩
      have HF2 : Hid (Fr [] w1 w2) := HF0.out.andThen hf2
      have hb2 := hf2.blockAs hbD (by simp)
      have q0 := hf2.cellAs d0 (by simp)
      have q6 := hf2.cellAs d6 (by simp)
      have q7 := hf2.cellAs d7 (by simp)
      go_wp2_with fail
      refine hK.out _ _ ⟨hb2, q0, q6, q7⟩ (fun hHeld => ?_)
      clear hK K
      try simp only [Act.put, List.setIfInBounds_toArray, List.set_cons_zero, List.set_cons_succ]
      refine wpAnyH_take (i := 12) (v := (.bool false)) (by simp only [List.getElem?_toArray, List.getElem?_cons_succ, List.getElem?_cons_zero]; rfl) (by kernel_rfl) (by kernel_rfl) (by kernel_rfl) (by exact fun _ _ _ h => h) (Or.inl ⟨by rfl, ?_⟩) hHeld ?_
      · (intro w' hw'; obtain ⟨s0, s1, s2, s3⟩ := hw'; go_simp)
      simp only [Act.put, List.setIfInBounds_toArray, List.set_cons_zero, List.set_cons_succ]
      refine wpAnyH_take (i := 13) (v := (.bool false)) (by simp only [List.getElem?_toArray, List.getElem?_cons_succ, List.getElem?_cons_zero]; rfl) (by kernel_rfl) (by kernel_rfl) (by kernel_rfl) (by exact fun _ _ _ h => h) (Or.inl ⟨by rfl, ?_⟩) hHeld ?_
      · (intro w' hw'; obtain ⟨s0, s1, s2, s3⟩ := hw'; go_simp)
      simp only [Act.put, List.setIfInBounds_toArray, List.set_cons_zero, List.set_cons_succ]
      refine wpAnyH_take (i := 14) (v := (.bool false)) (by simp only [List.getElem?_toArray, List.getElem?_cons_succ, List.getElem?_cons_zero]; rfl) (by kernel_rfl) (by kernel_rfl) (by kernel_rfl) (by exact fun _ _ _ h => h) (Or.inl ⟨by rfl, ?_⟩) hHeld ?_
      · (intro w' hw'; obtain ⟨s0, s1, s2, s3⟩ := hw'; go_simp)
      simp only [Act.put, List.setIfInBounds_toArray, List.set_cons_zero, List.set_cons_succ]
      refine wpAnyH_take (i := 15) (v := (.pointer (some ⟨w.heap.size, 6, none⟩))) (by simp only [List.getElem?_toArray, List.getElem?_cons_succ, List.getElem?_cons_zero]; rfl) (by kernel_rfl) (by kernel_rfl) (by kernel_rfl) (by exact fun _ _ _ h => h) (Or.inl ⟨by rfl, ?_⟩) hHeld ?_
      · (intro w' hw'; obtain ⟨s0, s1, s2, s3⟩ := hw'; go_simp)
      simp only [Act.put, List.setIfInBounds_toArray, List.set_cons_zero, List.set_cons_succ]
      refine wpAnyH_take (i := 16) (v := (.pointer (some ⟨w.heap.size, 6, none⟩))) (by simp only [List.getElem?_toArray, List.getElem?_cons_succ, List.getElem?_cons_zero]; rfl) (by kernel_rfl) (by kernel_rfl) (by kernel_rfl) (by exact fun _ _ _ h => h) (Or.inl ⟨by rfl, ?_⟩) hHeld ?_
      · (intro w' hw'; obtain ⟨s0, s1, s2, s3⟩ := hw'; go_simp)
      simp only [Act.put, List.setIfInBounds_toArray, List.set_cons_zero, List.set_cons_succ]
      refine wpAnyH_take (i := 17) (v := (.int .u8 (c.ck : Nat))) (by simp only [List.getElem?_toArray, List.getElem?_cons_succ, List.getElem?_cons_zero]; rfl) (by kernel_rfl) (by kernel_rfl) (by kernel_rfl) (by exact fun _ _ _ h => h) (Or.inl ⟨by rfl, ?_⟩) hHeld ?_
      · (intro w' hw'; obtain ⟨s0, s1, s2, s3⟩ := hw'; go_simp)
      simp only [Act.put, List.setIfInBounds_toArray, List.set_cons_zero, List.set_cons_succ]
      refine wpAnyH_take (i := 18) (v := (.bool false)) (by simp only [List.getElem?_toArray, List.getElem?_cons_succ, List.getElem?_cons_zero]; rfl) (by kernel_rfl) (by kernel_rfl) (by kernel_rfl) (by exact fun _ _ _ h => h) (Or.inl ⟨by rfl, ?_⟩) hHeld ?_
      · (intro w' hw'; obtain ⟨s0, s1, s2, s3⟩ := hw'; go_simp)
      simp only [Act.put, List.setIfInBounds_toArray, List.set_cons_zero, List.set_cons_succ]
      refine wpAnyH_take (i := 19) (v := (.bool false)) (by simp only [List.getElem?_toArray, List.getElem?_cons_succ, List.getElem?_cons_zero]; rfl) (by kernel_rfl) (by kernel_rfl) (by kernel_rfl) (by exact fun _ _ _ h => h) (Or.inl ⟨by rfl, ?_⟩) hHeld ?_
      · (intro w' hw'; obtain ⟨s0, s1, s2, s3⟩ := hw'; go_simp)
      simp only [Act.put, List.setIfInBounds_toArray, List.set_cons_zero, List.set_cons_succ]
      refine wpAnyH_take (i := 20) (v := (.bool false)) (by simp only [List.getElem?_toArray, List.getElem?_cons_succ, List.getElem?_cons_zero]; rfl) (by kernel_rfl) (by kernel_rfl) (by kernel_rfl) (by exact fun _ _ _ h => h) (Or.inl ⟨by rfl, ?_⟩) hHeld ?_
      · (intro w' hw'; obtain ⟨s0, s1, s2, s3⟩ := hw'; go_simp)
      simp only [Act.put, List.setIfInBounds_toArray, List.set_cons_zero, List.set_cons_succ]
      refine wpAnyH_take (i := 21) (v := (.pointer (some ⟨w.heap.size, 6, none⟩))) (by simp only [List.getElem?_toArray, List.getElem?_cons_succ, List.getElem?_cons_zero]; rfl) (by kernel_rfl) (by kernel_rfl) (by kernel_rfl) (by exact fun _ _ _ h => h) (Or.inl ⟨by rfl, ?_⟩) hHeld ?_
      · (intro w' hw'; obtain ⟨s0, s1, s2, s3⟩ := hw'; go_simp)
      simp only [Act.put, List.setIfInBounds_toArray, List.set_cons_zero, List.set_cons_succ]
      refine wpAnyH_take (i := 22) (v := (.pointer (some ⟨w.heap.size, 6, none⟩))) (by simp only [List.getElem?_toArray, List.getElem?_cons_succ, List.getElem?_cons_zero]; rfl) (by kernel_rfl) (by kernel_rfl) (by kernel_rfl) (by exact fun _ _ _ h => h) (Or.inl ⟨by rfl, ?_⟩) hHeld ?_
      · (intro w' hw'; obtain ⟨s0, s1, s2, s3⟩ := hw'; go_simp)
      simp only [Act.put, List.setIfInBounds_toArray, List.set_cons_zero, List.set_cons_succ]
      refine wpAnyH_take (i := 23) (v := (.int .u8 (c.ck : Nat))) (by simp only [List.getElem?_toArray, List.getElem?_cons_succ, List.getElem?_cons_zero]; rfl) (by kernel_rfl) (by kernel_rfl) (by kernel_rfl) (by exact fun _ _ _ h => h) (Or.inl ⟨by rfl, ?_⟩) hHeld ?_
      · (intro w' hw'; obtain ⟨s0, s1, s2, s3⟩ := hw'; go_simp)
      simp only [Act.put, List.setIfInBounds_toArray, List.set_cons_zero, List.set_cons_succ]
      refine wpAnyH_take (i := 24) (v := (.bool true)) (by simp only [List.getElem?_toArray, List.getElem?_cons_succ, List.getElem?_cons_zero]; rfl) (by kernel_rfl) (by kernel_rfl) (by kernel_rfl) (by exact fun _ _ _ h => h) (Or.inl ⟨by rfl, ?_⟩) hHeld ?_
      · (intro w' hw'; obtain ⟨s0, s1, s2, s3⟩ := hw'; go_simp)
      simp only [Act.put, List.setIfInBounds_toArray, List.set_cons_zero, List.set_cons_succ]
      refine wpAnyH_take (i := 25) (v := (.bool true)) (by simp only [List.getElem?_toArray, List.getElem?_cons_succ, List.getElem?_cons_zero]; rfl) (by kernel_rfl) (by kernel_rfl) (by kernel_rfl) (by exact fun _ _ _ h => h) (Or.inl ⟨by rfl, ?_⟩) hHeld ?_
      · (intro w' hw'; obtain ⟨s0, s1, s2, s3⟩ := hw'; go_simp)
      simp only [Act.put, List.setIfInBounds_toArray, List.set_cons_zero, List.set_cons_succ]
      refine wpAnyH_take (i := 26) (v := (.pointer (some ⟨w.heap.size, 6, none⟩))) (by simp only [List.getElem?_toArray, List.getElem?_cons_succ, List.getElem?_cons_zero]; rfl) (by kernel_rfl) (by kernel_rfl) (by kernel_rfl) (by exact fun _ _ _ h => h) (Or.inl ⟨by rfl, ?_⟩) hHeld ?_
      · (intro w' hw'; obtain ⟨s0, s1, s2, s3⟩ := hw'; go_simp)
      simp only [Act.put, List.setIfInBounds_toArray, List.set_cons_zero, List.set_cons_succ]
      refine wpAnyH_take (i := 27) (v := (.pointer (some ⟨w.heap.size, 7, none⟩))) (by simp only [List.getElem?_toArray, List.getElem?_cons_succ, List.getElem?_cons_zero]; rfl) (by kernel_rfl) (by kernel_rfl) (by kernel_rfl) (by exact fun _ _ _ h => h) (Or.inl ⟨by rfl, ?_⟩) hHeld ?_
      · (intro w' hw'; obtain ⟨s0, s1, s2, s3⟩ := hw'; go_simp)
      simp only [Act.put, List.setIfInBounds_toArray, List.set_cons_zero, List.set_cons_succ]
      refine wpAnyH_take (i := 28) (v := (.int .u64 (c.cn : Nat))) (by simp only [List.getElem?_toArray, List.getElem?_cons_succ, List.getElem?_cons_zero]; rfl) (by kernel_rfl) (by kernel_rfl) (by kernel_rfl) (by exact fun _ _ _ h => h) (Or.inl ⟨by rfl, ?_⟩) hHeld ?_
      · (intro w' hw'; obtain ⟨s0, s1, s2, s3⟩ := hw'; go_simp)
      simp only [Act.put, List.setIfInBounds_toArray, List.set_cons_zero, List.set_cons_succ]
      refine wpAnyH_take (i := 29) (v := (.bool false)) (by simp only [List.getElem?_toArray, List.getElem?_cons_succ, List.getElem?_cons_zero]; rfl) (by kernel_rfl) (by kernel_rfl) (by kernel_rfl) (by exact fun _ _ _ h => h) (Or.inl ⟨by rfl, ?_⟩) hHeld ?_
      · (intro w' hw'; obtain ⟨s0, s1, s2, s3⟩ := hw'; go_simp)
      simp only [Act.put, List.setIfInBounds_toArray, List.set_cons_zero, List.set_cons_succ]
      refine wpAnyH_take (i := 30) (v := (.bool false)) (by simp only [List.getElem?_toArray, List.getElem?_cons_succ, List.getElem?_cons_zero]; rfl) (by kernel_rfl) (by kernel_rfl) (by kernel_rfl) (by exact fun _ _ _ h => h) (Or.inl ⟨by rfl, ?_⟩) hHeld ?_
      · (intro w' hw'; obtain ⟨s0, s1, s2, s3⟩ := hw'; go_simp)
      simp only [Act.put, List.setIfInBounds_toArray, List.set_cons_zero, List.set_cons_succ]
      refine wpAnyH_take (i := 31) (v := (.bool false)) (by simp only [List.getElem?_toArray, List.getElem?_cons_succ, List.getElem?_cons_zero]; rfl) (by kernel_rfl) (by kernel_rfl) (by kernel_rfl) (by exact fun _ _ _ h => h) (Or.inl ⟨by rfl, ?_⟩) hHeld ?_
      · (intro w' hw'; obtain ⟨s0, s1, s2, s3⟩ := hw'; go_simp)
      simp only [Act.put, List.setIfInBounds_toArray, List.set_cons_zero, List.set_cons_succ]
      refine wpAnyH_done (by kernel_rfl) ?_ _
      go_wp2_with fail
      go_meet
      exact ⟨by rw [HFV.out]; rfl, HF2.out⟩
    · refine wpAnyH_take (i := 0) (v := (.pointer (some ⟨w.heap.size, 0, none⟩))) (by simp only [List.getElem?_toArray, List.getElem?_cons_zero]; rfl) (by kernel_rfl) (by kernel_rfl) (by kernel_rfl) (by exact fun _ _ _ h => h) (Or.inl ⟨by rfl, ?_⟩) hHeld ?_
      · (intro w' hw'; obtain ⟨s0, s1, s2, s3⟩ := hw'; go_simp)
      simp only [Act.put, List.setIfInBounds_toArray, List.set_cons_zero, List.set_cons_succ]
      refine wpAnyH_take (i := 1) (v := (.int .u8 (c.kind : Nat))) (by simp only [List.getElem?_toArray, List.getElem?_cons_succ, List.getElem?_cons_zero]; rfl) (by kernel_rfl) (by kernel_rfl) (by kernel_rfl) (by exact fun _ _ _ h => h) (Or.inl ⟨by rfl, ?_⟩) hHeld ?_
      · (intro w' hw'; obtain ⟨s0, s1, s2, s3⟩ := hw'; go_simp)
      simp only [Act.put, List.setIfInBounds_toArray, List.set_cons_zero, List.set_cons_succ]
      refine wpAnyH_take (i := 2) (v := (.bool false)) (by simp only [List.getElem?_toArray, List.getElem?_cons_succ, List.getElem?_cons_zero]; rfl) (by kernel_rfl) (by kernel_rfl) (by kernel_rfl) (by exact fun _ _ _ h => h) (Or.inl ⟨by rfl, ?_⟩) hHeld ?_
      · (intro w' hw'; obtain ⟨s0, s1, s2, s3⟩ := hw'; go_simp)
      simp only [Act.put, List.setIfInBounds_toArray, List.set_cons_zero, List.set_cons_succ]
      refine wpAnyH_take (i := 3) (v := (.bool false)) (by simp only [List.getElem?_toArray, List.getElem?_cons_succ, List.getElem?_cons_zero]; rfl) (by kernel_rfl) (by kernel_rfl) (by kernel_rfl) (by exact fun _ _ _ h => h) (Or.inl ⟨by rfl, ?_⟩) hHeld ?_
      · (intro w' hw'; obtain ⟨s0, s1, s2, s3⟩ := hw'; go_simp)
      simp only [Act.put, List.setIfInBounds_toArray, List.set_cons_zero, List.set_cons_succ]
      refine wpAnyH_take (i := 4) (v := (.pointer (some ⟨w.heap.size, 0, none⟩))) (by simp only [List.getElem?_toArray, List.getElem?_cons_succ, List.getElem?_cons_zero]; rfl) (by kernel_rfl) (by kernel_rfl) (by kernel_rfl) (by exact fun _ _ _ h => h) (Or.inl ⟨by rfl, ?_⟩) hHeld ?_
      · (intro w' hw'; obtain ⟨s0, s1, s2, s3⟩ := hw'; go_simp)
      simp only [Act.put, List.setIfInBounds_toArray, List.set_cons_zero, List.set_cons_succ]
      refine wpAnyH_take (i := 5) (v := (.int .u8 (c.kind : Nat))) (by simp only [List.getElem?_toArray, List.getElem?_cons_succ, List.getElem?_cons_zero]; rfl) (by kernel_rfl) (by kernel_rfl) (by kernel_rfl) (by exact fun _ _ _ h => h) (Or.inl ⟨by rfl, ?_⟩) hHeld ?_
      · (intro w' hw'; obtain ⟨s0, s1, s2, s3⟩ := hw'; go_simp)
      simp only [Act.put, List.setIfInBounds_toArray, List.set_cons_zero, List.set_cons_succ]
      refine wpAnyH_take (i := 6) (v := (.bool false)) (by simp only [List.getElem?_toArray, List.getElem?_cons_succ, List.getElem?_cons_zero]; rfl) (by kernel_rfl) (by kernel_rfl) (by kernel_rfl) (by exact fun _ _ _ h => h) (Or.inl ⟨by rfl, ?_⟩) hHeld ?_
      · (intro w' hw'; obtain ⟨s0, s1, s2, s3⟩ := hw'; go_simp)
      simp only [Act.put, List.setIfInBounds_toArray, List.set_cons_zero, List.set_cons_succ]
      refine wpAnyH_take (i := 7) (v := (.bool false)) (by simp only [List.getElem?_toArray, List.getElem?_cons_succ, List.getElem?_cons_zero]; rfl) (by kernel_rfl) (by kernel_rfl) (by kernel_rfl) (by exact fun _ _ _ h => h) (Or.inl ⟨by rfl, ?_⟩) hHeld ?_
      · (intro w' hw'; obtain ⟨s0, s1, s2, s3⟩ := hw'; go_simp)
      simp only [Act.put, List.setIfInBounds_toArray, List.set_cons_zero, List.set_cons_succ]
      refine wpAnyH_take (i := 8) (v := (.bool false)) (by simp only [List.getElem?_toArray, List.getElem?_cons_succ, List.getElem?_cons_zero]; rfl) (by kernel_rfl) (by kernel_rfl) (by kernel_rfl) (by exact fun _ _ _ h => h) (Or.inl ⟨by rfl, ?_⟩) hHeld ?_
      · (intro w' hw'; obtain ⟨s0, s1, s2, s3⟩ := hw'; go_simp)
      simp only [Act.put, List.setIfInBounds_toArray, List.set_cons_zero, List.set_cons_succ]
      refine wpAnyH_take (i := 9) (v := (.agg (callCells c))) (by simp only [List.getElem?_toArray, List.getElem?_cons_succ, List.getElem?_cons_zero]; rfl) (by kernel_rfl) (by kernel_rfl) (by kernel_rfl) (by exact fun _ _ _ h => h) (Or.inl ⟨by rfl, ?_⟩) hHeld ?_
      · (intro w' hw'; obtain ⟨s0, s1, s2, s3⟩ := hw'; exact exec_load_row 31 (.tmp 1) rfl w.heap.size rfl 31 _ _ _ s0 Tryz.underlying31 rfl infoCall)
      simp only [Act.put, List.setIfInBounds_toArray, List.set_cons_zero, List.set_cons_succ]
      refine wpAnyH_take (i := 10) (v := (.agg (callCells c))) (by simp only [List.getElem?_toArray, List.getElem?_cons_succ, List.getElem?_cons_zero]; rfl) (by kernel_rfl) (by kernel_rfl) (by kernel_rfl) (by exact fun _ _ _ h => h) (Or.inl ⟨by rfl, ?_⟩) hHeld ?_
      · (intro w' hw'; obtain ⟨s0, s1, s2, s3⟩ := hw'; exact exec_load_row 31 (.tmp 1) rfl w.heap.size rfl 31 _ _ _ s0 Tryz.underlying31 rfl infoCall)
      simp only [Act.put, List.setIfInBounds_toArray, List.set_cons_zero, List.set_cons_succ]
      refine wpAnyH_ready (rs := [11]) (by kernel_rfl) (by simp) ?_
      refine AllReadyH.cons rfl (fun K hK => ?_) AllReadyH.nil
      rw [if_pos (by rfl)]
      go_simp
      refine (HO.out _).mono ?_
      rintro e w2 ⟨rfl, hf2⟩
      have HF2 : Hid (Fr [] w1 w2) := HF0.out.andThen hf2
      have hb2 := hf2.blockAs hbD (by simp)
      have q0 := hf2.cellAs d0 (by simp)
      have q6 := hf2.cellAs d6 (by simp)
      have q7 := hf2.cellAs d7 (by simp)
      go_wp2_with fail
      refine hK.out _ _ ⟨hb2, q0, q6, q7⟩ (fun hHeld => ?_)
      clear hK K
      try simp only [Act.put, List.setIfInBounds_toArray, List.set_cons_zero, List.set_cons_succ]
      refine wpAnyH_take (i := 12) (v := (.bool false)) (by simp only [List.getElem?_toArray, List.getElem?_cons_succ, List.getElem?_cons_zero]; rfl) (by kernel_rfl) (by kernel_rfl) (by kernel_rfl) (by exact fun _ _ _ h => h) (Or.inl ⟨by rfl, ?_⟩) hHeld ?_
      · (intro w' hw'; obtain ⟨s0, s1, s2, s3⟩ := hw'; go_simp)
      simp only [Act.put, List.setIfInBounds_toArray, List.set_cons_zero, List.set_cons_succ]
      refine wpAnyH_take (i := 13) (v := (.bool false)) (by simp only [List.getElem?_toArray, List.getElem?_cons_succ, List.getElem?_cons_zero]; rfl) (by kernel_rfl) (by kernel_rfl) (by kernel_rfl) (by exact fun _ _ _ h => h) (Or.inl ⟨by rfl, ?_⟩) hHeld ?_
      · (intro w' hw'; obtain ⟨s0, s1, s2, s3⟩ := hw'; go_simp)
      simp only [Act.put, List.setIfInBounds_toArray, List.set_cons_zero, List.set_cons_succ]
      refine wpAnyH_take (i := 14) (v := (.bool false)) (by simp only [List.getElem?_toArray, List.getElem?_cons_succ, List.getElem?_cons_zero]; rfl) (by kernel_rfl) (by kernel_rfl) (by kernel_rfl) (by exact fun _ _ _ h => h) (Or.inl ⟨by rfl, ?_⟩) hHeld ?_
      · (intro w' hw'; obtain ⟨s0, s1, s2, s3⟩ := hw'; go_simp)
      simp only [Act.put, List.setIfInBounds_toArray, List.set_cons_zero, List.set_cons_succ]
      refine wpAnyH_take (i := 15) (v := (.pointer (some ⟨w.heap.size, 6, none⟩))) (by simp only [List.getElem?_toArray, List.getElem?_cons_succ, List.getElem?_cons_zero]; rfl) (by kernel_rfl) (by kernel_rfl) (by kernel_rfl) (by exact fun _ _ _ h => h) (Or.inl ⟨by rfl, ?_⟩) hHeld ?_
      · (intro w' hw'; obtain ⟨s0, s1, s2, s3⟩ := hw'; go_simp)
      simp only [Act.put, List.setIfInBounds_toArray, List.set_cons_zero, List.set_cons_succ]
      refine wpAnyH_take (i := 16) (v := (.pointer (some ⟨w.heap.size, 6, none⟩))) (by simp only [List.getElem?_toArray, List.getElem?_cons_succ, List.getElem?_cons_zero]; rfl) (by kernel_rfl) (by kernel_rfl) (by kernel_rfl) (by exact fun _ _ _ h => h) (Or.inl ⟨by rfl, ?_⟩) hHeld ?_
      · (intro w' hw'; obtain ⟨s0, s1, s2, s3⟩ := hw'; go_simp)
      simp only [Act.put, List.setIfInBounds_toArray, List.set_cons_zero, List.set_cons_succ]
      refine wpAnyH_take (i := 17) (v := (.int .u8 (c.ck : Nat))) (by simp only [List.getElem?_toArray, List.getElem?_cons_succ, List.getElem?_cons_zero]; rfl) (by kernel_rfl) (by kernel_rfl) (by kernel_rfl) (by exact fun _ _ _ h => h) (Or.inl ⟨by rfl, ?_⟩) hHeld ?_
      · (intro w' hw'; obtain ⟨s0, s1, s2, s3⟩ := hw'; go_simp)
      simp only [Act.put, List.setIfInBounds_toArray, List.set_cons_zero, List.set_cons_succ]
      refine wpAnyH_take (i := 18) (v := (.bool false)) (by simp only [List.getElem?_toArray, List.getElem?_cons_succ, List.getElem?_cons_zero]; rfl) (by kernel_rfl) (by kernel_rfl) (by kernel_rfl) (by exact fun _ _ _ h => h) (Or.inl ⟨by rfl, ?_⟩) hHeld ?_
      · (intro w' hw'; obtain ⟨s0, s1, s2, s3⟩ := hw'; go_simp)
      simp only [Act.put, List.setIfInBounds_toArray, List.set_cons_zero, List.set_cons_succ]
      refine wpAnyH_take (i := 19) (v := (.bool false)) (by simp only [List.getElem?_toArray, List.getElem?_cons_succ, List.getElem?_cons_zero]; rfl) (by kernel_rfl) (by kernel_rfl) (by kernel_rfl) (by exact fun _ _ _ h => h) (Or.inl ⟨by rfl, ?_⟩) hHeld ?_
      · (intro w' hw'; obtain ⟨s0, s1, s2, s3⟩ := hw'; go_simp)
      simp only [Act.put, List.setIfInBounds_toArray, List.set_cons_zero, List.set_cons_succ]
      refine wpAnyH_take (i := 20) (v := (.bool false)) (by simp only [List.getElem?_toArray, List.getElem?_cons_succ, List.getElem?_cons_zero]; rfl) (by kernel_rfl) (by kernel_rfl) (by kernel_rfl) (by exact fun _ _ _ h => h) (Or.inl ⟨by rfl, ?_⟩) hHeld ?_
      · (intro w' hw'; obtain ⟨s0, s1, s2, s3⟩ := hw'; go_simp)
      simp only [Act.put, List.setIfInBounds_toArray, List.set_cons_zero, List.set_cons_succ]
      refine wpAnyH_take (i := 21) (v := (.pointer (some ⟨w.heap.size, 6, none⟩))) (by simp only [List.getElem?_toArray, List.getElem?_cons_succ, List.getElem?_cons_zero]; rfl) (by kernel_rfl) (by kernel_rfl) (by kernel_rfl) (by exact fun _ _ _ h => h) (Or.inl ⟨by rfl, ?_⟩) hHeld ?_
      · (intro w' hw'; obtain ⟨s0, s1, s2, s3⟩ := hw'; go_simp)
      simp only [Act.put, List.setIfInBounds_toArray, List.set_cons_zero, List.set_cons_succ]
      refine wpAnyH_take (i := 22) (v := (.pointer (some ⟨w.heap.size, 6, none⟩))) (by simp only [List.getElem?_toArray, List.getElem?_cons_succ, List.getElem?_cons_zero]; rfl) (by kernel_rfl) (by kernel_rfl) (by kernel_rfl) (by exact fun _ _ _ h => h) (Or.inl ⟨by rfl, ?_⟩) hHeld ?_
      · (intro w' hw'; obtain ⟨s0, s1, s2, s3⟩ := hw'; go_simp)
      simp only [Act.put, List.setIfInBounds_toArray, List.set_cons_zero, List.set_cons_succ]
      refine wpAnyH_take (i := 23) (v := (.int .u8 (c.ck : Nat))) (by simp only [List.getElem?_toArray, List.getElem?_cons_succ, List.getElem?_cons_zero]; rfl) (by kernel_rfl) (by kernel_rfl) (by kernel_rfl) (by exact fun _ _ _ h => h) (Or.inl ⟨by rfl, ?_⟩) hHeld ?_
      · (intro w' hw'; obtain ⟨s0, s1, s2, s3⟩ := hw'; go_simp)
      simp only [Act.put, List.setIfInBounds_toArray, List.set_cons_zero, List.set_cons_succ]
      refine wpAnyH_take (i := 24) (v := (.bool false)) (by simp only [List.getElem?_toArray, List.getElem?_cons_succ, List.getElem?_cons_zero]; rfl) (by kernel_rfl) (by kernel_rfl) (by kernel_rfl) (by exact fun _ _ _ h => h) (Or.inl ⟨by rfl, ?_⟩) hHeld ?_
      · (intro w' hw'; obtain ⟨s0, s1, s2, s3⟩ := hw'; go_simp)
      simp only [Act.put, List.setIfInBounds_toArray, List.set_cons_zero, List.set_cons_succ]
      refine wpAnyH_take (i := 25) (v := (.bool false)) (by simp only [List.getElem?_toArray, List.getElem?_cons_succ, List.getElem?_cons_zero]; rfl) (by kernel_rfl) (by kernel_rfl) (by kernel_rfl) (by exact fun _ _ _ h => h) (Or.inl ⟨by rfl, ?_⟩) hHeld ?_
      · (intro w' hw'; obtain ⟨s0, s1, s2, s3⟩ := hw'; go_simp)
      simp only [Act.put, List.setIfInBounds_toArray, List.set_cons_zero, List.set_cons_succ]
      refine wpAnyH_take (i := 26) (v := undef) (by simp only [List.getElem?_toArray, List.getElem?_cons_succ, List.getElem?_cons_zero]; rfl) (by kernel_rfl) (by kernel_rfl) (by kernel_rfl) (by exact fun _ _ _ h => h) (Or.inr ⟨by rfl, rfl⟩) hHeld ?_
      simp only [Act.put, List.setIfInBounds_toArray, List.set_cons_zero, List.set_cons_succ]
      refine wpAnyH_take (i := 27) (v := undef) (by simp only [List.getElem?_toArray, List.getElem?_cons_succ, List.getElem?_cons_zero]; rfl) (by kernel_rfl) (by kernel_rfl) (by kernel_rfl) (by exact fun _ _ _ h => h) (Or.inr ⟨by rfl, rfl⟩) hHeld ?_
      simp only [Act.put, List.setIfInBounds_toArray, List.set_cons_zero, List.set_cons_succ]
      refine wpAnyH_take (i := 28) (v := undef) (by simp only [List.getElem?_toArray, List.getElem?_cons_succ, List.getElem?_cons_zero]; rfl) (by kernel_rfl) (by kernel_rfl) (by kernel_rfl) (by exact fun _ _ _ h => h) (Or.inr ⟨by rfl, rfl⟩) hHeld ?_
      simp only [Act.put, List.setIfInBounds_toArray, List.set_cons_zero, List.set_cons_succ]
      refine wpAnyH_take (i := 29) (v := undef) (by simp only [List.getElem?_toArray, List.getElem?_cons_succ, List.getElem?_cons_zero]; rfl) (by kernel_rfl) (by kernel_rfl) (by kernel_rfl) (by exact fun _ _ _ h => h) (Or.inr ⟨by rfl, rfl⟩) hHeld ?_
      simp only [Act.put, List.setIfInBounds_toArray, List.set_cons_zero, List.set_cons_succ]
      refine wpAnyH_take (i := 30) (v := (.bool false)) (by simp only [List.getElem?_toArray, List.getElem?_cons_succ, List.getElem?_cons_zero]; rfl) (by kernel_rfl) (by kernel_rfl) (by kernel_rfl) (by exact fun _ _ _ h => h) (Or.inl ⟨by rfl, ?_⟩) hHeld ?_
      · (intro w' hw'; obtain ⟨s0, s1, s2, s3⟩ := hw'; go_simp)
      simp only [Act.put, List.setIfInBounds_toArray, List.set_cons_zero, List.set_cons_succ]
      refine wpAnyH_take (i := 31) (v := (.bool false)) (by simp only [List.getElem?_toArray, List.getElem?_cons_succ, List.getElem?_cons_zero]; rfl) (by kernel_rfl) (by kernel_rfl) (by kernel_rfl) (by exact fun _ _ _ h => h) (Or.inl ⟨by rfl, ?_⟩) hHeld ?_
      · (intro w' hw'; obtain ⟨s0, s1, s2, s3⟩ := hw'; go_simp)
      simp only [Act.put, List.setIfInBounds_toArray, List.set_cons_zero, List.set_cons_succ]
      refine wpAnyH_done (by kernel_rfl) ?_ _
      go_wp2_with fail
      go_meet
      exact ⟨by rw [HFV.out]; rfl, HF2.out⟩
  obtain ⟨rfl, hfc⟩ := hcut
  have HFC := Lib.hid (HF1.out.andThen hfc)
  have HCC := Lib.hid (hfc.blockAs HC1.out (by simp))
  clear hfc HF1 HC1 hbD d0 d6 d7 HO HLD HNEQ HC
  obtain ⟨wz, rfl⟩ : ∃ wz : World, wz = wc := ⟨_, rfl⟩
  rcases Bool.eq_false_or_eq_true (frontP c) with hf | hf
  rotate_left
  · have HR : Hid (mayP c = false) := by show _ = _; rw [HM.out, hf]; rfl
    rw [hf]
    clear hf
    go_wp2_with fail
    go_ret
    exact ⟨by rw [HR.out]; rfl, HFC.out⟩
  have HM1 : Hid (mayP c = (shortP c.bucket && shortP c.name && shortP c.text && shortP c.pre && shortP c.aft)) := by show _ = _; rw [HM.out, hf]; rfl
  rw [hf]
  clear hf HM
  have g0 := (cells11 HCC.out).2.1
  go_wp2_with fail
  refine (short_calls c.bucket HWF.out.bucket wz).mono ?_
  rintro e wa0 ⟨rfl, hf0⟩
  have HFC := Lib.hid (HFC.out.andThen hf0)
  have HCC := Lib.hid (hf0.blockAs HCC.out (by simp))
  clear hf0 g0
  rcases Bool.eq_false_or_eq_true (shortP c.bucket) with hs | hs
  rotate_left
  · have HR : Hid (mayP c = false) := by show _ = _; rw [HM1.out, hs]; simp
    rw [hs]
    clear hs
    go_wp2_with fail
    go_ret
    exact ⟨by rw [HR.out]; rfl, HFC.out⟩
  have HM1 : Hid (mayP c = (shortP c.name && shortP c.text && shortP c.pre && shortP c.aft)) := by show _ = _; rw [HM1.out, hs, Bool.true_and]
  rw [hs]
  clear hs
  have g1 := (cells11 HCC.out).2.2.1
  go_wp2_with fail
  refine (short_calls c.name HWF.out.name wa0).mono ?_
  rintro e wa1 ⟨rfl, hf1⟩
  have HFC := Lib.hid (HFC.out.andThen hf1)
  have HCC := Lib.hid (hf1.blockAs HCC.out (by simp))
  clear hf1 g1
  rcases Bool.eq_false_or_eq_true (shortP c.name) with hs | hs
  rotate_left
  · have HR : Hid (mayP c = false) := by show _ = _; rw [HM1.out, hs]; simp
    rw [hs]
    clear hs
    go_wp2_with fail
    go_ret
    exact ⟨by rw [HR.out]; rfl, HFC.out⟩
  have HM1 : Hid (mayP c = (shortP c.text && shortP c.pre && shortP c.aft)) := by show _ = _; rw [HM1.out, hs, Bool.true_and]
  rw [hs]
  clear hs
  have g2 := (cells11 HCC.out).2.2.2.2.2.1
  go_wp2_with fail
  refine (short_calls c.text HWF.out.text wa1).mono ?_
  rintro e wa2 ⟨rfl, hf2⟩
  have HFC := Lib.hid (HFC.out.andThen hf2)
  have HCC := Lib.hid (hf2.blockAs HCC.out (by simp))
  clear hf2 g2
  rcases Bool.eq_false_or_eq_true (shortP c.text) with hs | hs
  rotate_left
  · have HR : Hid (mayP c = false) := by show _ = _; rw [HM1.out, hs]; simp
    rw [hs]
    clear hs
    go_wp2_with fail
    go_ret
    exact ⟨by rw [HR.out]; rfl, HFC.out⟩
  have HM1 : Hid (mayP c = (shortP c.pre && shortP c.aft)) := by show _ = _; rw [HM1.out, hs, Bool.true_and]
  rw [hs]
  clear hs
  have g3 := (cells11 HCC.out).2.2.2.2.2.2.2.2.1
  go_wp2_with fail
  refine (short_calls c.pre HWF.out.pre wa2).mono ?_
  rintro e wa3 ⟨rfl, hf3⟩
  have HFC := Lib.hid (HFC.out.andThen hf3)
  have HCC := Lib.hid (hf3.blockAs HCC.out (by simp))
  clear hf3 g3
  rcases Bool.eq_false_or_eq_true (shortP c.pre) with hs | hs
  rotate_left
  · have HR : Hid (mayP c = false) := by show _ = _; rw [HM1.out, hs]; simp
    rw [hs]
    clear hs
    go_wp2_with fail
    go_ret
    exact ⟨by rw [HR.out]; rfl, HFC.out⟩
  have HM1 : Hid (mayP c = (shortP c.aft)) := by show _ = _; rw [HM1.out, hs, Bool.true_and]
  rw [hs]
  clear hs
  have g4 := (cells11 HCC.out).2.2.2.2.2.2.2.2.2.1
  go_wp2_with fail
  refine (short_calls c.aft HWF.out.aft wa3).mono ?_
  rintro e wa4 ⟨rfl, hf4⟩
  have HFC := Lib.hid (HFC.out.andThen hf4)
  have HCC := Lib.hid (hf4.blockAs HCC.out (by simp))
  clear hf4 g4
  go_wp2_with fail
  go_ret
  exact ⟨by rw [HM1.out]; rfl, HFC.out⟩
end Go.Proofs.YtcaeppncippknaaGreatDoor
