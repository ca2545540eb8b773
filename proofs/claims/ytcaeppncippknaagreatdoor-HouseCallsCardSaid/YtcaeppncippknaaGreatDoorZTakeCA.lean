/- hoardref31's Taker: cond; Take. Conditions: no word is empty; words below 2^20 bytes. -/
import Derived.Test.YtcaeppncippknaaGreatDoorZCallsA
import Derived.Test.YtcaeppncippknaaGreatDoorZMayA
import Derived.Test.YtcaeppncippknaaGreatDoorZBaseA
import Derived.Test.YtcaeppncippknaaGreatDoorZRItem
import Derived.Deep.DeepCutAuto
import Derived.Deep.LoopGhost
namespace Go.Proofs.YtcaeppncippknaaGreatDoor
open Go Go.RowKit

def condC (kd n : Nat) : Array Value := #[.int .u8 (kd : Nat), .int .u64 (n : Nat)]
theorem infoCondS : (Tryz.prog.info? 29).map (·.size) = some 2 := by kernel_rfl
theorem condC_one (kd n : Nat) : (condC kd n).all (·.oneCell') = true := by simp [condC, Value.oneCell']

set_option maxHeartbeats 4000000 in
set_option maxRecDepth 100000 in
theorem tcond_calls (K b : Nat) (w : World) (l : List (List UInt8)) (bad : Bool) (hl : l.length ≤ 1099511627775) (hlw : ∀ x ∈ l, x ≠ [] ∧ x.length ≤ 1048576) (h : RTk K b w l bad) (hb8 : b < w.heap.size) :
    Calls Tryz.prog 80 #[.pointer (some ⟨K, 0, none⟩)] w fun e w' => e = .returned (.agg (condC (tcR l bad).1.1 (tcR l bad).1.2)) ∧ RTk K b w' (tcR l bad).2.1 (tcR l bad).2.2 ∧ Fr [K] w w' := by
  have HLW := Lib.hid hlw
  have hK := h.lt
  have HT := Lib.hid h
  clear h hlw
  go_enter Tryz.func80, Tryz.ntmps80
  go_upto_region 1 with fail
  generalize hw1 : w.alloc (.cells #[.int .u8 0, .int .u64 0] 29) = w1
  have hR1 : w1.heap[w.heap.size]? = some (.cells (condC 0 0) 29 (0, 0)) := by subst hw1; exact (MapKept.heap_alloc w _).1
  have hf1 : Fr [] w w1 := by subst hw1; exact (Fr.refl _ _).alloc _
  have hT1 := HT.out.fr hf1 (by simp) (by simp)
  clear hw1
  go_wp2_with fail
  refine (tnext_calls K b w1 l bad (by omega) hT1).mono ?_
  rintro e w2 ⟨rfl, hT2, hf2⟩
  have hR2 := hf2.blockAs hR1 (by simp; omega)
  have HF2 : Hid (Fr [K] w w2) := (hf1.mono (by simp)).andThen hf2
  have HT2 := Lib.hid hT2
  have HR2 := Lib.hid hR2
  have HTC : Hid (tcR l bad = if nextW l bad = w_any then ((0, 0), nextL l bad, nextB l bad) else if nextW l bad = w_absent then ((1, 0), nextL l bad, nextB l bad) else if nextW l bad = w_is then ((2, unV m64 (nextL l bad) (nextB l bad)), nextL (nextL l bad) (nextB l bad), unB m64 (nextL l bad) (nextB l bad)) else ((0, 0), nextL l bad, true)) := rfl
  have hwl : (nextL l bad).length ≤ 1099511627775 := Nat.le_trans (nextL_length _ _) hl
  have HLW2 : Hid (∀ x ∈ nextL l bad, x ≠ [] ∧ x.length ≤ 1048576) := fun x hx => HLW.out x (nextL_mem hx)
  clear hT1 hf1 hR1 hT2 hf2 hR2 HT HLW
  generalize nextW l bad = W at *
  generalize nextL l bad = l1 at *
  generalize nextB l bad = b1 at *
  by_cases h1 : W = w_any
  · have HE : Hid (tcR l bad = ((0, 0), l1, b1)) := by show _ = _; rw [HTC.out, if_pos h1]
    subst h1
    unfold w_any
    clear HTC
    go_wp2_with (refine wpList_store_row (by rfl) 29 (.tmp 2) (.tmp 7) (by rfl) w.heap.size (condC 0 0) (by rfl) (by rfl) 29 _ HR2.out infoCondS rfl (condC_one _ _) ?_)
    refine bodyPost_ret (v := .agg (condC 0 0)) (results_one rfl _ _ w.heap.size 29 (condC 0 0) (0, 0) _ (by rfl) (setRow_heap _ _ _ _ _ _ HR2.out) Tryz.underlying29 rfl infoCondS) rfl ?_
    rw [HE.out]
    exact ⟨rfl, HT2.out.fr ((Fr.refl [w.heap.size] _).setRow (by simp) _) (by simp; omega) (by simp; omega), HF2.out.setRow (fun h => absurd h (by simp)) _⟩
  · have q1 : (W == [97, 110, 121]) = false := by simpa [w_any] using h1
    by_cases h2 : W = w_absent
    · have HE : Hid (tcR l bad = ((1, 0), l1, b1)) := by show _ = _; rw [HTC.out, if_neg h1, if_pos h2]
      subst h2
      unfold w_absent
      clear HTC h1 q1
      go_wp2_with (refine wpList_store_row (by rfl) 29 (.tmp 2) (.tmp 10) (by rfl) w.heap.size (condC 1 0) (by rfl) (by rfl) 29 _ HR2.out infoCondS rfl (condC_one _ _) ?_)
      refine bodyPost_ret (v := .agg (condC 1 0)) (results_one rfl _ _ w.heap.size 29 (condC 1 0) (0, 0) _ (by rfl) (setRow_heap _ _ _ _ _ _ HR2.out) Tryz.underlying29 rfl infoCondS) rfl ?_
      rw [HE.out]
      exact ⟨rfl, HT2.out.fr ((Fr.refl [w.heap.size] _).setRow (by simp) _) (by simp; omega) (by simp; omega), HF2.out.setRow (fun h => absurd h (by simp)) _⟩
    · have q2 : (W == [97, 98, 115, 101, 110, 116]) = false := by simpa [w_absent] using h2
      by_cases h3 : W = w_is
      · have HE : Hid (tcR l bad = ((2, unV m64 l1 b1), nextL l1 b1, unB m64 l1 b1)) := by show _ = _; rw [HTC.out, if_neg h1, if_neg h2, if_pos h3]
        subst h3
        unfold w_is
        clear HTC h1 q1 h2 q2
        go_wp2_with fail
        refine (tunum_calls K b m64 w2 l1 b1 (by unfold m64; omega) (by unfold m64; omega) (by omega) HLW2.out HT2.out).mono ?_
        rintro e w3 ⟨rfl, hT3, hf3⟩
        have HT3 := Lib.hid hT3
        have HR3 := Lib.hid (hf3.blockAs HR2.out (by simp; omega))
        have HF3 := Lib.hid (HF2.out.andThen hf3)
        clear hT3 hf3
        generalize unV m64 l1 b1 = n at *
        go_wp2_with (refine wpList_store_row (by rfl) 29 (.tmp 2) (.tmp 15) (by rfl) w.heap.size (condC 2 n) (by rfl) (by rfl) 29 _ HR3.out infoCondS rfl (condC_one _ _) ?_)
        refine bodyPost_ret (v := .agg (condC 2 n)) (results_one rfl _ _ w.heap.size 29 (condC 2 n) (0, 0) _ (by rfl) (setRow_heap _ _ _ _ _ _ HR3.out) Tryz.underlying29 rfl infoCondS) rfl ?_
        rw [HE.out]
        exact ⟨rfl, HT3.out.fr ((Fr.refl [w.heap.size] _).setRow (by simp) _) (by simp; omega) (by simp; omega), HF3.out.setRow (fun h => absurd h (by simp)) _⟩
      · have q3 : (W == [105, 115]) = false := by simpa [w_is] using h3
        have HE : Hid (tcR l bad = ((0, 0), l1, true)) := by show _ = _; rw [HTC.out, if_neg h1, if_neg h2, if_neg h3]
        obtain ⟨c1, f1, f0⟩ := HT2.out.bad
        have HSET := Lib.hid (HT2.out.setBad true)
        have HR3 : Hid ((w2.setCell ⟨K, 1, none⟩ (.bool true)).heap[w.heap.size]? = some (.cells (condC 0 0) 29 (0, 0))) := HSET.out.2.blockAs HR2.out (by simp; omega)
        clear HTC h1 h2 h3
        go_wp2_with (refine wpList_store_row (by rfl) 29 (.tmp 2) (.tmp 19) (by rfl) w.heap.size (condC 0 0) (by rfl) (by rfl) 29 _ HR3.out infoCondS rfl (condC_one _ _) ?_)
        refine bodyPost_ret (v := .agg (condC 0 0)) (results_one rfl _ _ w.heap.size 29 (condC 0 0) (0, 0) _ (by rfl) (setRow_heap _ _ _ _ _ _ HR3.out) Tryz.underlying29 rfl infoCondS) rfl ?_
        rw [HE.out]
        exact ⟨rfl, HSET.out.1.fr ((Fr.refl [w.heap.size] _).setRow (by simp) _) (by simp; omega) (by simp; omega), (HF2.out.andThen HSET.out.2).setRow (fun h => absurd h (by simp)) _⟩

/-! Which kind a word is, name by name. -/
def foundK (W : List UInt8) : Nat → Nat
  | 0 => 0
  | k + 1 => if 1 ≤ k ∧ nameL[k]? = some W then k else foundK W k
def kindOf (W : List UInt8) : Nat := ((rowOf W).map (·.1)).getD 0
theorem nameL_length : nameL.length = 15 := rfl
theorem found_none {W : List UInt8} : ∀ k, (∀ j, 1 ≤ j → j < k → nameL[j]? ≠ some W) → foundK W k = 0
  | 0, _ => rfl
  | k + 1, h => by
    rw [foundK, if_neg (fun e => h k e.1 (by omega) e.2)]
    exact found_none k fun j h1 h2 => h j h1 (by omega)
theorem found_some {r : KRow} (h : r ∈ kindRows) : foundK r.2.1 15 = r.1 := by
  have hall : ∀ r ∈ kindRows, foundK r.2.1 15 = r.1 := by decide
  exact hall r h
theorem found_all (W : List UInt8) : foundK W 15 = kindOf W := by
  unfold kindOf
  cases h : rowOf W with
  | some r =>
    obtain ⟨h1, h2⟩ := rowOf_mem h
    rw [← h2, found_some h1]; rfl
  | none =>
    unfold rowOf at h
    rw [List.find?_eq_none] at h
    refine found_none 15 fun j h1 h2 he => ?_
    obtain ⟨i, rfl⟩ : ∃ i, j = i + 1 := ⟨j - 1, by omega⟩
    have e : nameL[i + 1]? = (kindRows.map (·.2.1))[i]? := rfl
    rw [e, List.getElem?_map, Option.map_eq_some_iff] at he
    obtain ⟨r, hr, rfl⟩ := he
    have := h r (List.mem_of_getElem? hr)
    simp at this
theorem found_le (W : List UInt8) : ∀ k, foundK W k ≤ k
  | 0 => Nat.le_refl _
  | k + 1 => by
    rw [foundK]
    split
    · omega
    · have := found_le W k; omega
def stL (h : List UInt8) (s : RS) : RS := h.foldl (fun s x => rdT (lp x) s) s
theorem stL_succ (h : List UInt8) (s : RS) {k : Nat} (hk : k < h.length) : stL (h.take (k + 1)) s = rdT (lp h[k]) (stL (h.take k) s) := by
  unfold stL
  rw [List.take_add_one, List.getElem?_eq_getElem hk, List.foldl_append]
  rfl
theorem st_map : ∀ (h : List UInt8) (fs : List Nat) (s : RS), h.map lp = fs.map pn → stL h s = allS rdT fs s
  | [], [], _, _ => rfl
  | [], _ :: _, _, e => by cases e
  | _ :: _, [], _, e => by cases e
  | x :: h, f :: fs, s, e => by
    rw [List.map_cons, List.map_cons] at e
    injection e with e1 e2
    show stL h (rdT (lp x) s) = allS rdT fs (rdT (pn f) s)
    rw [e1]
    exact st_map h fs _ e2
/-- Take, letter by letter. -/
theorem take_letters (l : List (List UInt8)) : stL (hasL (kindOf (nextW l false))) ⟨{ ACall.zero with kind := kindOf (nextW l false) }, nextL l false, nextB l false || decide (kindOf (nextW l false) = 0)⟩ = takeS l := by
  unfold takeS kindOf
  cases h : rowOf (nextW l false) with
  | none =>
    show RS.mk ACall.zero (nextL l false) (nextB l false || true) = _
    rw [Bool.or_true]
  | some r =>
    obtain ⟨h1, h2⟩ := rowOf_mem h
    have hp := has_parts { ACall.zero with kind := r.1 }
    have hk : lineK { ACall.zero with kind := r.1 } = some r := (rows_ok r h1).2.2
    rw [(lineX_row hk).1] at hp
    have hz : ∀ r ∈ kindRows, decide (r.1 = 0) = false := by decide
    show stL (hasL r.1) ⟨{ ACall.zero with kind := r.1 }, nextL l false, nextB l false || decide (r.1 = 0)⟩ = _
    rw [hz r h1, Bool.or_false]
    exact st_map _ _ _ hp
theorem stL_words {P : List UInt8 → Prop} : ∀ (h : List UInt8) {s : RS}, (∀ x ∈ s.l, P x) → ∀ x ∈ (stL h s).l, P x
  | [], _, hs, x, hx => hs x hx
  | y :: h, s, hs, x, hx => stL_words h (s := rdT (lp y) s) (fun z hz => hs z (reads_ref.sub _ _ _ hz)) x hx
theorem tc_len (l : List (List UInt8)) (bad : Bool) : (tcR l bad).2.1.length ≤ l.length := by
  have h1 := nextL_length l bad
  have h2 := nextL_length (nextL l bad) (nextB l bad)
  unfold tcR
  split
  · exact h1
  · split
    · exact h1
    · split
      · show (nextL (nextL l bad) (nextB l bad)).length ≤ _; omega
      · exact h1
theorem rdT_len (p : Nat) (s : RS) : (rdT p s).l.length ≤ s.l.length := by
  rcases part_cases p with rfl | rfl | rfl | rfl | rfl | rfl | rfl | rfl | rfl | h
  case inr.inr.inr.inl => exact tc_len _ _
  case inr.inr.inr.inr.inr.inr.inr.inr.inr => rw [rdT_other h]; exact Nat.le_refl _
  all_goals first | exact nextL_length _ _ | exact tiL_sub.2
theorem stL_len : ∀ (h : List UInt8) (s : RS), (stL h s).l.length ≤ s.l.length
  | [], _ => Nat.le_refl _
  | y :: h, s => Nat.le_trans (stL_len h (rdT (lp y) s)) (rdT_len _ _)
/-- Where Take stands. -/
structure TkAt (w0 : World) (K b R D : Nat) (s : RS) (w : World) : Prop where
  t : RTk K b w s.l s.bad
  d : w.heap[D]? = some (.cells (callCells s.c) 31 (0, 0))
  r : w.heap[R]? = some (.cells (callCells ACall.zero) 31 (0, 0))
  f : Fr [K] w0 w
  kr : K < R
  br : b < R
  rd : R < D
  rw : w0.heap.size ≤ R
theorem TkAt.call {w0 w w' : World} {K b R D : Nat} {s : RS} {l : List (List UInt8)} {bad : Bool} (h : TkAt w0 K b R D s w) (hf : Fr [K] w w') (ht : RTk K b w' l bad) : TkAt w0 K b R D ⟨s.c, l, bad⟩ w' := by
  have h1 := h.kr
  have h2 := h.br
  have h3 := h.rd
  exact ⟨ht, hf.blockAs h.d (by simp; omega), hf.blockAs h.r (by simp; omega), h.f.andThen hf, h1, h2, h3, h.rw⟩
theorem TkAt.store {w0 w : World} {K b R D : Nat} {s : RS} {c' : ACall} (h : TkAt w0 K b R D s w) (i : Nat) (v : Value) (he : (callCells s.c).setIfInBounds i v = callCells c') : TkAt w0 K b R D ⟨c', s.l, s.bad⟩ (w.setCell ⟨D, i, none⟩ v) := by
  have h1 := h.kr
  have h2 := h.br
  have h3 := h.rd
  have h4 := h.rw
  have hf : Fr [D] w (w.setCell ⟨D, i, none⟩ v) := (Fr.refl _ _).setCell (by simp) _
  exact ⟨h.t.fr hf (by simp; omega) (by simp; omega), by rw [← he]; exact setCell_block h.d v, hf.blockAs h.r (by simp; omega), h.f.trans hf (fun i hi hlt => by have := List.mem_singleton.1 hi; omega), h1, h2, h3, h4⟩
end Go.Proofs.YtcaeppncippknaaGreatDoor
/- hoardref31.Take: the call that words are. Conditions: no word is empty; words below 2^20 bytes. -/
namespace Go.Proofs.YtcaeppncippknaaGreatDoor
open Go Go.RowKit

set_option maxHeartbeats 16000000 in
set_option maxRecDepth 100000 in
theorem take_calls (K b : Nat) (w : World) (l : List (List UInt8)) (hl : l.length ≤ 1099511627775) (hlw : ∀ x ∈ l, x ≠ [] ∧ x.length ≤ 1048576) (h : RTk K b w l false) (hb8 : b < w.heap.size) :
    Calls Tryz.prog 45 #[.pointer (some ⟨K, 0, none⟩)] w fun e w' => e = .returned (.agg (callCells (takeS l).c)) ∧ RTk K b w' (takeS l).l (takeS l).bad ∧ Fr [K] w w' := by
  have hK := h.lt
  have HLW1 : Hid (∀ x ∈ nextL l false, x ≠ [] ∧ x.length ≤ 1048576) := fun x hx => hlw x (nextL_mem hx)
  have hl1 : (nextL l false).length ≤ 1099511627775 := Nat.le_trans (nextL_length _ _) hl
  have HT := Lib.hid h
  have HTL := Lib.hid (take_letters l)
  clear h hlw
  go_enter Tryz.func45, Tryz.ntmps45
  go_upto_region 2 with fail
  generalize hw1 : (w.alloc _).alloc _ = w1
  have hf1 : Fr [] w w1 := by subst hw1; exact ((Fr.refl _ _).alloc _).alloc _
  have h1 : TkAt w K b w.heap.size (w.heap.size + 1) ⟨ACall.zero, l, false⟩ w1 := by
    refine ⟨HT.out.fr hf1 (by simp) (by simp), ?_, ?_, hf1.mono (by simp), hK, hb8, by omega, Nat.le_refl _⟩
    · subst hw1; exact heap_alloc2 w _ _
    · subst hw1; rw [Lib.alloc_old _ _ _ (by simp)]; exact (MapKept.heap_alloc w _).1
  clear hw1 hf1
  generalize w.heap.size + 1 = D at *
  go_wp2_with fail
  refine (tnext_calls K b w1 l false (by omega) h1.t).mono ?_
  rintro e w2 ⟨rfl, hT2, hf2⟩
  have h2 := h1.call hf2 hT2
  clear hT2 hf2 h1 HT
  generalize nextW l false = W at *
  generalize nextL l false = l1 at *
  generalize nextB l false = b1 at *
  go_wp2_with fail
  refine (names_calls w2).mono ?_
  rintro e w3 ⟨rfl, hw3⟩
  have hf3 : Fr [] w2 w3 := by subst hw3; exact (Fr.refl _ _).alloc _
  have hN3 : w3.heap[w2.heap.size]? = some (.cells (nameL.map strV).toArray 9 (0, 0)) := by subst hw3; exact (MapKept.heap_alloc w2 _).1
  have h3 : TkAt w K b w.heap.size D ⟨ACall.zero, l1, b1⟩ w3 := h2.call (hf3.mono (by simp)) (h2.t.fr hf3 (by simp) (by simp))
  have hNB : D < w2.heap.size := lt_of_block h2.d
  clear hw3 hf3 h2
  generalize w2.heap.size = NB at *
  have HN3 := Lib.hid hN3
  have H3 := Lib.hid h3
  clear hN3 h3
  go_wp2_with fail
  go_loopg [6] 14 (fun g i wr => ∃ k : Nat, 1 ≤ k ∧ k + g = 15 ∧ i = .int .i64 k ∧ TkAt w K b w.heap.size D ⟨{ ACall.zero with kind := foundK W k }, l1, b1⟩ wr ∧ wr.heap[NB]? = some (.cells (nameL.map strV).toArray 9 (0, 0)))
  case atStart => exact ⟨1, by omega, by omega, rfl, H3.out, HN3.out⟩
  case round =>
    obtain ⟨k, hk1, hkg, rfl, hA, hN⟩ := hrel
    have HA := Lib.hid hA
    have HN := Lib.hid hN
    clear hA hN
    by_cases hlt : k < 15
    · have hkn : k < nameL.length := hlt
      have e1 : wr.cell? ⟨NB, k, none⟩ = some (strV nameL[k]) := by
        rw [Lib.cell_of_heap HN.out, List.getElem?_toArray, List.getElem?_map, List.getElem?_eq_getElem hkn]; rfl
      have HY : Hid (nameL[k]? = some nameL[k]) := List.getElem?_eq_getElem hkn
      generalize nameL[k] = y at *
      clear hkn
      unfold strV at e1
      have i0 : (0 : Int) ≤ (k : Int) := by omega
      have i1 : (k : Int) < 15 := by omega
      by_cases hyW : y = W
      · have HFK : Hid (foundK W (k + 1) = k) := by show _ = _; rw [foundK, if_pos ⟨hk1, by rw [HY.out, hyW]⟩]
        subst hyW
        have d0 := (cells11 HA.out.d).1
        have z0 := Lib.frozen_of_heap HA.out.d 0
        have hwr : IntKind.u8.wrap (k : Int) = (k : Int) := by rw [IntKind.wrap_u8]; omega
        have HA5 : Hid (TkAt w K b w.heap.size D ⟨{ ACall.zero with kind := k }, l1, b1⟩ (wr.setCell ⟨D, 0, none⟩ (.int .u8 (k : Nat)))) := HA.out.store 0 _ rfl
        have HN5 : Hid ((wr.setCell ⟨D, 0, none⟩ (.int .u8 (k : Nat))).heap[NB]? = some (.cells (nameL.map strV).toArray 9 (0, 0))) := ((Fr.refl [D] wr).setCell (by simp) _).blockAs HN.out (by simp; omega)
        go_wp2_with fail
        go_roundg (gk - 1)
        case measure => omega
        case rel => exact ⟨k + 1, by omega, by omega, by go_num, by rw [HFK.out]; exact HA5.out, HN5.out⟩
      · have HFK : Hid (foundK W (k + 1) = foundK W k) := by show _ = _; rw [foundK, if_neg (fun h => hyW (Option.some.inj (HY.out.symm.trans h.2)))]
        have hq : (y == W) = false := by simpa using hyW
        clear hyW
        go_wp2_with fail
        go_roundg (gk - 1)
        case measure => omega
        case rel => exact ⟨k + 1, by omega, by omega, by go_num, by rw [HFK.out]; exact HA.out, HN.out⟩
    · obtain rfl : k = 15 := by omega
      have hA := HA.out
      rw [found_all] at hA
      have hkd : kindOf W ≤ 15 := by rw [← found_all]; exact found_le W 15
      have HA := Lib.hid hA
      clear hA hkg hlt hk1 HN H3 HN3
      generalize kindOf W = kd at *
      obtain ⟨wo, rfl⟩ : ∃ wo : World, wo = wr := ⟨_, rfl⟩
      go_upto_region 9 with fail
      go_cut [] (fun wx => TkAt w K b w.heap.size D ⟨{ ACall.zero with kind := kd }, l1, b1 || decide (kd = 0)⟩ wx)
      case first =>
        obtain ⟨c1, f1, _⟩ := HA.out.t.bad
        have d0 := (cells11 HA.out.d).1
        have HST : Hid (∀ v : Bool, TkAt w K b w.heap.size D ⟨{ ACall.zero with kind := kd }, l1, v⟩ (wo.setCell ⟨K, 1, none⟩ (.bool v))) := fun v => by
          have h := HA.out.t.setBad v
          exact HA.out.call h.2 h.1
        cases b1
        · by_cases hz : kd = 0
          · subst hz
            go_wp2_with fail
            go_meet
            exact HST.out true
          · have hz' : ((kd : Int) == 0) = false := by rw [beq_eq_false_iff_ne]; omega
            have HZ : Hid (decide (kd = 0) = false) := by show _ = _; simpa using hz
            go_wp2_with fail
            go_meet
            rw [HZ.out]
            exact HST.out false
        · go_wp2_with fail
          go_meet
          exact HST.out true
      generalize (b1 || decide (kd = 0)) = b2 at *
      have HA := Lib.hid hcut
      clear hcut
      obtain ⟨wz, rfl⟩ : ∃ wz : World, wz = wc := ⟨_, rfl⟩
      have d0 := (cells11 HA.out.d).1
      go_wp2_with fail
      refine (has_calls kd (by omega) wz).mono ?_
      rintro e w5 ⟨rfl, hf5⟩
      have HA := Lib.hid (HA.out.call (hf5.mono (by simp)) (HA.out.t.fr hf5 (by simp) (by simp)))
      have hln := hasL_length kd
      have HLET := Lib.hid (has_letter kd)
      clear hf5 d0
      generalize hasL kd = h at *
      have hsz : (bs h).size = h.length := bs_size h
      have HW0 : Hid (∀ x ∈ (RS.mk { ACall.zero with kind := kd } l1 b2).l, x ≠ [] ∧ x.length ≤ 1048576) := HLW1.out
      have hl0 : (RS.mk { ACall.zero with kind := kd } l1 b2).l.length ≤ 1099511627775 := hl1
      generalize RS.mk { ACall.zero with kind := kd } l1 b2 = s0 at *
      go_wp2_with fail
      go_loopg [8] h.length (fun g i wr => ∃ k : Nat, k + g = h.length ∧ i = .int .i64 k ∧ TkAt w K b w.heap.size D (stL (h.take k) s0) wr)
      case atStart => exact ⟨0, by omega, rfl, HA.out⟩
      case round =>
        obtain ⟨k, hkg, rfl, hA⟩ := hrel
        have HA := Lib.hid hA
        clear hA
        by_cases hlt : k < h.length
        · have HX := Lib.hid (run_index_str hlt)
          have HLK := HLET.out h[k] (List.getElem_mem hlt)
          have HS := Lib.hid (stL_succ h s0 hlt)
          have HLS : Hid (∀ x ∈ (stL (h.take k) s0).l, x ≠ [] ∧ x.length ≤ 1048576) := stL_words (P := fun x => x ≠ [] ∧ x.length ≤ 1048576) (h.take k) HW0.out
          have hlen : (stL (h.take k) s0).l.length ≤ 1099511627775 := Nat.le_trans (stL_len _ _) hl0
          generalize h[k] = x at *
          generalize stL (h.take k) s0 = s at *
          obtain ⟨c, ls, bd⟩ := s
          have HLS : Hid (∀ x ∈ ls, x ≠ [] ∧ x.length ≤ 1048576) := HLS.out
          have hlen : ls.length ≤ 1099511627775 := hlen
          have i0 : (0 : Int) ≤ (k : Int) := by omega
          have i1 : (k : Int) < (h.length : Int) := by omega
          rcases HLK with rfl | rfl | rfl | rfl | rfl | rfl | rfl | rfl | rfl
          · have hx : ∀ u : World, (Instr.index 9 (.string (bs h)) (.int .i64 (k : Nat))).run Tryz.prog u = .ok (.int .u8 66) u := HX.out
            have HS1 : Hid (stL (h.take (k + 1)) s0 = ⟨{ c with bucket := textV ls bd }, nextL ls bd, rtxB ls bd⟩) := HS.out
            go_wp2_with fail
            refine (ttext_calls K b wr ls bd (by omega) (fun x hx => (HLS.out x hx).2) HA.out.t (by have := HA.out.br; have := lt_of_block HA.out.r; omega)).mono ?_
            rintro e w6 ⟨rfl, hT6, hf6⟩
            have h6 := HA.out.call hf6 hT6
            have q6 := (cells11 h6.d).2.1
            have z6 := Lib.frozen_of_heap h6.d 1
            have H6 : Hid (TkAt w K b w.heap.size D ⟨{ c with bucket := textV ls bd }, nextL ls bd, rtxB ls bd⟩ (w6.setCell ⟨D, 1, none⟩ (.string (bs (textV ls bd))))) := h6.store 1 _ rfl
            clear h6 hT6 hf6
            go_wp2_with fail
            go_roundg (gk - 1)
            case measure => omega
            case rel => exact ⟨k + 1, by omega, by go_num, by rw [HS1.out]; exact H6.out⟩
          · have hx : ∀ u : World, (Instr.index 9 (.string (bs h)) (.int .i64 (k : Nat))).run Tryz.prog u = .ok (.int .u8 78) u := HX.out
            have HS1 : Hid (stL (h.take (k + 1)) s0 = ⟨{ c with name := textV ls bd }, nextL ls bd, rtxB ls bd⟩) := HS.out
            go_wp2_with fail
            refine (ttext_calls K b wr ls bd (by omega) (fun x hx => (HLS.out x hx).2) HA.out.t (by have := HA.out.br; have := lt_of_block HA.out.r; omega)).mono ?_
            rintro e w6 ⟨rfl, hT6, hf6⟩
            have h6 := HA.out.call hf6 hT6
            have q6 := (cells11 h6.d).2.2.1
            have z6 := Lib.frozen_of_heap h6.d 2
            have H6 : Hid (TkAt w K b w.heap.size D ⟨{ c with name := textV ls bd }, nextL ls bd, rtxB ls bd⟩ (w6.setCell ⟨D, 2, none⟩ (.string (bs (textV ls bd))))) := h6.store 2 _ rfl
            clear h6 hT6 hf6
            go_wp2_with fail
            go_roundg (gk - 1)
            case measure => omega
            case rel => exact ⟨k + 1, by omega, by go_num, by rw [HS1.out]; exact H6.out⟩
          · have hx : ∀ u : World, (Instr.index 9 (.string (bs h)) (.int .i64 (k : Nat))).run Tryz.prog u = .ok (.int .u8 86) u := HX.out
            have HS1 : Hid (stL (h.take (k + 1)) s0 = ⟨{ c with num := unV m64 ls bd }, nextL ls bd, unB m64 ls bd⟩) := HS.out
            go_wp2_with fail
            refine (tunum_calls K b m64 wr ls bd (by unfold m64; omega) (by unfold m64; omega) (by omega) HLS.out HA.out.t).mono ?_
            rintro e w6 ⟨rfl, hT6, hf6⟩
            have h6 := HA.out.call hf6 hT6
            have q6 := (cells11 h6.d).2.2.2.1
            have z6 := Lib.frozen_of_heap h6.d 3
            have H6 : Hid (TkAt w K b w.heap.size D ⟨{ c with num := unV m64 ls bd }, nextL ls bd, unB m64 ls bd⟩ (w6.setCell ⟨D, 3, none⟩ (.int .u64 (unV m64 ls bd : Nat)))) := h6.store 3 _ rfl
            clear h6 hT6 hf6
            go_wp2_with fail
            go_roundg (gk - 1)
            case measure => omega
            case rel => exact ⟨k + 1, by omega, by go_num, by rw [HS1.out]; exact H6.out⟩
          · have hx : ∀ u : World, (Instr.index 9 (.string (bs h)) (.int .i64 (k : Nat))).run Tryz.prog u = .ok (.int .u8 67) u := HX.out
            have HS1 : Hid (stL (h.take (k + 1)) s0 = ⟨{ c with ck := (tcR ls bd).1.1, cn := (tcR ls bd).1.2 }, (tcR ls bd).2.1, (tcR ls bd).2.2⟩) := HS.out
            go_wp2_with fail
            refine (tcond_calls K b wr ls bd (by omega) HLS.out HA.out.t (by have := HA.out.br; have := lt_of_block HA.out.r; omega)).mono ?_
            rintro e w6 ⟨rfl, hT6, hf6⟩
            have h6 := HA.out.call hf6 hT6
            generalize (tcR ls bd).1.1 = ck at *
            generalize (tcR ls bd).1.2 = cn at *
            have q6 := (cells11 h6.d).2.2.2.2.2.2.1
            have q7 := (cells11 h6.d).2.2.2.2.2.2.2.1
            have z6 := Lib.frozen_of_heap h6.d 6
            have z7 := Lib.frozen_of_heap h6.d 7
            have H6 : Hid (TkAt w K b w.heap.size D ⟨{ c with ck := ck, cn := cn }, (tcR ls bd).2.1, (tcR ls bd).2.2⟩ ((w6.setCell ⟨D, 6, none⟩ (.int .u8 (ck : Nat))).setCell ⟨D, 7, none⟩ (.int .u64 (cn : Nat)))) := (h6.store (c' := { c with ck := ck }) 6 _ rfl).store 7 _ rfl
            clear h6 hT6 hf6
            unfold condC
            go_wp2_with fail
            go_roundg (gk - 1)
            case measure => omega
            case rel => exact ⟨k + 1, by omega, by go_num, by rw [HS1.out]; exact H6.out⟩
          · have hx : ∀ u : World, (Instr.index 9 (.string (bs h)) (.int .i64 (k : Nat))).run Tryz.prog u = .ok (.int .u8 84) u := HX.out
            have HS1 : Hid (stL (h.take (k + 1)) s0 = ⟨{ c with text := textV ls bd }, nextL ls bd, rtxB ls bd⟩) := HS.out
            go_wp2_with fail
            refine (ttext_calls K b wr ls bd (by omega) (fun x hx => (HLS.out x hx).2) HA.out.t (by have := HA.out.br; have := lt_of_block HA.out.r; omega)).mono ?_
            rintro e w6 ⟨rfl, hT6, hf6⟩
            have h6 := HA.out.call hf6 hT6
            have q6 := (cells11 h6.d).2.2.2.2.2.1
            have z6 := Lib.frozen_of_heap h6.d 5
            have H6 : Hid (TkAt w K b w.heap.size D ⟨{ c with text := textV ls bd }, nextL ls bd, rtxB ls bd⟩ (w6.setCell ⟨D, 5, none⟩ (.string (bs (textV ls bd))))) := h6.store 5 _ rfl
            clear h6 hT6 hf6
            go_wp2_with fail
            go_roundg (gk - 1)
            case measure => omega
            case rel => exact ⟨k + 1, by omega, by go_num, by rw [HS1.out]; exact H6.out⟩
          · have hx : ∀ u : World, (Instr.index 9 (.string (bs h)) (.int .i64 (k : Nat))).run Tryz.prog u = .ok (.int .u8 77) u := HX.out
            have HS1 : Hid (stL (h.take (k + 1)) s0 = ⟨{ c with most := tiV ls bd }, tiL ls bd, tiB ls bd⟩) := HS.out
            go_wp2_with fail
            refine (tnum_calls K b wr ls bd (by omega) HLS.out HA.out.t).mono ?_
            rintro e w6 ⟨rfl, hT6, hf6⟩
            have h6 := HA.out.call hf6 hT6
            have q6 := (cells11 h6.d).2.2.2.2.2.2.2.2.2.2
            have z6 := Lib.frozen_of_heap h6.d 10
            have H6 : Hid (TkAt w K b w.heap.size D ⟨{ c with most := tiV ls bd }, tiL ls bd, tiB ls bd⟩ (w6.setCell ⟨D, 10, none⟩ (.int .i64 (tiV ls bd)))) := h6.store 10 _ rfl
            clear h6 hT6 hf6
            go_wp2_with fail
            go_roundg (gk - 1)
            case measure => omega
            case rel => exact ⟨k + 1, by omega, by go_num, by rw [HS1.out]; exact H6.out⟩
          · have hx : ∀ u : World, (Instr.index 9 (.string (bs h)) (.int .i64 (k : Nat))).run Tryz.prog u = .ok (.int .u8 70) u := HX.out
            have HS1 : Hid (stL (h.take (k + 1)) s0 = ⟨{ c with pre := textV ls bd }, nextL ls bd, rtxB ls bd⟩) := HS.out
            go_wp2_with fail
            refine (ttext_calls K b wr ls bd (by omega) (fun x hx => (HLS.out x hx).2) HA.out.t (by have := HA.out.br; have := lt_of_block HA.out.r; omega)).mono ?_
            rintro e w6 ⟨rfl, hT6, hf6⟩
            have h6 := HA.out.call hf6 hT6
            have q6 := (cells11 h6.d).2.2.2.2.2.2.2.2.1
            have z6 := Lib.frozen_of_heap h6.d 8
            have H6 : Hid (TkAt w K b w.heap.size D ⟨{ c with pre := textV ls bd }, nextL ls bd, rtxB ls bd⟩ (w6.setCell ⟨D, 8, none⟩ (.string (bs (textV ls bd))))) := h6.store 8 _ rfl
            clear h6 hT6 hf6
            go_wp2_with fail
            go_roundg (gk - 1)
            case measure => omega
            case rel => exact ⟨k + 1, by omega, by go_num, by rw [HS1.out]; exact H6.out⟩
          · have hx : ∀ u : World, (Instr.index 9 (.string (bs h)) (.int .i64 (k : Nat))).run Tryz.prog u = .ok (.int .u8 65) u := HX.out
            have HS1 : Hid (stL (h.take (k + 1)) s0 = ⟨{ c with aft := textV ls bd }, nextL ls bd, rtxB ls bd⟩) := HS.out
            go_wp2_with fail
            refine (ttext_calls K b wr ls bd (by omega) (fun x hx => (HLS.out x hx).2) HA.out.t (by have := HA.out.br; have := lt_of_block HA.out.r; omega)).mono ?_
            rintro e w6 ⟨rfl, hT6, hf6⟩
            have h6 := HA.out.call hf6 hT6
            have q6 := (cells11 h6.d).2.2.2.2.2.2.2.2.2.1
            have z6 := Lib.frozen_of_heap h6.d 9
            have H6 : Hid (TkAt w K b w.heap.size D ⟨{ c with aft := textV ls bd }, nextL ls bd, rtxB ls bd⟩ (w6.setCell ⟨D, 9, none⟩ (.string (bs (textV ls bd))))) := h6.store 9 _ rfl
            clear h6 hT6 hf6
            go_wp2_with fail
            go_roundg (gk - 1)
            case measure => omega
            case rel => exact ⟨k + 1, by omega, by go_num, by rw [HS1.out]; exact H6.out⟩
          · have hx : ∀ u : World, (Instr.index 9 (.string (bs h)) (.int .i64 (k : Nat))).run Tryz.prog u = .ok (.int .u8 80) u := HX.out
            have HS1 : Hid (stL (h.take (k + 1)) s0 = ⟨{ c with part := tiV ls bd }, tiL ls bd, tiB ls bd⟩) := HS.out
            go_wp2_with fail
            refine (tnum_calls K b wr ls bd (by omega) HLS.out HA.out.t).mono ?_
            rintro e w6 ⟨rfl, hT6, hf6⟩
            have h6 := HA.out.call hf6 hT6
            have q6 := (cells11 h6.d).2.2.2.2.1
            have z6 := Lib.frozen_of_heap h6.d 4
            have H6 : Hid (TkAt w K b w.heap.size D ⟨{ c with part := tiV ls bd }, tiL ls bd, tiB ls bd⟩ (w6.setCell ⟨D, 4, none⟩ (.int .i64 (tiV ls bd)))) := h6.store 4 _ rfl
            clear h6 hT6 hf6
            go_wp2_with fail
            go_roundg (gk - 1)
            case measure => omega
            case rel => exact ⟨k + 1, by omega, by go_num, by rw [HS1.out]; exact H6.out⟩
        · have HE : Hid (stL (h.take k) s0 = takeS l) := by
            show _ = _
            rw [List.take_of_length_le (by omega)]
            exact HTL.out
          have hA := HA.out
          rw [HE.out] at hA
          have HA := Lib.hid hA
          have hge : ¬ (k : Int) < (h.length : Int) := by omega
          clear hA hlt HE
          generalize hse : takeS l = s at *
          have HSE := Lib.hid hse
          clear hse
          have HFR : Hid (Fr [w.heap.size] wr (wr.setRow w.heap.size (callCells s.c))) := (Fr.refl [w.heap.size] wr).setRow (by simp) _
          go_wp2_with (first
            | (refine wpList_load_row (by rfl) 31 (.tmp 3) (by rfl) D (by rfl) 31 _ _ _ HA.out.d Tryz.underlying31 rfl infoCall ?_)
            | (refine wpList_store_row (by rfl) 31 (.tmp 2) (.tmp 96) (by rfl) w.heap.size (callCells s.c) (by rfl) (by rfl) 31 _ HA.out.r infoCall rfl (callCells_one _) ?_))
          refine bodyPost_ret (v := .agg (callCells s.c)) (results_one rfl _ _ w.heap.size 31 (callCells s.c) (0, 0) _ (by rfl) (setRow_heap _ _ _ _ _ _ HA.out.r) Tryz.underlying31 rfl infoCall) rfl ?_
          rw [HSE.out]
          exact ⟨rfl, HA.out.t.fr HFR.out (by have := HA.out.kr; simp; omega) (by have := HA.out.br; simp; omega), HA.out.f.setRow (fun h => absurd h (by simp)) _⟩
end Go.Proofs.YtcaeppncippknaaGreatDoor
