/- hoardref31.item: the item that a line is. Conditions: the line's length is below 2^20. -/
import Derived.Test.YtcaeppncippknaaGreatDoorZRItemP
import Derived.Test.YtcaeppncippknaaGreatDoorZAnswer
import Derived.Deep.RegionHeld3
import Derived.BigRegion
namespace Go.Proofs.YtcaeppncippknaaGreatDoor
open Go Go.RowKit

theorem itemCells_one (x : AItem) : (itemCells x).all (·.oneCell') = true := by simp [itemCells, strV, Value.oneCell']
theorem infoItemS : (Tryz.prog.info? 104).map (·.size) = some 4 := by kernel_rfl
theorem own_strs2 {w : World} {B : Nat} {v : Value} {l : List (List UInt8)} (h : Own B w v l) (h0 : 0 < w.heap.size) : ∃ b, StrsIn w b v l ∧ b < w.heap.size ∧ (b = 0 ∨ B ≤ b) := by
  obtain ⟨h1, ⟨hv, hz⟩ | ⟨g, cap, cur, hv, hB, hb, hc, _, _, ht⟩⟩ := h
  · obtain rfl := List.length_eq_zero_iff.1 hz
    exact ⟨0, .inl ⟨rfl, none, 0, hv⟩, h0, .inl rfl⟩
  · refine ⟨g, .inr ⟨0, cap, hv, hc, fun i hi => ?_⟩, lt_of_block hb, .inr hB⟩
    rw [Nat.zero_add, Lib.cell_of_heap hb, ← Array.getElem?_toList]
    have e : (cur.toList.take (l.length * 1))[i]? = cur.toList[i]? := List.getElem?_take_of_lt (by omega)
    rw [← e, ht]
    simp [hi]
theorem own_strs {w : World} {B : Nat} {v : Value} {l : List (List UInt8)} (h : Own B w v l) (h0 : 0 < w.heap.size) : ∃ b, StrsIn w b v l ∧ b < w.heap.size := by
  obtain ⟨b, h1, h2, _⟩ := own_strs2 h h0
  exact ⟨b, h1, h2⟩

def itemZ : Array Value := #[.string ⟨#[]⟩, .int .u64 0, .int .i64 0, .bool false]
/-- Where item stands: the taker in T, the item so far in X, the result in R. -/
structure ItAt (w0 : World) (R T b X : Nat) (cs : Array Value) (l : List (List UInt8)) (bad : Bool) (u : World) : Prop where
  tk : RTk T b u l bad
  x : u.heap[X]? = some (.cells cs 104 (0, 0))
  r : u.heap[R]? = some (.cells itemZ 104 (0, 0))
  f : Fr [] w0 u
  rt : R < T
  tx : T < X
  bt : b < T
  rw : w0.heap.size ≤ R
theorem ItAt.call {w0 u v : World} {R T b X : Nat} {cs : Array Value} {l l' : List (List UInt8)} {bad bad' : Bool} (h : ItAt w0 R T b X cs l bad u) (hf : Fr [T] u v) (ht : RTk T b v l' bad') : ItAt w0 R T b X cs l' bad' v := by
  have h1 := h.rt
  have h2 := h.tx
  have h3 := h.rw
  refine ⟨ht, hf.blockAs h.x (by simp; omega), hf.blockAs h.r (by simp; omega), h.f.trans hf ?_, h1, h2, h.bt, h3⟩
  intro i hi hlt
  have := List.mem_singleton.1 hi
  omega
theorem ItAt.store {w0 u : World} {R T b X : Nat} {cs : Array Value} {l : List (List UInt8)} {bad : Bool} (h : ItAt w0 R T b X cs l bad u) (i : Nat) (z : Value) : ItAt w0 R T b X (cs.setIfInBounds i z) l bad (u.setCell ⟨X, i, none⟩ z) := by
  have h1 := h.rt
  have h2 := h.tx
  have h3 := h.rw
  have h4 := h.bt
  have hf : Fr [X] u (u.setCell ⟨X, i, none⟩ z) := (Fr.refl _ _).setCell (by simp) _
  refine ⟨h.tk.fr hf (by simp; omega) (by simp; omega), setCell_block h.x _, hf.blockAs h.r (by simp; omega), h.f.trans hf ?_, h1, h2, h4, h3⟩
  intro j hj hlt
  have := List.mem_singleton.1 hj
  omega

def itR4 (t : List UInt8) (n : Nat) (i : Int) (l4 : List (List UInt8)) (b4 : Bool) : AItem × Bool :=
  (⟨t, n, i, nextW l4 b4 == w_gone⟩, !nextB l4 b4 && (nextL l4 b4).isEmpty && (nextW l4 b4 == w_gone || nextW l4 b4 == w_live))
set_option maxHeartbeats 8000000 in
set_option maxRecDepth 100000 in
theorem ritem_calls (line : List UInt8) (hl : line.length ≤ 1048576) (w : World) :
    Calls Tryz.prog 56 #[.string (bs line)] w fun e w' => e = .returned (.tuple #[.agg (itemCells (itP line).1), .bool (itP line).2]) ∧ Fr [] w w' := by
  have hwl : (wordsP line).length ≤ 1048577 := by have := wordsP_length line; omega
  have hws : ∀ x ∈ wordsP line, x ≠ [] ∧ x.length ≤ 1048576 := fun x hx => by have := words_ok line x hx; exact ⟨this.1, by omega⟩
  have HNO : Hid (nextW (wordsP line) false ≠ w_item → itP line = (⟨[], 0, 0, false⟩, false)) := fun h => by unfold itP; rw [if_neg h]
  have HYES : Hid (nextW (wordsP line) false = w_item → itP line = itR (nextL (wordsP line) false) (nextB (wordsP line) false)) := fun h => by unfold itP; rw [if_pos h]
  go_enter Tryz.func56, Tryz.ntmps56
  go_wp2_with fail
  generalize hw1 : w.alloc (.cells #[.string ⟨#[]⟩, .int .u64 0, .int .i64 0, .bool false] 104) = w1
  have hR1 : w1.heap[w.heap.size]? = some (.cells #[.string ⟨#[]⟩, .int .u64 0, .int .i64 0, .bool false] 104 (0, 0)) := by subst hw1; exact (MapKept.heap_alloc w _).1
  have hf1 : Fr [] w w1 := by subst hw1; exact (Fr.refl _ _).alloc _
  have hs1 : w1.heap.size = w.heap.size + 1 := by subst hw1; simp
  clear hw1
  refine (rwords_calls line hl w1).mono ?_
  rintro e w2 ⟨v, rfl, hown, hf2⟩
  obtain ⟨b, hin, hbl⟩ := own_strs hown (by have := hf2.size; omega)
  have hR2 := hf2.blockAs hR1 (by simp)
  have hF2 := hf1.trans hf2 (by simp)
  have hs2 := hf2.size
  clear hR1 hf1 hown hf2
  have hin0 := hin
  obtain ⟨lp, lc, lo, rfl, _⟩ := hin0.form
  clear hin0
  go_upto_region 2 with fail
  generalize hw3 : w2.alloc (.cells #[.slice lp (wordsP line).length lc, .bool false] 99) = w3
  have hf3 : Fr [] w2 w3 := by subst hw3; exact (Fr.refl _ _).alloc _
  have hs3 : w3.heap.size = w2.heap.size + 1 := by subst hw3; simp
  have hT3 : RTk w2.heap.size b w3 (wordsP line) false := ⟨_, by subst hw3; exact (MapKept.heap_alloc w2 _).1, hin.fr hf3 (by simp), by omega⟩
  have hR3 := hf3.blockAs hR2 (by simp)
  have hF3 := hF2.trans hf3 (by simp)
  clear hw3 hin hR2 hF2 hf3
  have hKlt : w.heap.size < w2.heap.size := by omega
  generalize w2.heap.size = T at *
  go_wp2_with fail
  refine (tnext_calls T b w3 (wordsP line) false (by omega) hT3).mono ?_
  rintro e w4 ⟨rfl, hT4, hf4⟩
  have hR4 := hf4.blockAs hR3 (by simp; omega)
  have hF4 : Fr [] w w4 := hF3.trans hf4 (by intro i hi h; have := List.mem_singleton.1 hi; omega)
  have hs4 := hf4.size
  clear hT3 hR3 hF3 hf4
  by_cases hit : nextW (wordsP line) false = w_item
  · have HR := Lib.hid (HYES.out hit)
    clear HNO HYES
    have hws1 : ∀ x ∈ nextL (wordsP line) false, x ≠ [] ∧ x.length ≤ 1048576 := fun x hx => hws x (nextL_sub.1 x hx)
    have hwl1 : (nextL (wordsP line) false).length ≤ 1048577 := by have := nextL_sub (l := wordsP line) (bad := false); omega
    rw [hit]
    clear hit hws hwl
    generalize nextL (wordsP line) false = l1 at *
    generalize nextB (wordsP line) false = b1 at *
    go_wp2_with fail
    generalize hw5 : w4.alloc (.cells #[.string ⟨#[]⟩, .int .u64 0, .int .i64 0, .bool false] 104) = w5
    have hf5 : Fr [] w4 w5 := by subst hw5; exact (Fr.refl _ _).alloc _
    have h5 : ItAt w w.heap.size T b w4.heap.size itemZ l1 b1 w5 := ⟨hT4.fr hf5 (by simp) (by simp), by subst hw5; exact (MapKept.heap_alloc w4 _).1, hf5.blockAs hR4 (by simp), hF4.trans hf5 (by simp), by omega, by omega, by omega, Nat.le_refl _⟩
    have hTX : T < w4.heap.size := by omega
    clear hw5 hf5 hT4 hR4 hF4 hs4 hs3 hs2 hs1
    generalize w4.heap.size = X at *
    have HR1 : Hid (itR l1 b1 = itR4 (textV l1 b1) (unV m64 (nextL l1 b1) (rtxB l1 b1)) (tiV (nextL (nextL l1 b1) (rtxB l1 b1)) (unB m64 (nextL l1 b1) (rtxB l1 b1))) (tiL (nextL (nextL l1 b1) (rtxB l1 b1)) (unB m64 (nextL l1 b1) (rtxB l1 b1))) (tiB (nextL (nextL l1 b1) (rtxB l1 b1)) (unB m64 (nextL l1 b1) (rtxB l1 b1)))) := rfl
    refine (ttext_calls T b w5 l1 b1 (by omega) (fun x hx => (hws1 x hx).2) h5.tk (by have := lt_of_block h5.x; omega)).mono ?_
    rintro e w6 ⟨rfl, hT6, hf6⟩
    have h6 := h5.call hf6 hT6
    have h6s := h6.store 0 (.string (bs (textV l1 b1)))
    have q6 := Lib.frozen_of_heap h6.x 0
    have p6 : w6.cell? ⟨X, 0, none⟩ = some (.string ⟨#[]⟩) := by rw [Lib.cell_of_heap h6.x]; rfl
    have H6S := Lib.hid h6s
    have hws2 : ∀ x ∈ nextL l1 b1, x ≠ [] ∧ x.length ≤ 1048576 := fun x hx => hws1 x (nextL_sub.1 x hx)
    have hwl2 : (nextL l1 b1).length ≤ 1048577 := by have := nextL_sub (l := l1) (bad := b1); omega
    clear hT6 hf6 h6s h5
    generalize nextL l1 b1 = l2 at *
    generalize rtxB l1 b1 = b2 at *
    go_wp2_with fail
    refine (tunum_calls T b m64 _ l2 b2 (by unfold m64; omega) (by unfold m64; omega) (by omega) hws2 H6S.out.tk).mono ?_
    rintro e w7 ⟨rfl, hT7, hf7⟩
    have h7 := H6S.out.call hf7 hT7
    have H7S := Lib.hid (h7.store 1 (.int .u64 (unV m64 l2 b2 : Nat)))
    have q7 := Lib.frozen_of_heap h7.x 1
    have p7 : w7.cell? ⟨X, 1, none⟩ = some (.int .u64 0) := by rw [Lib.cell_of_heap h7.x]; rfl
    have hws3 : ∀ x ∈ nextL l2 b2, x ≠ [] ∧ x.length ≤ 1048576 := fun x hx => hws2 x (nextL_sub.1 x hx)
    have hwl3 : (nextL l2 b2).length ≤ 1048577 := by have := nextL_sub (l := l2) (bad := b2); omega
    clear hT7 hf7 h7 h6 H6S q6 p6 hws1 hwl1
    generalize nextL l2 b2 = l3 at *
    generalize unB m64 l2 b2 = b3 at *
    go_wp2_with fail
    refine (tnum_calls T b _ l3 b3 (by omega) hws3 H7S.out.tk).mono ?_
    rintro e w8 ⟨rfl, hT8, hf8⟩
    have h8 := H7S.out.call hf8 hT8
    have H8S := Lib.hid (h8.store 2 (.int .i64 (tiV l3 b3)))
    have q8 := Lib.frozen_of_heap h8.x 2
    have p8 : w8.cell? ⟨X, 2, none⟩ = some (.int .i64 0) := by rw [Lib.cell_of_heap h8.x]; rfl
    have hwl4 : (tiL l3 b3).length ≤ 1048577 := by have := tiL_sub (l := l3) (bad := b3); omega
    clear hT8 hf8 h8 H7S q7 p7 hws2 hwl2
    generalize tiL l3 b3 = l4 at *
    generalize tiB l3 b3 = b4 at *
    go_wp2_with fail
    refine (tnext_calls T b _ l4 b4 (by omega) H8S.out.tk).mono ?_
    rintro e w9 ⟨rfl, hT9, hf9⟩
    have h9 := H8S.out.call hf9 hT9
    have H9S := Lib.hid (h9.store 3 (.bool (nextW l4 b4 == w_gone)))
    have q9 := Lib.frozen_of_heap h9.x 3
    have p9 : w9.cell? ⟨X, 3, none⟩ = some (.bool false) := by rw [Lib.cell_of_heap h9.x]; rfl
    have HR4 : Hid (itP line = (⟨textV l1 b1, unV m64 l2 b2, tiV l3 b3, nextW l4 b4 == w_gone⟩, !nextB l4 b4 && (nextL l4 b4).isEmpty && (nextW l4 b4 == w_gone || nextW l4 b4 == w_live))) := by show _ = _; rw [HR.out, HR1.out]; rfl
    clear hT9 hf9 h9 H8S q8 p8 hws3 hwl3 HR HR1
    generalize nextL l4 b4 = l5 at *
    generalize nextB l4 b4 = b5 at *
    generalize nextW l4 b4 = W at *
    go_upto_region 10 with fail
    have hwg : (W == [103, 111, 110, 101]) = (W == w_gone) := rfl
    have hwv : (W == [108, 105, 118, 101]) = (W == w_live) := rfl
    rw [hwg]
    generalize hg : (W == w_gone) = g at *
    generalize hv : (W == w_live) = lv at *
    have H10 := H9S.out
    generalize w9.setCell ⟨X, 3, none⟩ (.bool g) = w10 at H10 ⊢
    have hcs : (((itemZ.setIfInBounds 0 (.string (bs (textV l1 b1)))).setIfInBounds 1 (.int .u64 (unV m64 l2 b2 : Nat))).setIfInBounds 2 (.int .i64 (tiV l3 b3))).setIfInBounds 3 (.bool g) = #[.string (bs (textV l1 b1)), .int .u64 (unV m64 l2 b2 : Nat), .int .i64 (tiV l3 b3), .bool g] := rfl
    rw [hcs] at H10
    clear hcs H9S q9 p9
    generalize textV l1 b1 = t at *
    generalize unV m64 l2 b2 = n at *
    generalize tiV l3 b3 = z at *
    have x0 : w10.cell? ⟨X, 0, none⟩ = some (.string (bs t)) := by rw [Lib.cell_of_heap H10.x]; rfl
    have x1 : w10.cell? ⟨X, 1, none⟩ = some (.int .u64 (n : Nat)) := by rw [Lib.cell_of_heap H10.x]; rfl
    have x2 : w10.cell? ⟨X, 2, none⟩ = some (.int .i64 z) := by rw [Lib.cell_of_heap H10.x]; rfl
    have x3 : w10.cell? ⟨X, 3, none⟩ = some (.bool g) := by rw [Lib.cell_of_heap H10.x]; rfl
    obtain ⟨v5, hb5, hin5, _⟩ := H10.tk
    obtain ⟨rp, rc, ro, rfl, _⟩ := hin5.form
    have t0 : w10.cell? ⟨T, 0, none⟩ = some (.slice rp l5.length rc) := by rw [Lib.cell_of_heap hb5]; rfl
    have t1 : w10.cell? ⟨T, 1, none⟩ = some (.bool b5) := by rw [Lib.cell_of_heap hb5]; rfl
    have hR10 := H10.r
    have r0 : w10.cell? ⟨w.heap.size, 0, none⟩ = some (.string ⟨#[]⟩) := by rw [Lib.cell_of_heap hR10]; rfl
    have r1 : w10.cell? ⟨w.heap.size, 1, none⟩ = some (.int .u64 0) := by rw [Lib.cell_of_heap hR10]; rfl
    have r2 : w10.cell? ⟨w.heap.size, 2, none⟩ = some (.int .i64 0) := by rw [Lib.cell_of_heap hR10]; rfl
    have r3 : w10.cell? ⟨w.heap.size, 3, none⟩ = some (.bool false) := by rw [Lib.cell_of_heap hR10]; rfl
    have z0 := Lib.frozen_of_heap hR10 0
    have z1 := Lib.frozen_of_heap hR10 1
    have z2 := Lib.frozen_of_heap hR10 2
    have z3 := Lib.frozen_of_heap hR10 3
    have HF10 := Lib.hid H10.f
    have HR10 := Lib.hid hR10
    clear H10 hin5 hb5 hR10 hwg
    have HFIN : Hid (((((w10.setCell ⟨w.heap.size, 0, none⟩ (.string (bs t))).setCell ⟨w.heap.size, 1, none⟩ (.int .u64 (n : Nat))).setCell ⟨w.heap.size, 2, none⟩ (.int .i64 z)).setCell ⟨w.heap.size, 3, none⟩ (.bool g)).drew.heap[w.heap.size]? = some (.cells (itemCells ⟨t, n, z, g⟩) 104 (0, 0))) := by
      show (World.heap (((((w10.setCell ⟨w.heap.size, 0, none⟩ (.string (bs t))).setCell ⟨w.heap.size, 1, none⟩ (.int .u64 (n : Nat))).setCell ⟨w.heap.size, 2, none⟩ (.int .i64 z)).setCell ⟨w.heap.size, 3, none⟩ (.bool g))))[w.heap.size]? = _
      rw [setCell_block (setCell_block (setCell_block (setCell_block HR10.out _) _) _) _]
      rfl
    have HFRM : Hid (Fr [] w ((((w10.setCell ⟨w.heap.size, 0, none⟩ (.string (bs t))).setCell ⟨w.heap.size, 1, none⟩ (.int .u64 (n : Nat))).setCell ⟨w.heap.size, 2, none⟩ (.int .i64 z)).setCell ⟨w.heap.size, 3, none⟩ (.bool g)).drew) :=
      (((((HF10.out.setCell (fun h => absurd h (Nat.lt_irrefl _)) _).setCell (fun h => absurd h (Nat.lt_irrefl _)) _).setCell (fun h => absurd h (Nat.lt_irrefl _)) _).setCell (fun h => absurd h (Nat.lt_irrefl _)) _).drew)
    clear hg hv
    have hcs : ∃ q : Bool, Hid (itP line = (⟨t, n, z, g⟩, q)) ∧ ((b5 = true ∧ q = false) ∨ (b5 = false ∧ (∃ c r, l5 = c :: r) ∧ q = false) ∨ (b5 = false ∧ l5 = [] ∧ g = true ∧ q = true) ∨ (b5 = false ∧ l5 = [] ∧ g = false ∧ lv = q)) := by
      refine ⟨_, HR4.out, ?_⟩
      cases b5
      · cases l5
        · cases g
          · cases lv <;> simp
          · simp
        · simp
      · simp
    obtain ⟨q, HQ, hcs⟩ := hcs
    rcases hcs with ⟨rfl, rfl⟩ | ⟨rfl, ⟨c, r, rfl⟩, rfl⟩ | ⟨rfl, rfl, rfl, rfl⟩ | ⟨rfl, rfl, rfl, rfl⟩
    · go_region
      go_wp2_with fail
      refine bodyPost_ret (v := .tuple #[.agg (itemCells ⟨t, n, z, g⟩), .bool false]) (results_two rfl _ _ w.heap.size 104 (itemCells ⟨t, n, z, g⟩) (0, 0) _ (by rfl) HFIN.out Tryz.underlying104 rfl infoItemS _ (by rfl)) rfl ?_
      exact ⟨by rw [HQ.out], HFRM.out⟩
    · have hq0 : ((r.length : Int) + 1 == 0) = false := by rw [beq_eq_false_iff_ne]; omega
      go_region
      go_wp2_with fail
      refine bodyPost_ret (v := .tuple #[.agg (itemCells ⟨t, n, z, g⟩), .bool false]) (results_two rfl _ _ w.heap.size 104 (itemCells ⟨t, n, z, g⟩) (0, 0) _ (by rfl) HFIN.out Tryz.underlying104 rfl infoItemS _ (by rfl)) rfl ?_
      exact ⟨by rw [HQ.out], HFRM.out⟩
    · go_region
      go_wp2_with fail
      refine bodyPost_ret (v := .tuple #[.agg (itemCells ⟨t, n, z, true⟩), .bool true]) (results_two rfl _ _ w.heap.size 104 (itemCells ⟨t, n, z, true⟩) (0, 0) _ (by rfl) HFIN.out Tryz.underlying104 rfl infoItemS _ (by rfl)) rfl ?_
      exact ⟨by rw [HQ.out], HFRM.out⟩
    · go_region
      go_wp2_with fail
      refine bodyPost_ret (v := .tuple #[.agg (itemCells ⟨t, n, z, false⟩), .bool lv]) (results_two rfl _ _ w.heap.size 104 (itemCells ⟨t, n, z, false⟩) (0, 0) _ (by rfl) HFIN.out Tryz.underlying104 rfl infoItemS _ (by rfl)) rfl ?_
      exact ⟨by rw [HQ.out], HFRM.out⟩
  · have HR := Lib.hid (HNO.out hit)
    clear HNO HYES
    generalize nextW (wordsP line) false = W at *
    have hq : (W == [105, 116, 101, 109]) = false := by simpa [w_item] using hit
    go_wp2_with (refine wpList_store_row (by rfl) 104 (.tmp 2) (.tmp 14) (by rfl) w.heap.size (itemCells ⟨[], 0, 0, false⟩) (by rfl) (by rfl) 104 _ hR4 infoItemS rfl (itemCells_one _) ?_)
    refine bodyPost_ret (v := .tuple #[.agg (itemCells ⟨[], 0, 0, false⟩), .bool false]) (results_two rfl _ _ w.heap.size 104 (itemCells ⟨[], 0, 0, false⟩) (0, 0) _ (by rfl) (setRow_heap _ _ _ _ _ _ hR4) Tryz.underlying104 rfl infoItemS _ (by rfl)) rfl ?_
    refine ⟨by rw [HR.out], hF4.setRow (fun h => absurd h (by simp)) _⟩
end Go.Proofs.YtcaeppncippknaaGreatDoor
