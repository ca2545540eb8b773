/- house's coder: how it lies in memory while it reads and while it writes; (*coder).next. Conditions: none. -/
import Derived.Test.YtcaeppncippknaaGreatDoorProg
import Derived.Test.YtcaeppncippknaaGreatDoorZBaseA
import Derived.Test.YtcaeppncippknaaGreatDoorZBuilder
namespace Go.Proofs.YtcaeppncippknaaGreatDoor
open Go Go.RowKit

def strV (l : List UInt8) : Value := .string (bs l)
/-- The slice v holds the texts l, in block b. -/
def StrsIn (w : World) (b : Nat) (v : Value) (l : List (List UInt8)) : Prop :=
  (l = [] ∧ ∃ p c, v = .slice p 0 c) ∨ ∃ off cap, v = .slice (some ⟨b, off, none⟩) l.length cap ∧ l.length ≤ cap ∧ ∀ i (h : i < l.length), w.cell? ⟨b, off + i, none⟩ = some (strV l[i])
theorem StrsIn.fr {M : List Nat} {w w' : World} {b : Nat} {v : Value} {l : List (List UInt8)} (h : StrsIn w b v l) (hf : Fr M w w') (hn : b ∉ M) : StrsIn w' b v l := by
  rcases h with h | ⟨off, cap, hv, hc, hcell⟩
  · exact .inl h
  · exact .inr ⟨off, cap, hv, hc, fun i hi => hf.cellAs (hcell i hi) hn⟩
/-- A coder in block K that reads the words l, in block b. -/
def RCod (K b : Nat) (w : World) (l : List (List UInt8)) (bad : Bool) : Prop :=
  ∃ v, w.heap[K]? = some (.cells #[.slice none 0 0, v, .bool true, .bool bad] 83 (0, 0)) ∧ StrsIn w b v l ∧ b ≠ K
theorem RCod.fr {M : List Nat} {K b : Nat} {w w' : World} {l : List (List UInt8)} {bad : Bool} (h : RCod K b w l bad) (hf : Fr M w w') (hK : K ∉ M) (hb : b ∉ M) : RCod K b w' l bad := by
  obtain ⟨v, h1, h2, h3⟩ := h
  exact ⟨v, hf.blockAs h1 hK, h2.fr hf hb, h3⟩
theorem RCod.lt {K b : Nat} {w : World} {l : List (List UInt8)} {bad : Bool} (h : RCod K b w l bad) : K < w.heap.size := by
  obtain ⟨v, h1, _⟩ := h
  exact lt_of_block h1
def nextW (l : List (List UInt8)) (bad : Bool) : List UInt8 := if bad then [] else l.headD []
def nextL (l : List (List UInt8)) (bad : Bool) : List (List UInt8) := if bad then l else l.tail
def nextB (l : List (List UInt8)) (bad : Bool) : Bool := bad || l.isEmpty

theorem setCell_block {w : World} {b i : Nat} {cs : Array Value} {T : TypeId} {fr : Nat × Nat} (hb : w.heap[b]? = some (.cells cs T fr)) (u : Value) :
    (w.setCell ⟨b, i, none⟩ u).heap[b]? = some (.cells (cs.setIfInBounds i u) T fr) := by
  simp [World.setCell, Array.getElem?_modify, hb]

set_option maxRecDepth 100000 in
theorem next_bad (K b : Nat) (w : World) (l : List (List UInt8)) (h : RCod K b w l true) :
    Calls Tryz.prog 48 #[.pointer (some ⟨K, 0, none⟩)] w fun e w' => e = .returned (.string (bs [])) ∧ RCod K b w' l true ∧ Fr [K] w w' := by
  obtain ⟨v, hb, hs, hn⟩ := h
  have c3 : w.cell? ⟨K, 3, none⟩ = some (.bool true) := by rw [Lib.cell_of_heap hb]; rfl
  have f3 : w.frozen? ⟨K, 3, none⟩ = false := Lib.frozen_of_heap hb 3
  go_enter Tryz.func48, Tryz.ntmps48
  go_wp2
  go_ret
  have hfr : Fr [K] w (w.setCell ⟨K, 3, none⟩ (.bool true)) := (Fr.refl _ _).setCell (by simp) _
  exact ⟨rfl, ⟨v, by rw [setCell_block hb]; rfl, hs.fr hfr (by simpa using hn), hn⟩, hfr⟩
set_option maxRecDepth 100000 in
theorem next_none (K b : Nat) (w : World) (h : RCod K b w [] false) :
    Calls Tryz.prog 48 #[.pointer (some ⟨K, 0, none⟩)] w fun e w' => e = .returned (.string (bs [])) ∧ RCod K b w' [] true ∧ Fr [K] w w' := by
  obtain ⟨v, hb, hs, hn⟩ := h
  obtain ⟨p, c, rfl⟩ : ∃ p c, v = .slice p 0 c := by
    rcases hs with ⟨_, h⟩ | ⟨off, cap, hv, _⟩
    · exact h
    · exact ⟨_, _, hv⟩
  have c1 : w.cell? ⟨K, 1, none⟩ = some (.slice p 0 c) := by rw [Lib.cell_of_heap hb]; rfl
  have c3 : w.cell? ⟨K, 3, none⟩ = some (.bool false) := by rw [Lib.cell_of_heap hb]; rfl
  have f3 : w.frozen? ⟨K, 3, none⟩ = false := Lib.frozen_of_heap hb 3
  go_enter Tryz.func48, Tryz.ntmps48
  go_wp2
  go_ret
  have hfr : Fr [K] w (w.setCell ⟨K, 3, none⟩ (.bool true)) := (Fr.refl _ _).setCell (by simp) _
  exact ⟨rfl, ⟨.slice p 0 c, by rw [setCell_block hb]; rfl, .inl ⟨rfl, p, c, rfl⟩, hn⟩, hfr⟩
set_option maxRecDepth 100000 in
theorem next_some (K b : Nat) (w : World) (x : List UInt8) (r : List (List UInt8)) (hr : r.length ≤ 1099511627776) (h : RCod K b w (x :: r) false) :
    Calls Tryz.prog 48 #[.pointer (some ⟨K, 0, none⟩)] w fun e w' => e = .returned (.string (bs x)) ∧ RCod K b w' r false ∧ Fr [K] w w' := by
  obtain ⟨v, hb, hs, hn⟩ := h
  obtain ⟨off, cap, rfl, hc, hcell⟩ : ∃ off cap, v = .slice (some ⟨b, off, none⟩) (r.length + 1) cap ∧ r.length + 1 ≤ cap ∧ ∀ i (h : i < (x :: r).length), w.cell? ⟨b, off + i, none⟩ = some (strV (x :: r)[i]) := by
    rcases hs with ⟨h, _⟩ | ⟨off, cap, hv, h1, h2⟩
    · cases h
    · exact ⟨off, cap, by simpa using hv, by simpa using h1, h2⟩
  have c1 : w.cell? ⟨K, 1, none⟩ = some (.slice (some ⟨b, off, none⟩) (r.length + 1) cap) := by rw [Lib.cell_of_heap hb]; rfl
  have c3 : w.cell? ⟨K, 3, none⟩ = some (.bool false) := by rw [Lib.cell_of_heap hb]; rfl
  have f3 : w.frozen? ⟨K, 3, none⟩ = false := Lib.frozen_of_heap hb 3
  have f1 : w.frozen? ⟨K, 1, none⟩ = false := Lib.frozen_of_heap hb 1
  have hx : w.cell? ⟨b, off, none⟩ = some (.string (bs x)) := hcell 0 (by simp)
  have hx' : (w.setCell ⟨K, 3, none⟩ (.bool false)).cell? ⟨b, off, none⟩ = some (.string (bs x)) := by
    rw [((Fr.refl [K] w).setCell (p := ⟨K, 3, none⟩) (by simp) (.bool false)).cell (lt_of_cell hx) (by simpa using hn)]
    exact hx
  go_enter Tryz.func48, Tryz.ntmps48
  go_wp2
  · have hc1 : cap = 1 := by assumption
    go_ret
    have hr0 : r = [] := by cases r with | nil => rfl | cons y s => simp at hc; omega
    subst hr0
    have hfr : Fr [K] w ((w.setCell ⟨K, 3, none⟩ (.bool false)).setCell ⟨K, 1, none⟩ (.slice (some ⟨b, off, none⟩) 0 0)) := ((Fr.refl _ _).setCell (by simp) _).setCell (by simp) _
    subst hc1
    exact ⟨rfl, ⟨.slice (some ⟨b, off, none⟩) 0 0, by rw [setCell_block (setCell_block hb _)]; rfl, .inl ⟨rfl, _, _, rfl⟩, hn⟩, hfr⟩
  · go_ret
    have hfr : Fr [K] w ((w.setCell ⟨K, 3, none⟩ (.bool false)).setCell ⟨K, 1, none⟩ (.slice (some ⟨b, off + 1, none⟩) r.length (cap - 1))) := ((Fr.refl _ _).setCell (by simp) _).setCell (by simp) _
    refine ⟨rfl, ⟨.slice (some ⟨b, off + 1, none⟩) r.length (cap - 1), by rw [setCell_block (setCell_block hb _)]; rfl, ?_, hn⟩, hfr⟩
    refine .inr ⟨off + 1, cap - 1, rfl, by omega, fun i hi => ?_⟩
    have := hfr.cellAs (hcell (i + 1) (by simpa using hi)) (by simpa using hn)
    rw [Nat.add_assoc, Nat.add_comm 1 i]
    simpa using this

theorem next_calls (K b : Nat) (w : World) (l : List (List UInt8)) (bad : Bool) (hl : l.length ≤ 1099511627776) (h : RCod K b w l bad) :
    Calls Tryz.prog 48 #[.pointer (some ⟨K, 0, none⟩)] w fun e w' => e = .returned (.string (bs (nextW l bad))) ∧ RCod K b w' (nextL l bad) (nextB l bad) ∧ Fr [K] w w' := by
  cases bad with
  | true => exact next_bad K b w l h
  | false =>
    cases l with
    | nil => exact next_none K b w h
    | cons x r => exact next_some K b w x r (by simp at hl; omega) h
end Go.Proofs.YtcaeppncippknaaGreatDoor
