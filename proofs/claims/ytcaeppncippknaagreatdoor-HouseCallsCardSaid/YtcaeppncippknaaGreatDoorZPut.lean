/- house's coder while it writes: put. Conditions: fewer than 2^40 words. -/
import Derived.Test.YtcaeppncippknaaGreatDoorZCoder
namespace Go.Proofs.YtcaeppncippknaaGreatDoor
open Go Go.RowKit

/-- A coder in block K that has written the words out, in rows from B on. -/
def WCod (K B : Nat) (w : World) (out : List (List UInt8)) (bad : Bool) : Prop :=
  ∃ v, w.heap[K]? = some (.cells #[v, .slice none 0 0, .bool false, .bool bad] 83 (0, 0)) ∧ w.ownsRow B 9 1 v out.length (out.map strV)
theorem WCod.fr {M : List Nat} {K B : Nat} {w w' : World} {out : List (List UInt8)} {bad : Bool} (h : WCod K B w out bad) (hf : Fr M w w') (hM : ∀ k ∈ M, k < B ∧ k ≠ K) : WCod K B w' out bad := by
  obtain ⟨v, hb, hown⟩ := h
  refine ⟨v, hf.blockAs hb (fun hm => (hM K hm).2 rfl), hown.1, ?_⟩
  rcases hown.2 with h | ⟨g, cap, cur, hv, hg, hh, r⟩
  · exact .inl h
  · exact .inr ⟨g, cap, cur, hv, hg, hf.blockAs hh (fun hm => by have := (hM g hm).1; omega), r⟩
theorem WCod.lt {K B : Nat} {w : World} {out : List (List UInt8)} {bad : Bool} (h : WCod K B w out bad) : K < w.heap.size := by
  obtain ⟨v, h1, _⟩ := h
  exact lt_of_block h1
theorem infoStr : (Tryz.prog.info? 9).map (fun i => (i.zero, i.size, i.bytes)) = some (some (.string ⟨#[]⟩), 1, 16) := by kernel_rfl
theorem coder_ne_str : 83 ≠ 9 := by decide
theorem WCod.setBad {K B : Nat} {w : World} {out : List (List UInt8)} {bad : Bool} (h : WCod K B w out bad) (v : Bool) : WCod K B (w.setCell ⟨K, 3, none⟩ (.bool v)) out v := by
  obtain ⟨u, hb, hown⟩ := h
  refine ⟨u, by rw [setCell_block hb]; rfl, ?_⟩
  exact hown.kept (row := some K) ⟨rfl, rfl, rfl, by simp [World.setCell], fun k _ hk => Below.heap_setCell _ _ _ _ (fun e => hk (by simp [e]))⟩ (.inr (Lib.ownBlock_ne hown hb coder_ne_str))
theorem RCod.setBad {K b : Nat} {w : World} {l : List (List UInt8)} {bad : Bool} (h : RCod K b w l bad) (v : Bool) : RCod K b (w.setCell ⟨K, 3, none⟩ (.bool v)) l v := by
  obtain ⟨u, hb, hs, hn⟩ := h
  exact ⟨u, by rw [setCell_block hb]; rfl, hs.fr (M := [K]) ((Fr.refl _ _).setCell (by simp) _) (by simpa using hn), hn⟩
theorem RCod.setOther {K b C o : Nat} {w : World} {l : List (List UInt8)} {bad : Bool} (h : RCod K b w l bad) (hK : C ≠ K) (hb : C ≠ b) (u : Value) : RCod K b (w.setCell ⟨C, o, none⟩ u) l bad :=
  h.fr (M := [C]) ((Fr.refl _ _).setCell (by simp) _) (by simpa using hK.symm) (by simpa using hb.symm)

set_option maxHeartbeats 1000000 in
set_option maxRecDepth 100000 in
theorem put_calls (K B : Nat) (w : World) (out : List (List UInt8)) (bad : Bool) (x : List UInt8) (h : WCod K B w out bad) (_hKB : K < B) (hB : B ≤ w.heap.size) (ho : out.length ≤ 1099511627776) :
    Calls Tryz.prog 34 #[.pointer (some ⟨K, 0, none⟩), .string (bs x)] w fun e w' => e = .returned (.tuple #[]) ∧ WCod K B w' (out ++ [x]) bad ∧ But B K w w' := by
  obtain ⟨i0, hi, hz0, hz1, hz2⟩ := info_parts infoStr
  obtain ⟨v, hb, hown⟩ := h
  have hne := Lib.ownBlock_ne hown hb coder_ne_str
  have c0 : w.cell? ⟨K, 0, none⟩ = some v := by rw [Lib.cell_of_heap hb]; rfl
  have HB := Lib.hid hb
  clear hb
  go_enter Tryz.func34, Tryz.ntmps34
  go_wp2_with (at_builtin; refine wpList_append_own _ rfl _ _ 48 rfl B 9 i0 (.string ⟨#[]⟩) 1 16 Tryz.underlying48 hi hz0 hz1 hz2 rfl (by decide) _ _ _ rfl (hown.alloc _) ⟨w.heap.size, 0, none⟩ 1 1 [strV x] rfl rfl ?c1 ?c2 ?c3 ?c4 ?c5 ?_)
  case c1 =>
    intro j u hj
    match j, hj with
    | 0, hj => simp at hj; subst hj; simp [Addr.add, strV]
  case c2 => intro u hu; simp at hu; subst hu; rfl
  case c3 => unfold maxLen; omega
  case c4 => omega
  case c5 => simp; omega
  intro v' w2 hown' hgrow _
  have hb := HB.out
  have hlt : K < w.heap.size := lt_of_block hb
  have hb2 : w2.heap[K]? = some (.cells #[v, .slice none 0 0, .bool false, .bool bad] 83 (0, 0)) := by
    rw [hgrow.block K (by simp; omega) (fun e => hne e.symm), Lib.alloc_old w _ K hlt]
    exact hb
  have d0 : w2.cell? ⟨K, 0, none⟩ = some v := by rw [Lib.cell_of_heap hb2]; rfl
  have f0 : w2.frozen? ⟨K, 0, none⟩ = false := Lib.frozen_of_heap hb2 0
  obtain ⟨g, cap, rfl⟩ : ∃ g cap, v' = .slice (some ⟨g, 0, none⟩) (out.length + 1) cap := by
    rcases hown'.2 with ⟨_, h0⟩ | ⟨g, cap, cur, hv, _⟩
    · omega
    · exact ⟨g, cap, hv⟩
  clear hb
  have HB2 := Lib.hid hb2
  clear hb2
  go_wp2
  go_end0
  refine ⟨rfl, ⟨.slice (some ⟨g, 0, none⟩) (out.length + 1) cap, by rw [setCell_block HB2.out]; rfl, ?_⟩, ?_⟩
  · have := hown'.kept (w' := w2.setCell ⟨K, 0, none⟩ (.slice (some ⟨g, 0, none⟩) (out.length + 1) cap)) (row := some K) ⟨rfl, rfl, rfl, by simp [World.setCell], fun k _ hk => Below.heap_setCell _ _ _ _ (fun e => hk (by simp [e]))⟩ (.inr (Lib.ownBlock_ne hown' HB2.out coder_ne_str))
    simpa using this
  · exact ((((But.refl B K w).alloc hB _).grown hgrow (by simp; omega) (fun k hk => (hown.lt k hk).1)).setCell rfl _)
end Go.Proofs.YtcaeppncippknaaGreatDoor
