/- Which answer lines are, in plain (house.Answer); slices of items in memory. Conditions: none. -/
import Derived.Test.YtcaeppncippknaaGreatDoorZTold0
import Derived.Test.YtcaeppncippknaaGreatDoorZFieldA
import Derived.Test.YtcaeppncippknaaGreatDoorZPlainA
import Derived.Laws.OwnMore
namespace Go.Proofs.YtcaeppncippknaaGreatDoor
open Go Go.RowKit

def w_code : List UInt8 := [99, 111, 100, 101]
def w_text : List UInt8 := [116, 101, 120, 116]
def w_item : List UInt8 := [105, 116, 101, 109]
def w_gone : List UInt8 := [103, 111, 110, 101]
/-- The item that a line's words behind the first are. -/
def itemV (l : List (List UInt8)) (bad : Bool) : AItem :=
  ⟨textV l bad, numV (nextL l bad) (nextB l bad), intV (nextL (nextL l bad) (nextB l bad)) (numB (nextL l bad) (nextB l bad)),
    nextW (nextL (nextL (nextL l bad) (nextB l bad)) (numB (nextL l bad) (nextB l bad))) (intB (nextL (nextL l bad) (nextB l bad)) (numB (nextL l bad) (nextB l bad))) == w_gone⟩
def stepA (a : AAns) (line : List UInt8) : AAns :=
  if nextW (wordsP line) false = w_code then { a with code := intV (nextL (wordsP line) false) (nextB (wordsP line) false), n := numV (nextL (nextL (wordsP line) false) (nextB (wordsP line) false)) (intB (nextL (wordsP line) false) (nextB (wordsP line) false)) }
  else if nextW (wordsP line) false = w_text then { a with text := textV (nextL (wordsP line) false) (nextB (wordsP line) false) }
  else if nextW (wordsP line) false = w_item then { a with items := a.items ++ [itemV (nextL (wordsP line) false) (nextB (wordsP line) false)] }
  else if nextW (wordsP line) false = moreL then { a with more := true }
  else a
def goneA (l : List (List UInt8)) : AAns := l.foldl stepA AAns.zero
def ansP (l : List (List UInt8)) : AAns × Bool := if toldP (goneA l) = l then (goneA l, true) else (AAns.zero, false)
theorem goneA_succ (l : List (List UInt8)) {k : Nat} (hk : k < l.length) : goneA (l.take (k + 1)) = stepA (goneA (l.take k)) l[k] := by
  unfold goneA
  rw [List.take_add_one, List.getElem?_eq_getElem hk, List.foldl_append]
  rfl
theorem hText_length {w s : List UInt8} (h : hText w = some s) : s.length ≤ w.length := by
  have := hText_eq h
  by_cases hs : s = []
  · subst hs; simp
  · have hf := flat_pos (s == [45]) s
    have he : s.isEmpty = false := by simpa using hs
    rw [← this]
    unfold hWord
    rw [he]
    exact hf
theorem textV_length {l : List (List UInt8)} {M : Nat} (h : ∀ x ∈ l, x.length ≤ M) (bad : Bool) : (textV l bad).length ≤ M := by
  have h1 := nextW_length h bad
  unfold textV
  cases e : hText (nextW l bad) with
  | none => simp
  | some s => exact Nat.le_trans (hText_length e) h1
theorem itemV_wf {l : List (List UInt8)} (h : ∀ x ∈ l, x.length ≤ 1048576) (bad : Bool) : (itemV l bad).Wf :=
  ⟨textV_length h bad, pU_lt _, pI_ge _, pI_le _⟩
theorem stepA_wf {a : AAns} {line : List UInt8} (h : a.Wf) (hl : line.length ≤ 1048576) (hf : a.items.length + 1 ≤ 1048576) : (stepA a line).Wf := by
  have hm : ∀ x ∈ nextL (wordsP line) false, x.length ≤ 1048576 := fun x hx => Nat.le_trans (wordsP_mem (nextL_mem hx)) hl
  unfold stepA
  split
  · exact ⟨⟨pI_ge _, pI_le _⟩, pU_lt _, h.text, h.few, h.items⟩
  · split
    · exact ⟨h.code, h.n, textV_length hm _, h.few, h.items⟩
    · split
      · refine ⟨h.code, h.n, h.text, by simpa using hf, fun x hx => ?_⟩
        rcases List.mem_append.1 hx with hx | hx
        · exact h.items x hx
        · simp only [List.mem_cons, List.not_mem_nil, or_false] at hx
          subst hx
          exact itemV_wf hm _
      · split
        · exact ⟨h.code, h.n, h.text, h.few, h.items⟩
        · exact h
theorem stepA_items (a : AAns) (line : List UInt8) : (stepA a line).items.length ≤ a.items.length + 1 := by
  unfold stepA
  split
  · simp
  · split
    · simp
    · split
      · simp
      · split
        · simp
        · simp
theorem zero_wf : AAns.zero.Wf := ⟨by decide, by decide, by decide, by decide, fun x hx => by cases hx⟩
theorem goneA_wf {l : List (List UInt8)} (hl : ∀ x ∈ l, x.length ≤ 1048576) (hn : l.length ≤ 1048576) : ∀ k, k ≤ l.length → (goneA (l.take k)).Wf ∧ (goneA (l.take k)).items.length ≤ k
  | 0, _ => ⟨zero_wf, by simp [goneA, AAns.zero]⟩
  | k + 1, hk => by
    obtain ⟨h1, h2⟩ := goneA_wf hl hn k (by omega)
    rw [goneA_succ l (by omega)]
    exact ⟨stepA_wf h1 (hl _ (List.getElem_mem _)) (by omega), Nat.le_trans (stepA_items _ _) (by omega)⟩

/-- A row of items of the call's own. -/
def itemsC (l : List AItem) : List Value := l.flatMap fun x => (itemCells x).toList
theorem itemsC_length : ∀ l : List AItem, (itemsC l).length = l.length * 4
  | [] => rfl
  | x :: l => by
    have h := itemsC_length l
    unfold itemsC at h ⊢
    rw [List.flatMap_cons, List.length_append, h, List.length_cons, Nat.succ_mul]
    simp [itemCells]; omega
theorem itemsC_snoc (l : List AItem) (x : AItem) : itemsC (l ++ [x]) = itemsC l ++ (itemCells x).toList := by
  unfold itemsC; rw [List.flatMap_append]; simp
theorem itemsC_at : ∀ (l : List AItem) (i : Nat) (hi : i < l.length) (j : Nat) (_ : j < 4), (itemsC l)[i * 4 + j]? = (itemCells l[i])[j]?
  | [], i, hi, _, _ => absurd hi (by simp)
  | x :: l, 0, _, j, hj => by
    unfold itemsC
    rw [List.flatMap_cons, List.getElem?_append_left (by simp [itemCells]; omega)]
    simp
  | x :: l, i + 1, hi, j, hj => by
    have h := itemsC_at l i (by simpa using hi) j hj
    unfold itemsC at h ⊢
    rw [List.flatMap_cons, List.getElem?_append_right (by simp [itemCells]; omega)]
    have e : (i + 1) * 4 + j - (itemCells x).toList.length = i * 4 + j := by simp [itemCells]; omega
    rw [e]
    simpa using h
def OwnI (B : Nat) (w : World) (v : Value) (l : List AItem) : Prop := w.ownsRow B 104 4 v l.length (itemsC l)
theorem ownI_in {B : Nat} {w : World} {v : Value} {l : List AItem} (h : OwnI B w v l) : ∃ b, ItemsIn w b v l := by
  have hh := h
  rcases h.2 with ⟨hv, h0⟩ | ⟨g, cap, cur, hv, hg, hh2, hn, hc, hs, ht⟩
  · exact ⟨0, none, 0, 0, by rw [hv, h0], fun i hi => absurd hi (by omega)⟩
  · refine ⟨g, _, cap, 0, hv, fun i hi => ⟨rfl, ?_⟩⟩
    subst hv
    have hat : ∀ j, j < 4 → w.cell? ⟨g, 0 + i * 4 + j, none⟩ = (itemCells l[i])[j]? := fun j hj => by
      rw [Nat.zero_add, World.ownsRow.cellAt hh (i * 4 + j) (by omega), itemsC_at l i hi j hj]
    exact ⟨hat 0 (by omega), hat 1 (by omega), hat 2 (by omega), hat 3 (by omega)⟩
theorem ownsRow_fr {M : List Nat} {w w' : World} {B : Nat} {e : TypeId} {size : Nat} {v : Value} {n : Nat} {xs : List Value} (h : w.ownsRow B e size v n xs) (hf : Fr M w w') (hM : ∀ m ∈ M, v.ownBlock ≠ some m) : w'.ownsRow B e size v n xs := by
  refine ⟨h.1, ?_⟩
  rcases h.2 with h | ⟨g, cap, cur, hv, hg, hh, r⟩
  · exact .inl h
  · exact .inr ⟨g, cap, cur, hv, hg, hf.blockAs hh (fun hm => hM g hm (by rw [hv]; rfl)), r⟩
theorem infoItem : (Tryz.prog.info? 104).map (fun i => (i.zero, i.size, i.bytes)) = some (some (.agg #[.string ⟨#[]⟩, .int .u64 0, .int .i64 0, .bool false]), 4, 40) := by kernel_rfl
theorem infoAns : (Tryz.prog.info? 47).map (·.size) = some 5 := by kernel_rfl
theorem ansCells_one (a : AAns) (p : Option Addr) (n c : Nat) : (ansCells a (.slice p n c)).all (·.oneCell') = true := by simp [ansCells, strV, Value.oneCell']
end Go.Proofs.YtcaeppncippknaaGreatDoor
