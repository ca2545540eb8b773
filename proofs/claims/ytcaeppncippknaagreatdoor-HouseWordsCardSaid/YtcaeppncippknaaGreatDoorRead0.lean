/- What call words are, in plain: readC. Conditions: none. -/
import Derived.Test.YtcaeppncippknaaGreatDoorParts
import Derived.Test.YtcaeppncippknaaGreatDoorKinds
import Derived.Laws.Rows
namespace Go.Proofs.YtcaeppncippknaaGreatDoor
open Go Go.RowKit

def rdAll (fs : List Nat) (s : RS) : RS := fs.foldl (fun s f => rdP (pn f) s) s
theorem rdAll_succ (fs : List Nat) (s : RS) {k : Nat} (hk : k < fs.length) : rdAll (fs.take (k + 1)) s = rdP (pn fs[k]) (rdAll (fs.take k) s) := by
  unfold rdAll
  rw [List.take_add_one, List.getElem?_eq_getElem hk, List.foldl_append]
  rfl
def rowOf (x : List UInt8) : Option KRow := kindRows.find? (·.2.1 == x)
def readS (r : KRow) (l : List (List UInt8)) : RS := rdAll r.2.2 ⟨{ ACall.zero with kind := r.1 }, nextL l false, nextB l false⟩
def readC (l : List (List UInt8)) : ACall × Bool :=
  match rowOf (nextW l false) with
  | none => (ACall.zero, false)
  | some r => ((readS r l).c, !(readS r l).bad && (readS r l).l.isEmpty)
def ResC (x : ACall × Bool) : Value := .tuple #[.agg (callCells x.1), .bool x.2]
theorem rdP_mem {p : Nat} {s : RS} {x : List UInt8} (h : x ∈ (rdP p s).l) : x ∈ s.l := by
  unfold rdP at h
  split at h
  all_goals first | exact nextL_mem h | exact h | skip
  simp only [condL] at h
  split at h
  · exact nextL_mem (nextL_mem h)
  · exact nextL_mem h
theorem rdP_length (p : Nat) (s : RS) : (rdP p s).l.length ≤ s.l.length := by
  unfold rdP
  split
  all_goals first | exact nextL_length _ _ | exact Nat.le_refl _ | skip
  simp only [condL]
  split
  · exact Nat.le_trans (nextL_length _ _) (nextL_length _ _)
  · exact nextL_length _ _
theorem rdAll_mem {x : List UInt8} : ∀ {fs : List Nat} {s : RS}, x ∈ (rdAll fs s).l → x ∈ s.l
  | [], _, h => h
  | _ :: fs, _, h => rdP_mem (rdAll_mem (fs := fs) h)
theorem rdAll_length : ∀ (fs : List Nat) (s : RS), (rdAll fs s).l.length ≤ s.l.length
  | [], _ => Nat.le_refl _
  | _ :: fs, _ => Nat.le_trans (rdAll_length fs _) (rdP_length _ _)
theorem StrsIn.some {w : World} {b : Nat} {v : Value} {l : List (List UInt8)} (h : StrsIn w b v l) (hw : 0 < w.heap.size) : ∃ b, b < w.heap.size ∧ StrsIn w b v l := by
  rcases h with ⟨h1, p, c, h2⟩ | ⟨off, cap, h1, h2, h3⟩
  · exact ⟨0, hw, .inl ⟨h1, p, c, h2⟩⟩
  · by_cases hl : l.length = 0
    · obtain rfl := List.length_eq_zero_iff.1 hl
      exact ⟨0, hw, .inl ⟨rfl, _, cap, h1⟩⟩
    · exact ⟨b, by simpa using lt_of_cell (h3 0 (by omega)), .inr ⟨off, cap, h1, h2, h3⟩⟩

theorem heap_alloc2 (w : World) (a b : Obj) : ((w.alloc a).alloc b).heap[w.heap.size + 1]? = some b := by
  have h := (MapKept.heap_alloc (w.alloc a) b).1
  rwa [show (w.alloc a).heap.size = w.heap.size + 1 by simp] at h
theorem rowOf_none {x : List UInt8} (h : ∀ i (hi : i < kindRows.length), kindRows[i].2.1 ≠ x) : rowOf x = none := by
  unfold rowOf
  rw [List.find?_eq_none]
  intro r hr
  obtain ⟨i, hi, rfl⟩ := List.getElem_of_mem hr
  simpa using h i hi
theorem kindWords_nodup : (kindRows.map (·.2.1)).Nodup := by decide
theorem rowOf_some {x : List UInt8} {i : Nat} (hi : i < kindRows.length) (h : kindRows[i].2.1 = x) : rowOf x = some kindRows[i] := by
  unfold rowOf
  rw [List.find?_eq_some_iff_getElem]
  refine ⟨by simp [h], i, hi, rfl, fun k hki => ?_⟩
  have hne := (List.nodup_iff_pairwise_ne.1 kindWords_nodup |> List.pairwise_iff_getElem.1) k i (by simp; omega) (by simpa using hi) hki
  simp only [List.getElem_map] at hne
  rw [h] at hne
  simpa using hne
theorem infoCall : (Tryz.prog.info? 31).map (·.size) = some 11 := by kernel_rfl
theorem callCells_one (c : ACall) : (callCells c).all (·.oneCell') = true := by simp [callCells, strV, Value.oneCell']
theorem kindFew {i : Nat} (hi : i < kindRows.length) : kindRows[i].2.2.length ≤ 4 := by
  have h : ∀ r ∈ kindRows, r.2.2.length ≤ 4 := by decide
  exact h _ (List.getElem_mem hi)
theorem results_two {P : Program} {fn : Func} {p q : Tmp} {ty : TypeId} (h : fn.results = #[.cell p ty, .tmp q]) (tmps : Array Value) (w : World) (g : Nat) (t : TypeId) (cs : Array Value) (fr : Nat × Nat) (d : TypeDesc)
    (hp : tmps.getD p undef = .pointer (some ⟨g, 0, none⟩)) (hg : w.heap[g]? = some (.cells cs t fr)) 
    (hu : P.underlying ty = some d) (hd : (match d with | .struct _ | .array _ _ => true | _ => false) = true) (hi : (P.info? ty).map (·.size) = some cs.size) (x : Value) (hx : tmps.getD q undef = x) :
    (results fn tmps).run P w = .ok (.tuple #[.agg cs, x]) w := by
  subst hx
  have hp' : tmps[p]?.getD undef = .pointer (some ⟨g, 0, none⟩) := by simpa using hp
  have hl := run_loadVar_row (P := P) w g t ty cs fr d hg hu hd hi
  simp [results, h, hp', asAddr, hl]

theorem hasAt_slice {B : Nat} {w : World} {v : Value} {fs : List Nat} (h : HasAt B w v fs) :
    ∃ p, v = .slice p fs.length fs.length ∧ ∃ g, B < g ∧ ∀ k (hk : k < fs.length), p = some ⟨g, 0, none⟩ ∧ w.cell? ⟨g, k, none⟩ = some (fnV fs[k]) := by
  rcases h with ⟨h1, h2⟩ | ⟨g, hg, h1, h2⟩
  · subst h1
    exact ⟨none, h2, B + 1, by omega, fun k hk => by simp at hk⟩
  · refine ⟨_, h1, g, hg, fun k hk => ⟨rfl, ?_⟩⟩
    rw [Lib.cell_of_heap h2]
    simp [hk]
instance (f : Nat) : Decidable (isPart f) := by unfold isPart; infer_instance
theorem kindParts {i : Nat} (hi : i < kindRows.length) : ∀ f ∈ kindRows[i].2.2, isPart f := by
  have h : ∀ r ∈ kindRows, ∀ f ∈ r.2.2, isPart f := by decide
  exact h _ (List.getElem_mem hi)
end Go.Proofs.YtcaeppncippknaaGreatDoor
