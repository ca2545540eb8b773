/- The range over the map of kinds: what each step of the iterator does, in whatever order. Conditions: none. -/
import Derived.Test.YtcaeppncippknaaGreatDoorKm
import Derived.Maps.RangeRun
namespace Go.Proofs.YtcaeppncippknaaGreatDoor
open Go.RowKit
open Go.ChangeMaps (setBlock)

theorem run_range_km {P : Program} {w : World} {B : Nat} {l : List KRow} {t : TypeId} {e kt : TypeId} (ht : P.underlying t = some (.map kt e)) (h : KM B l w) :
    (Instr.range t (.map (some B))).run P w = .ok (.pointer (some ⟨w.heap.size, 0, none⟩)) (w.alloc (.mapIter (some B) l.length #[] l.length)) := by
  obtain ⟨es, hb, hs, hi⟩ := h
  exact run_range_map w t kt e B es l.length ht hb

theorem IterAt.made {B : Nat} (w : World) (n : Nat) : IterAt B w.heap.size n #[] (w.alloc (.mapIter (some B) n #[] n)) := ⟨(MapKept.heap_alloc w _).1, by simp, by simp⟩
theorem IterAt.fr {M : List Nat} {B r n : Nat} {sn : Array Nat} {w w' : World} (h : IterAt B r n sn w) (hf : Fr M w w') (hM : r ∉ M) : IterAt B r n sn w' := ⟨hf.blockAs h.1 hM, h.2⟩
theorem IterAt.lt {B r n : Nat} {sn : Array Nat} {w : World} (h : IterAt B r n sn w) : r < w.heap.size := lt_of_block h.1
theorem nodup_lt_length : ∀ (n : Nat) (l : List Nat), l.Nodup → (∀ i ∈ l, i < n) → l.length ≤ n
  | 0, l, _, h => by
    cases l with
    | nil => simp
    | cons x r => exact absurd (h x (by simp)) (by omega)
  | n + 1, l, hn, h => by
    have h1 := nodup_lt_length n (l.erase n) (hn.erase n) (fun i hi => by
      have h2 := (hn.mem_erase_iff.1 hi)
      have := h i h2.2
      have := h2.1
      omega)
    have h3 := List.length_erase (a := n) (l := l)
    split at h3 <;> omega
theorem IterAt.size_le {B r n : Nat} {sn : Array Nat} {w : World} (h : IterAt B r n sn w) : sn.size ≤ n := by
  have := nodup_lt_length n sn.toList h.2.1 h.2.2
  simpa using this

theorem km_born {B : Nat} {l : List KRow} {w : World} {es : Array MapEntry} (hs : es.size = l.length)
    (hi : ∀ i (h : i < l.length), ∃ v, es[i]? = some ⟨.int .u8 (l[i].1 : Nat), .agg #[.string ⟨l[i].2.1.toArray⟩, v], i⟩ ∧ HasAt B w v l[i].2.2) :
    es.toList.map (·.born) = List.range l.length := by
  apply List.ext_getElem
  · simp [hs]
  · intro i h1 h2
    have hil : i < l.length := by simpa using h2
    obtain ⟨v, h3, _⟩ := hi i hil
    rw [Array.getElem?_eq_some_iff] at h3
    obtain ⟨h4, h3⟩ := h3
    simp [h3]

/-- A STEP: nothing is left, or some row that has not been met is met. -/
theorem run_next_km {P : Program} {w : World} {B r : Nat} {l : List KRow} {sn : Array Nat} (ty : TypeId) (h : KM B l w) (hr : IterAt B r l.length sn w) (hBr : B < r) :
    ((∀ i, i < l.length → i ∈ sn.toList) ∧ (Instr.next (.pointer (some ⟨r, 0, none⟩)) false ty).run P w = .ok (.tuple #[.bool false]) w) ∨
    ∃ i, i < l.length ∧ i ∉ sn.toList ∧ ∃ k v w', (Instr.next (.pointer (some ⟨r, 0, none⟩)) false ty).run P w = .ok (.tuple #[.bool true, k, v]) w' ∧ KM B l w' ∧ IterAt B r l.length (sn.push i) w' ∧ Fr [r] w w' := by
  have hkm := h
  obtain ⟨es, hb, hs, hi⟩ := h
  have hit0 := hr
  obtain ⟨hit, hnd, hlt⟩ := hr
  have hkeys := km_keys hs hi
  rcases run_next_at (P := P) w ty r B l.length l.length sn es l.length hit hb (fun x hx => by obtain ⟨i, hil, _, hb', _⟩ := hkeys x hx; omega) (Nat.le_refl _) with ⟨h1, h2⟩ | ⟨x, hx, w1, hw1, h2⟩
  · refine .inl ⟨fun i hil => ?_, h2⟩
    obtain ⟨v, h3, _⟩ := hi i hil
    have h4 := Array.size_eq_zero_iff.1 h1
    unfold leftOf at h4
    rw [Array.filter_eq_empty_iff] at h4
    have := h4 _ (Array.mem_of_getElem? h3)
    simpa using this
  · right
    have hx' : x ∈ es.toList ∧ x.born ∉ sn := by simpa [leftOf] using hx
    obtain ⟨i, hil, hk, hbo, hxi⟩ := hkeys x hx'.1
    have hfr : Fr [r] w (setBlock w1 r (.mapIter (some B) l.length (sn.push x.born) l.length)) := by
      have hset := MapKept.heap_set (w := w) (r := r) (o' := .mapIter (some B) l.length (sn.push x.born) l.length) hit
      rcases hw1 with rfl | rfl <;> exact ⟨rfl, rfl, rfl, by simp [setBlock], fun b _ hn => hset.2 b (by simpa using hn)⟩
    refine ⟨i, hil, by rw [← hbo]; simpa using hx'.2, _, _, _, h2, ?_, ?_, hfr⟩
    · refine ⟨es, hfr.blockAs hb (by simp; omega), hs, fun j hj => ?_⟩
      obtain ⟨v, h3, h4⟩ := hi j hj
      refine ⟨v, h3, ?_⟩
      rcases h4 with h4 | ⟨b, hb', hv, hc⟩
      · exact .inl h4
      · exact .inr ⟨b, hb', hv, hfr.blockAs hc (fun hm => by
          obtain rfl : b = r := by simpa using hm
          rw [hit] at hc; simp at hc)⟩
    · have hset := MapKept.heap_set (w := w) (r := r) (o' := .mapIter (some B) l.length (sn.push x.born) l.length) hit
      subst hbo
      refine ⟨?_, ?_, ?_⟩
      · rcases hw1 with rfl | rfl <;> exact hset.1
      · simp only [Array.toList_push]
        rw [List.nodup_append]
        exact ⟨hnd, by simp, fun a ha b hb' => by
          obtain rfl : b = x.born := by simpa using hb'
          intro e; subst e; exact hx'.2 (by simpa using ha)⟩
      · intro j hj
        simp only [Array.toList_push, List.mem_append, List.mem_singleton] at hj
        rcases hj with hj | rfl
        · exact hlt j hj
        · exact hil

/-- The round's key and value. -/
theorem run_entry_km {P : Program} {w : World} {B r : Nat} {l : List KRow} {sn : Array Nat} {i : Nat} (h : KM B l w) (hr : IterAt B r l.length (sn.push i) w) (hil : i < l.length) :
    ∃ v, (Instr.entry (.pointer (some ⟨r, 0, none⟩))).run P w = .ok (.tuple #[.int .u8 (l[i].1 : Nat), .agg #[.string ⟨l[i].2.1.toArray⟩, v]]) w ∧ HasAt B w v l[i].2.2 := by
  obtain ⟨es, hb, hs, hi⟩ := h
  obtain ⟨v, h3, h4⟩ := hi i hil
  exact ⟨v, run_entry_at w r B l.length sn es l.length ⟨.int .u8 (l[i].1 : Nat), .agg #[.string ⟨l[i].2.1.toArray⟩, v], i⟩ hr.1 hb (by simpa using Array.mem_of_getElem? h3) (by rw [km_born hs hi]; exact List.nodup_range), h4⟩

theorem wpList_range_km {P : Program} {w : World} {ops : Array Oper} {rest : List Oper} {o : Oper} {a : Act} {Q : Exit → Act → World → Prop}
    (hg : o.guard = none) (x : Operand) (t : TypeId) (hop : o.op = Op.range t x) {e kt : TypeId} (ht : P.underlying t = some (.map kt e)) {B : Nat} {l : List KRow} (hx : a.eval x = .map (some B)) (h : KM B l w)
    (hK : ∀ w', w' = w.alloc (.mapIter (some B) l.length #[] l.length) → wpList P ops Q rest (a.put o.dst (.pointer (some ⟨w.heap.size, 0, none⟩))) w') : wpList P ops Q (o :: rest) a w := by
  refine wpList_plain hg fun K hK' => ?_
  unfold Oper.wp
  simp [execOp, hop, hx, run_range_km ht h, Result.andThen]
  exact hK' _ _ (hK _ rfl)
theorem wpList_next_km {P : Program} {w : World} {ops : Array Oper} {rest : List Oper} {o : Oper} {a : Act} {Q : Exit → Act → World → Prop}
    (hg : o.guard = none) (x : Operand) (hop : o.op = Op.next x false) {B r : Nat} {l : List KRow} {sn : Array Nat} (hx : a.eval x = .pointer (some ⟨r, 0, none⟩)) (h : KM B l w) (hr : IterAt B r l.length sn w) (hBr : B < r)
    (h0 : (∀ i, i < l.length → i ∈ sn.toList) → wpList P ops Q rest (a.put o.dst (.tuple #[.bool false])) w)
    (h1 : ∀ i, i < l.length → i ∉ sn.toList → ∀ k v w', KM B l w' → IterAt B r l.length (sn.push i) w' → Fr [r] w w' → wpList P ops Q rest (a.put o.dst (.tuple #[.bool true, k, v])) w') : wpList P ops Q (o :: rest) a w := by
  refine wpList_plain hg fun K hK' => ?_
  unfold Oper.wp
  rcases run_next_km (P := P) o.type h hr hBr with ⟨ha, hrun⟩ | ⟨i, hi, hin, k, v, w', hrun, r1, r2, r3⟩
  · simp [execOp, hop, hx, hrun, Result.andThen]
    exact hK' _ _ (h0 ha)
  · simp [execOp, hop, hx, hrun, Result.andThen]
    exact hK' _ _ (h1 i hi hin k v w' r1 r2 r3)
theorem wpList_entry_km {P : Program} {w : World} {ops : Array Oper} {rest : List Oper} {o : Oper} {a : Act} {Q : Exit → Act → World → Prop}
    (hg : o.guard = none) (x : Operand) (hop : o.op = Op.entry x) {B r : Nat} {l : List KRow} {sn : Array Nat} {i : Nat} (hx : a.eval x = .pointer (some ⟨r, 0, none⟩)) (h : KM B l w) (hr : IterAt B r l.length (sn.push i) w) (hil : i < l.length)
    (hK : ∀ v, HasAt B w v l[i].2.2 → wpList P ops Q rest (a.put o.dst (.tuple #[.int .u8 (l[i].1 : Nat), .agg #[.string ⟨l[i].2.1.toArray⟩, v]])) w) : wpList P ops Q (o :: rest) a w := by
  refine wpList_plain hg fun K hK' => ?_
  unfold Oper.wp
  obtain ⟨v, hrun, hv⟩ := run_entry_km (P := P) h hr hil
  simp [execOp, hop, hx, hrun, Result.andThen]
  exact hK' _ _ (hK v hv)
end Go.Proofs.YtcaeppncippknaaGreatDoor
