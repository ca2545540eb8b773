/- The map of kinds in memory, while it is filled, and what a store of a new entry does. Conditions: none. -/
import Derived.Test.YtcaeppncippknaaGreatDoorZBaseA
import Derived.MapKept
import Derived.Maps.Own
import Derived.Maps.RangeRun
namespace Go.Proofs.YtcaeppncippknaaGreatDoor
open Go.RowKit

/-- A kind: its number, its word, the functions that it has. -/
abbrev KRow := Nat × List UInt8 × List Nat
def fnV (f : Nat) : Value := .func (.func f) #[] #[]
/-- The slice v holds the functions fs, in a block behind B. -/
def HasAt (B : Nat) (w : World) (v : Value) (fs : List Nat) : Prop :=
  (fs = [] ∧ v = .slice none 0 0) ∨ ∃ b, B < b ∧ v = .slice (some ⟨b, 0, none⟩) fs.length fs.length ∧ w.heap[b]? = some (.cells (fs.map fnV).toArray 85 (0, 0))
/-- Block B is a map that holds just the rows of l, each stamped with its place. -/
def KM (B : Nat) (l : List KRow) (w : World) : Prop :=
  ∃ es : Array MapEntry, w.heap[B]? = some (.map es l.length) ∧ es.size = l.length ∧
    ∀ i (h : i < l.length), ∃ v, es[i]? = some ⟨.int .u8 (l[i].1 : Nat), .agg #[.string ⟨l[i].2.1.toArray⟩, v], i⟩ ∧ HasAt B w v l[i].2.2

theorem HasAt.fr {M : List Nat} {B : Nat} {w w' : World} {v : Value} {fs : List Nat} (h : HasAt B w v fs) (hf : Fr M w w') (hM : ∀ b ∈ M, b ≤ B) : HasAt B w' v fs := by
  rcases h with h | ⟨b, hb, hv, hc⟩
  · exact .inl h
  · exact .inr ⟨b, hb, hv, hf.blockAs hc (fun hm => by have := hM b hm; omega)⟩
theorem KM.fr {M : List Nat} {B : Nat} {l : List KRow} {w w' : World} (h : KM B l w) (hf : Fr M w w') (hM : ∀ b ∈ M, b < B) : KM B l w' := by
  obtain ⟨es, hb, hs, hi⟩ := h
  refine ⟨es, hf.blockAs hb (fun hm => by have := hM B hm; omega), hs, fun i h => ?_⟩
  obtain ⟨v, h1, h2⟩ := hi i h
  exact ⟨v, h1, h2.fr hf (fun b hm => by have := hM b hm; omega)⟩
theorem KM.lt {B : Nat} {l : List KRow} {w : World} (h : KM B l w) : B < w.heap.size := by
  obtain ⟨es, hb, _⟩ := h
  exact lt_of_block hb
theorem KM.alloc {B : Nat} {l : List KRow} {w : World} (h : KM B l w) (o : Obj) : KM B l (w.alloc o) := h.fr (M := []) ((Fr.refl _ _).alloc o) (by simp)
theorem KM.made (w : World) : KM w.heap.size [] (w.alloc (.map #[] 0)) := ⟨#[], (MapKept.heap_alloc w _).1, rfl, fun i h => by cases h⟩
theorem HasAt.alloc {B : Nat} {w : World} {v : Value} {fs : List Nat} (h : HasAt B w v fs) (o : Obj) : HasAt B (w.alloc o) v fs := h.fr (M := []) ((Fr.refl _ _).alloc o) (by simp)
theorem HasAt.nil (B : Nat) (w : World) : HasAt B w (.slice none 0 0) [] := .inl ⟨rfl, rfl⟩
/-- The slice that was laid just ahead of one more block. -/
theorem HasAt.new {B : Nat} {w : World} (fs : List Nat) (h : B < w.heap.size) (n : Nat) (hn : n = fs.length) (cs : Array Value) (hc : cs = (fs.map fnV).toArray) (o : Obj) :
    HasAt B ((w.alloc (.cells cs 85 (0, 0))).alloc o) (.slice (some ⟨w.heap.size, 0, none⟩) n n) fs := by
  subst hn; subst hc
  exact HasAt.alloc (.inr ⟨w.heap.size, h, rfl, (MapKept.heap_alloc w _).1⟩) o

theorem km_keys {B : Nat} {l : List KRow} {w : World} {es : Array MapEntry} (hs : es.size = l.length)
    (hi : ∀ i (h : i < l.length), ∃ v, es[i]? = some ⟨.int .u8 (l[i].1 : Nat), .agg #[.string ⟨l[i].2.1.toArray⟩, v], i⟩ ∧ HasAt B w v l[i].2.2) :
    ∀ x ∈ es.toList, ∃ i, ∃ h : i < l.length, x.key = .int .u8 (l[i].1 : Nat) ∧ x.born = i ∧ es[i]? = some x := by
  intro x hx
  obtain ⟨i, hi', hxi⟩ := List.getElem_of_mem hx
  have hl : i < l.length := by simpa [hs] using hi'
  obtain ⟨v, h1, _⟩ := hi i hl
  have h2 : es[i]? = some x := by rw [← hxi]; simp
  rw [h1] at h2
  simp only [Option.some.injEq] at h2
  subst h2
  exact ⟨i, hl, rfl, rfl, h1⟩

/-- A STORE OF A NEW ROW. -/
theorem run_update_km {P : Program} {w : World} {B : Nat} {l : List KRow} {t : TypeId} {e kt : TypeId} (ht : P.underlying t = some (.map kt e)) (hk : P.underlying kt = some (.int .u8))
    (h : KM B l w) (r : KRow) (hn : ∀ x ∈ l, x.1 ≠ r.1) (v : Value) (hv : HasAt B w v r.2.2) :
    ∃ w', (Instr.mapUpdate t (.map (some B)) (.int .u8 (r.1 : Nat)) (.agg #[.string ⟨r.2.1.toArray⟩, v])).run P w = .ok () w' ∧ KM B (l ++ [r]) w' ∧ Fr [B] w w' := by
  obtain ⟨es, hb, hs, hi⟩ := h
  have hkeys := km_keys hs hi
  have hik : MapKept.IsKey (.int .u8) (.int .u8 (r.1 : Nat)) := by simp [MapKept.IsKey]
  have hks : ∀ x ∈ es.toList, MapKept.IsKey (.int .u8) x.key := by
    intro x hx
    obtain ⟨i, _, hk', _⟩ := hkeys x hx
    rw [hk']; simp [MapKept.IsKey]
  rcases MapKept.findNow_spec hik es.toList 0 hks with ⟨h1, _⟩ | ⟨j, x, _, h2, h3⟩
  · refine ⟨{ w with heap := w.heap.setIfInBounds B (.map (es.push { key := .int .u8 (r.1 : Nat), val := .agg #[.string ⟨r.2.1.toArray⟩, v], born := l.length }) (l.length + 1)) }, ?_, ?_, ?_⟩
    · simp [Instr.mapUpdate, run_underlying ht, MapKept.run_getObj_map hb, MapKept.run_checkKey hk hik, MapKept.run_findKey hk h1, MapKept.run_setObj_map _ hb, Result.andThen]
    · have hset := MapKept.heap_set (w := w) (r := B) (o' := .map (es.push { key := .int .u8 (r.1 : Nat), val := .agg #[.string ⟨r.2.1.toArray⟩, v], born := l.length }) (l.length + 1)) hb
      have hfr : ∀ {u : Value} {fs : List Nat}, HasAt B w u fs → HasAt B { w with heap := w.heap.setIfInBounds B (.map (es.push { key := .int .u8 (r.1 : Nat), val := .agg #[.string ⟨r.2.1.toArray⟩, v], born := l.length }) (l.length + 1)) } u fs := by
        intro u fs hu
        rcases hu with hu | ⟨b, hb', hu, hc⟩
        · exact .inl hu
        · exact .inr ⟨b, hb', hu, (hset.2 b (by omega)).trans hc⟩
      refine ⟨_, by simpa using hset.1, by simp [hs], fun i h => ?_⟩
      by_cases hil : i < l.length
      · obtain ⟨u, h4, h5⟩ := hi i hil
        refine ⟨u, ?_, ?_⟩
        · rw [Array.getElem?_push, if_neg (by omega), h4]
          simp [List.getElem_append_left hil]
        · rw [show (l ++ [r])[i] = l[i] from List.getElem_append_left hil]
          exact hfr h5
      · obtain rfl : i = l.length := by simp at h; omega
        refine ⟨v, ?_, ?_⟩
        · rw [Array.getElem?_push, if_pos hs.symm]
          simp
        · simpa using hfr hv
    · exact ⟨rfl, rfl, rfl, by simp, fun b _ hbn => (MapKept.heap_set hb).2 b (by simpa using hbn)⟩
  · exfalso
    obtain ⟨i, hil, hk', _, _⟩ := hkeys x (List.mem_of_getElem? h2)
    rw [hk'] at h3
    simp only [Value.int.injEq, true_and] at h3
    exact hn l[i] (List.getElem_mem hil) (by omega)

theorem wpList_insert_km {P : Program} {w : World} {ops : Array Oper} {rest : List Oper} {o : Oper} {a : Act} {Q : Exit → Act → World → Prop}
    (hg : o.guard = none) (m x y : Operand) (t : TypeId) (hop : o.op = Op.insert t m x y) {e kt : TypeId} (ht : P.underlying t = some (.map kt e)) (hk : P.underlying kt = some (.int .u8))
    {B : Nat} (hm : a.eval m = .map (some B)) {l : List KRow} (h : KM B l w) (r : KRow) (hx : a.eval x = .int .u8 (r.1 : Nat)) (v : Value) (hy : a.eval y = .agg #[.string ⟨r.2.1.toArray⟩, v])
    (hn : ∀ x ∈ l, x.1 ≠ r.1) (hv : HasAt B w v r.2.2)
    (hK : ∀ w', KM B (l ++ [r]) w' → Fr [B] w w' → wpList P ops Q rest (a.put o.dst undef) w') : wpList P ops Q (o :: rest) a w := by
  refine wpList_plain hg fun K hK' => ?_
  obtain ⟨w', hrun, r1, r2⟩ := run_update_km ht hk h r hn v hv
  unfold Oper.wp
  simp [execOp, hop, hm, hx, hy, hrun, Result.andThen]
  exact hK' _ _ (hK w' r1 r2)

/-- Both facts that the filling keeps: what the map holds, and that all that was there ahead of it is as it was. -/
def KMF (w0 : World) (l : List KRow) (w : World) : Prop := KM w0.heap.size l w ∧ Fr [] w0 w
theorem KMF.alloc {w0 w : World} {l : List KRow} (h : KMF w0 l w) (o : Obj) : KMF w0 l (w.alloc o) := ⟨h.1.alloc o, h.2.alloc o⟩
theorem KMF.made (w : World) : KMF w [] (w.alloc (.map #[] 0)) := ⟨KM.made w, (Fr.refl _ _).alloc _⟩
theorem wpList_insert_kmf {P : Program} {w : World} {ops : Array Oper} {rest : List Oper} {o : Oper} {a : Act} {Q : Exit → Act → World → Prop}
    (hg : o.guard = none) (m x y : Operand) (t : TypeId) (hop : o.op = Op.insert t m x y) {e kt : TypeId} (ht : P.underlying t = some (.map kt e)) (hk : P.underlying kt = some (.int .u8))
    {w0 : World} (hm : a.eval m = .map (some w0.heap.size)) {l : List KRow} (h : KMF w0 l w) (r : KRow) (hx : a.eval x = .int .u8 (r.1 : Nat)) (v : Value) (hy : a.eval y = .agg #[.string ⟨r.2.1.toArray⟩, v])
    (hn : ∀ x ∈ l, x.1 ≠ r.1) (hv : HasAt w0.heap.size w v r.2.2) (l' : List KRow) (hl : l' = l ++ [r])
    (hK : ∀ w', KMF w0 l' w' → wpList P ops Q rest (a.put o.dst undef) w') : wpList P ops Q (o :: rest) a w := by
  subst hl
  exact wpList_insert_km hg m x y t hop ht hk hm h.1 r hx v hy hn hv fun w' h1 h2 => hK w' ⟨h1, h.2.trans h2 (by simp)⟩
/-- The iterator r over the map B, which has met the rows numbered sn. -/
def IterAt (B r n : Nat) (sn : Array Nat) (w : World) : Prop := w.heap[r]? = some (.mapIter (some B) n sn n) ∧ sn.toList.Nodup ∧ ∀ i ∈ sn.toList, i < n

/-- A LOOK-UP: the row with that number, or none. -/
theorem run_lookup_km {P : Program} {w : World} {B : Nat} {l : List KRow} {t : TypeId} {e kt : TypeId} (ht : P.underlying t = some (.map kt e)) (hk : P.underlying kt = some (.int .u8))
    (h : KM B l w) (hd : (l.map (·.1)).Nodup) (hz : (zeroValue e).run P w = .ok (.agg #[.string ⟨#[]⟩, .slice none 0 0]) w) (d : Nat) :
    ∃ v, (Instr.lookup t (.map (some B)) (.int .u8 d) true).run P w = .ok (.tuple #[.agg #[.string ⟨((l.find? (·.1 == d)).getD (0, [], [])).2.1.toArray⟩, v], .bool (l.find? (·.1 == d)).isSome]) w ∧
      HasAt B w v ((l.find? (·.1 == d)).getD (0, [], [])).2.2 := by
  obtain ⟨es, hb, hs, hi⟩ := h
  have hkeys := km_keys hs hi
  have hik : MapKept.IsKey (.int .u8) (.int .u8 (d : Nat)) := by simp [MapKept.IsKey]
  have hks : ∀ x ∈ es.toList, MapKept.IsKey (.int .u8) x.key := by
    intro x hx
    obtain ⟨i, _, hk', _⟩ := hkeys x hx
    rw [hk']; simp [MapKept.IsKey]
  rcases MapKept.findNow_spec hik es.toList 0 hks with ⟨h1, h1'⟩ | ⟨j, x, h1, h2, h3⟩
  · have hnone : l.find? (·.1 == d) = none := by
      rw [List.find?_eq_none]
      intro y hy
      obtain ⟨i, hil, rfl⟩ := List.getElem_of_mem hy
      obtain ⟨v, h4, _⟩ := hi i hil
      have := h1' _ (Array.mem_toList_iff.2 (Array.mem_of_getElem? h4))
      simpa using fun e => this (by rw [e])
    refine ⟨.slice none 0 0, ?_, .inl ⟨by rw [hnone]; rfl, rfl⟩⟩
    rw [hnone]
    simp [Instr.lookup, run_underlying ht, MapKept.run_getObj_map hb, MapKept.run_checkKey hk hik, MapKept.run_findKey hk h1, hz, Result.andThen]
  · obtain ⟨i, hil, hk', _, hxi⟩ := hkeys x (List.mem_of_getElem? h2)
    obtain ⟨v, h4, h5⟩ := hi i hil
    have hx : x = ⟨.int .u8 (l[i].1 : Nat), .agg #[.string ⟨l[i].2.1.toArray⟩, v], i⟩ := by
      rw [hxi] at h4; exact Option.some.inj h4
    have hdi : l[i].1 = d := by
      rw [hk'] at h3
      simp only [Value.int.injEq, true_and] at h3
      omega
    have hsome : l.find? (·.1 == d) = some l[i] := by
      rw [List.find?_eq_some_iff_getElem]
      refine ⟨by simp [hdi], i, hil, rfl, fun k hki => ?_⟩
      have hne : (l.map (·.1))[k]'(by simp; omega) ≠ (l.map (·.1))[i]'(by simpa using hil) := (List.nodup_iff_pairwise_ne.1 hd |> List.pairwise_iff_getElem.1) k i (by simp; omega) (by simpa using hil) hki
      simp only [List.getElem_map] at hne
      rw [hdi] at hne
      simpa using hne
    refine ⟨v, ?_, by rw [hsome]; exact h5⟩
    rw [hsome]
    subst hx
    simp [Instr.lookup, run_underlying ht, MapKept.run_getObj_map hb, MapKept.run_checkKey hk hik, MapKept.run_findKey hk h1, Result.andThen]

theorem wpList_makeMap_kmf {P : Program} {w : World} {ops : Array Oper} {rest : List Oper} {o : Oper} {a : Act} {Q : Exit → Act → World → Prop}
    (hg : o.guard = none) (t : TypeId) (hop : o.op = Op.makeMap t none)
    (hK : ∀ w', KMF w [] w' → wpList P ops Q rest (a.put o.dst (.map (some w.heap.size))) w') : wpList P ops Q (o :: rest) a w := by
  refine wpList_plain hg fun K hK' => ?_
  unfold Oper.wp
  simp [execOp, hop, run_makeMap, Result.andThen]
  exact hK' _ _ (hK _ (KMF.made w))
end Go.Proofs.YtcaeppncippknaaGreatDoor
/- A look-up in the map of kinds, in any world that has the same map. Conditions: none. -/
namespace Go.Proofs.YtcaeppncippknaaGreatDoor
open Go.RowKit

/-- A LOOK-UP: the row with that number, or none. -/
theorem run_lookup_km2 {P : Program} {w : World} {B : Nat} {l : List KRow} {t : TypeId} {e kt : TypeId} (ht : P.underlying t = some (.map kt e)) (hk : P.underlying kt = some (.int .u8))
    (h : KM B l w) (hd : (l.map (·.1)).Nodup) (hz : ∀ w', (zeroValue e).run P w' = .ok (.agg #[.string ⟨#[]⟩, .slice none 0 0]) w') (d : Nat) :
    ∃ v, (∀ w' : World, w'.heap[B]? = w.heap[B]? → (Instr.lookup t (.map (some B)) (.int .u8 d) true).run P w' = .ok (.tuple #[.agg #[.string ⟨((l.find? (·.1 == d)).getD (0, [], [])).2.1.toArray⟩, v], .bool (l.find? (·.1 == d)).isSome]) w') ∧
      HasAt B w v ((l.find? (·.1 == d)).getD (0, [], [])).2.2 := by
  obtain ⟨es, hb, hs, hi⟩ := h
  have hkeys := km_keys hs hi
  have hik : MapKept.IsKey (.int .u8) (.int .u8 (d : Nat)) := by simp [MapKept.IsKey]
  have hks : ∀ x ∈ es.toList, MapKept.IsKey (.int .u8) x.key := by
    intro x hx
    obtain ⟨i, _, hk', _⟩ := hkeys x hx
    rw [hk']; simp [MapKept.IsKey]
  rcases MapKept.findNow_spec hik es.toList 0 hks with ⟨h1, h1'⟩ | ⟨j, x, h1, h2, h3⟩
  · have hnone : l.find? (·.1 == d) = none := by
      rw [List.find?_eq_none]
      intro y hy
      obtain ⟨i, hil, rfl⟩ := List.getElem_of_mem hy
      obtain ⟨v, h4, _⟩ := hi i hil
      have := h1' _ (Array.mem_toList_iff.2 (Array.mem_of_getElem? h4))
      simpa using fun e => this (by rw [e])
    refine ⟨.slice none 0 0, ?_, .inl ⟨by rw [hnone]; rfl, rfl⟩⟩
    intro w' hw'
    rw [hb] at hw'
    rw [hnone]
    simp [Instr.lookup, run_underlying ht, MapKept.run_getObj_map hw', MapKept.run_checkKey hk hik, MapKept.run_findKey hk h1, hz, Result.andThen]
  · obtain ⟨i, hil, hk', _, hxi⟩ := hkeys x (List.mem_of_getElem? h2)
    obtain ⟨v, h4, h5⟩ := hi i hil
    have hx : x = ⟨.int .u8 (l[i].1 : Nat), .agg #[.string ⟨l[i].2.1.toArray⟩, v], i⟩ := by
      rw [hxi] at h4; exact Option.some.inj h4
    have hdi : l[i].1 = d := by
      rw [hk'] at h3
      simp only [Value.int.injEq, true_and] at h3
      omega
    have hsome : l.find? (·.1 == d) = some l[i] := by
      rw [List.find?_eq_some_iff_getElem]
      refine ⟨by simp [hdi], i, hil, rfl, fun k hki => ?_⟩
      have hne : (l.map (·.1))[k]'(by simp; omega) ≠ (l.map (·.1))[i]'(by simpa using hil) := (List.nodup_iff_pairwise_ne.1 hd |> List.pairwise_iff_getElem.1) k i (by simp; omega) (by simpa using hil) hki
      simp only [List.getElem_map] at hne
      rw [hdi] at hne
      simpa using hne
    refine ⟨v, ?_, by rw [hsome]; exact h5⟩
    intro w' hw'
    rw [hb] at hw'
    rw [hsome]
    subst hx
    simp [Instr.lookup, run_underlying ht, MapKept.run_getObj_map hw', MapKept.run_checkKey hk hik, MapKept.run_findKey hk h1, Result.andThen]
end Go.Proofs.YtcaeppncippknaaGreatDoor
/- The range over the map of kinds: what each step of the iterator does, in whatever order. Conditions: none. -/
namespace Go.Proofs.YtcaeppncippknaaGreatDoor
open Go.RowKit
open Go.ChangeMaps (setBlock)

theorem run_range_km {P : Program} {w : World} {B : Nat} {l : List KRow} {t : TypeId} {e kt : TypeId} (ht : P.underlying t = some (.map kt e)) (h : KM B l w) :
    (Instr.range t (.map (some B))).run P w = .ok (.pointer (some ⟨w.heap.size, 0, none⟩)) (w.alloc (.mapIter (some B) l.length #[] l.length)) := by
  obtain ⟨es, hb, hs, hi⟩ := h
  exact run_range_map w t kt e B es l.length ht hb

theorem IterAt.made {B : Nat} (w : World) (n : Nat) : IterAt B w.heap.size n #[] (w.alloc (.mapIter (some B) n #[] n)) := ⟨(MapKept.heap_alloc w _).1, by simp, by simp⟩
theorem IterAt.fr {M : List Nat} {B r n : Nat} {sn : Array Nat} {w w' : World} (h : IterAt B r n sn w) (hf : Fr M w w') (hM : r ∉ M) : IterAt B r n sn w' := ⟨hf.blockAs h.1 hM, h.2⟩
theorem IterAt.lt {B r n : Nat} {sn : Array Nat} {w : World} (h : IterAt B r n sn w) : r < w.heap.size := lt_of_block h.1
theorem nodup_lt_length : ∀ (n : Nat) (l : List Nat), l.Nodup → (∀ i ∈ l, i < n) → l.length ≤ n
  | 0, l, _, h => by
    cases l with
    | nil => simp
    | cons x r => exact absurd (h x (by simp)) (by omega)
  | n + 1, l, hn, h => by
    have h1 := nodup_lt_length n (l.erase n) (hn.erase n) (fun i hi => by
      have h2 := (hn.mem_erase_iff.1 hi)
      have := h i h2.2
      have := h2.1
      omega)
    have h3 := List.length_erase (a := n) (l := l)
    split at h3 <;> omega
theorem IterAt.size_le {B r n : Nat} {sn : Array Nat} {w : World} (h : IterAt B r n sn w) : sn.size ≤ n := by
  have := nodup_lt_length n sn.toList h.2.1 h.2.2
  simpa using this

theorem km_born {B : Nat} {l : List KRow} {w : World} {es : Array MapEntry} (hs : es.size = l.length)
    (hi : ∀ i (h : i < l.length), ∃ v, es[i]? = some ⟨.int .u8 (l[i].1 : Nat), .agg #[.string ⟨l[i].2.1.toArray⟩, v], i⟩ ∧ HasAt B w v l[i].2.2) :
    es.toList.map (·.born) = List.range l.length := by
  apply List.ext_getElem
  · simp [hs]
  · intro i h1 h2
    have hil : i < l.length := by simpa using h2
    obtain ⟨v, h3, _⟩ := hi i hil
    rw [Array.getElem?_eq_some_iff] at h3
    obtain ⟨h4, h3⟩ := h3
    simp [h3]

/-- A STEP: nothing is left, or some row that has not been met is met. -/
theorem run_next_km {P : Program} {w : World} {B r : Nat} {l : List KRow} {sn : Array Nat} (ty : TypeId) (h : KM B l w) (hr : IterAt B r l.length sn w) (hBr : B < r) :
    ((∀ i, i < l.length → i ∈ sn.toList) ∧ (Instr.next (.pointer (some ⟨r, 0, none⟩)) false ty).run P w = .ok (.tuple #[.bool false]) w) ∨
    ∃ i, i < l.length ∧ i ∉ sn.toList ∧ ∃ k v w', (Instr.next (.pointer (some ⟨r, 0, none⟩)) false ty).run P w = .ok (.tuple #[.bool true, k, v]) w' ∧ KM B l w' ∧ IterAt B r l.length (sn.push i) w' ∧ Fr [r] w w' := by
  have hkm := h
  obtain ⟨es, hb, hs, hi⟩ := h
  have hit0 := hr
  obtain ⟨hit, hnd, hlt⟩ := hr
  have hkeys := km_keys hs hi
  rcases run_next_at (P := P) w ty r B l.length l.length sn es l.length hit hb (fun x hx => by obtain ⟨i, hil, _, hb', _⟩ := hkeys x hx; omega) (Nat.le_refl _) with ⟨h1, h2⟩ | ⟨x, hx, w1, hw1, h2⟩
  · refine .inl ⟨fun i hil => ?_, h2⟩
    obtain ⟨v, h3, _⟩ := hi i hil
    have h4 := Array.size_eq_zero_iff.1 h1
    unfold leftOf at h4
    rw [Array.filter_eq_empty_iff] at h4
    have := h4 _ (Array.mem_of_getElem? h3)
    simpa using this
  · right
    have hx' : x ∈ es.toList ∧ x.born ∉ sn := by simpa [leftOf] using hx
    obtain ⟨i, hil, hk, hbo, hxi⟩ := hkeys x hx'.1
    have hfr : Fr [r] w (setBlock w1 r (.mapIter (some B) l.length (sn.push x.born) l.length)) := by
      have hset := MapKept.heap_set (w := w) (r := r) (o' := .mapIter (some B) l.length (sn.push x.born) l.length) hit
      rcases hw1 with rfl | rfl <;> exact ⟨rfl, rfl, rfl, by simp [setBlock], fun b _ hn => hset.2 b (by simpa using hn)⟩
    refine ⟨i, hil, by rw [← hbo]; simpa using hx'.2, _, _, _, h2, ?_, ?_, hfr⟩
    · refine ⟨es, hfr.blockAs hb (by simp; omega), hs, fun j hj => ?_⟩
      obtain ⟨v, h3, h4⟩ := hi j hj
      refine ⟨v, h3, ?_⟩
      rcases h4 with h4 | ⟨b, hb', hv, hc⟩
      · exact .inl h4
      · exact .inr ⟨b, hb', hv, hfr.blockAs hc (fun hm => by
          obtain rfl : b = r := by simpa using hm
          rw [hit] at hc; simp at hc)⟩
    · have hset := MapKept.heap_set (w := w) (r := r) (o' := .mapIter (some B) l.length (sn.push x.born) l.length) hit
      subst hbo
      refine ⟨?_, ?_, ?_⟩
      · rcases hw1 with rfl | rfl <;> exact hset.1
      · simp only [Array.toList_push]
        rw [List.nodup_append]
        exact ⟨hnd, by simp, fun a ha b hb' => by
          obtain rfl : b = x.born := by simpa using hb'
          intro e; subst e; exact hx'.2 (by simpa using ha)⟩
      · intro j hj
        simp only [Array.toList_push, List.mem_append, List.mem_singleton] at hj
        rcases hj with hj | rfl
        · exact hlt j hj
        · exact hil

/-- The round's key and value. -/
theorem run_entry_km {P : Program} {w : World} {B r : Nat} {l : List KRow} {sn : Array Nat} {i : Nat} (h : KM B l w) (hr : IterAt B r l.length (sn.push i) w) (hil : i < l.length) :
    ∃ v, (Instr.entry (.pointer (some ⟨r, 0, none⟩))).run P w = .ok (.tuple #[.int .u8 (l[i].1 : Nat), .agg #[.string ⟨l[i].2.1.toArray⟩, v]]) w ∧ HasAt B w v l[i].2.2 := by
  obtain ⟨es, hb, hs, hi⟩ := h
  obtain ⟨v, h3, h4⟩ := hi i hil
  exact ⟨v, run_entry_at w r B l.length sn es l.length ⟨.int .u8 (l[i].1 : Nat), .agg #[.string ⟨l[i].2.1.toArray⟩, v], i⟩ hr.1 hb (by simpa using Array.mem_of_getElem? h3) (by rw [km_born hs hi]; exact List.nodup_range), h4⟩

theorem wpList_range_km {P : Program} {w : World} {ops : Array Oper} {rest : List Oper} {o : Oper} {a : Act} {Q : Exit → Act → World → Prop}
    (hg : o.guard = none) (x : Operand) (t : TypeId) (hop : o.op = Op.range t x) {e kt : TypeId} (ht : P.underlying t = some (.map kt e)) {B : Nat} {l : List KRow} (hx : a.eval x = .map (some B)) (h : KM B l w)
    (hK : ∀ w', w' = w.alloc (.mapIter (some B) l.length #[] l.length) → wpList P ops Q rest (a.put o.dst (.pointer (some ⟨w.heap.size, 0, none⟩))) w') : wpList P ops Q (o :: rest) a w := by
  refine wpList_plain hg fun K hK' => ?_
  unfold Oper.wp
  simp [execOp, hop, hx, run_range_km ht h, Result.andThen]
  exact hK' _ _ (hK _ rfl)
theorem wpList_next_km {P : Program} {w : World} {ops : Array Oper} {rest : List Oper} {o : Oper} {a : Act} {Q : Exit → Act → World → Prop}
    (hg : o.guard = none) (x : Operand) (hop : o.op = Op.next x false) {B r : Nat} {l : List KRow} {sn : Array Nat} (hx : a.eval x = .pointer (some ⟨r, 0, none⟩)) (h : KM B l w) (hr : IterAt B r l.length sn w) (hBr : B < r)
    (h0 : (∀ i, i < l.length → i ∈ sn.toList) → wpList P ops Q rest (a.put o.dst (.tuple #[.bool false])) w)
    (h1 : ∀ i, i < l.length → i ∉ sn.toList → ∀ k v w', KM B l w' → IterAt B r l.length (sn.push i) w' → Fr [r] w w' → wpList P ops Q rest (a.put o.dst (.tuple #[.bool true, k, v])) w') : wpList P ops Q (o :: rest) a w := by
  refine wpList_plain hg fun K hK' => ?_
  unfold Oper.wp
  rcases run_next_km (P := P) o.type h hr hBr with ⟨ha, hrun⟩ | ⟨i, hi, hin, k, v, w', hrun, r1, r2, r3⟩
  · simp [execOp, hop, hx, hrun, Result.andThen]
    exact hK' _ _ (h0 ha)
  · simp [execOp, hop, hx, hrun, Result.andThen]
    exact hK' _ _ (h1 i hi hin k v w' r1 r2 r3)
theorem wpList_entry_km {P : Program} {w : World} {ops : Array Oper} {rest : List Oper} {o : Oper} {a : Act} {Q : Exit → Act → World → Prop}
    (hg : o.guard = none) (x : Operand) (hop : o.op = Op.entry x) {B r : Nat} {l : List KRow} {sn : Array Nat} {i : Nat} (hx : a.eval x = .pointer (some ⟨r, 0, none⟩)) (h : KM B l w) (hr : IterAt B r l.length (sn.push i) w) (hil : i < l.length)
    (hK : ∀ v, HasAt B w v l[i].2.2 → wpList P ops Q rest (a.put o.dst (.tuple #[.int .u8 (l[i].1 : Nat), .agg #[.string ⟨l[i].2.1.toArray⟩, v]])) w) : wpList P ops Q (o :: rest) a w := by
  refine wpList_plain hg fun K hK' => ?_
  unfold Oper.wp
  obtain ⟨v, hrun, hv⟩ := run_entry_km (P := P) h hr hil
  simp [execOp, hop, hx, hrun, Result.andThen]
  exact hK' _ _ (hK v hv)
end Go.Proofs.YtcaeppncippknaaGreatDoor
