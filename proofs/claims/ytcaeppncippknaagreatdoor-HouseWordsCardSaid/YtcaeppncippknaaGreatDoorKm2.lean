/- A look-up in the map of kinds, in any world that has the same map. Conditions: none. -/
import Derived.Test.YtcaeppncippknaaGreatDoorKm
namespace Go.Proofs.YtcaeppncippknaaGreatDoor
open Go.RowKit

/-- A LOOK-UP: the row with that number, or none. -/
theorem run_lookup_km2 {P : Program} {w : World} {B : Nat} {l : List KRow} {t : TypeId} {e kt : TypeId} (ht : P.underlying t = some (.map kt e)) (hk : P.underlying kt = some (.int .u8))
    (h : KM B l w) (hd : (l.map (·.1)).Nodup) (hz : ∀ w', (zeroValue e).run P w' = .ok (.agg #[.string ⟨#[]⟩, .slice none 0 0]) w') (d : Nat) :
    ∃ v, (∀ w' : World, w'.heap[B]? = w.heap[B]? → (Instr.lookup t (.map (some B)) (.int .u8 d) true).run P w' = .ok (.tuple #[.agg #[.string ⟨((l.find? (·.1 == d)).getD (0, [], [])).2.1.toArray⟩, v], .bool (l.find? (·.1 == d)).isSome]) w') ∧
      HasAt B w v ((l.find? (·.1 == d)).getD (0, [], [])).2.2 := by
  obtain ⟨es, hb, hs, hi⟩ := h
  have hkeys := km_keys hs hi
  have hik : MapKept.IsKey (.int .u8) (.int .u8 (d : Nat)) := by simp [MapKept.IsKey]
  have hks : ∀ x ∈ es.toList, MapKept.IsKey (.int .u8) x.key := by
    intro x hx
    obtain ⟨i, _, hk', _⟩ := hkeys x hx
    rw [hk']; simp [MapKept.IsKey]
  rcases MapKept.findNow_spec hik es.toList 0 hks with ⟨h1, h1'⟩ | ⟨j, x, h1, h2, h3⟩
  · have hnone : l.find? (·.1 == d) = none := by
      rw [List.find?_eq_none]
      intro y hy
      obtain ⟨i, hil, rfl⟩ := List.getElem_of_mem hy
      obtain ⟨v, h4, _⟩ := hi i hil
      have := h1' _ (Array.mem_toList_iff.2 (Array.mem_of_getElem? h4))
      simpa using fun e => this (by rw [e])
    refine ⟨.slice none 0 0, ?_, .inl ⟨by rw [hnone]; rfl, rfl⟩⟩
    intro w' hw'
    rw [hb] at hw'
    rw [hnone]
    simp [Instr.lookup, run_underlying ht, MapKept.run_getObj_map hw', MapKept.run_checkKey hk hik, MapKept.run_findKey hk h1, hz, Result.andThen]
  · obtain ⟨i, hil, hk', _, hxi⟩ := hkeys x (List.mem_of_getElem? h2)
    obtain ⟨v, h4, h5⟩ := hi i hil
    have hx : x = ⟨.int .u8 (l[i].1 : Nat), .agg #[.string ⟨l[i].2.1.toArray⟩, v], i⟩ := by
      rw [hxi] at h4; exact Option.some.inj h4
    have hdi : l[i].1 = d := by
      rw [hk'] at h3
      simp only [Value.int.injEq, true_and] at h3
      omega
    have hsome : l.find? (·.1 == d) = some l[i] := by
      rw [List.find?_eq_some_iff_getElem]
      refine ⟨by simp [hdi], i, hil, rfl, fun k hki => ?_⟩
      have hne : (l.map (·.1))[k]'(by simp; omega) ≠ (l.map (·.1))[i]'(by simpa using hil) := (List.nodup_iff_pairwise_ne.1 hd |> List.pairwise_iff_getElem.1) k i (by simp; omega) (by simpa using hil) hki
      simp only [List.getElem_map] at hne
      rw [hdi] at hne
      simpa using hne
    refine ⟨v, ?_, by rw [hsome]; exact h5⟩
    intro w' hw'
    rw [hb] at hw'
    rw [hsome]
    subst hx
    simp [Instr.lookup, run_underlying ht, MapKept.run_getObj_map hw', MapKept.run_checkKey hk hik, MapKept.run_findKey hk h1, Result.andThen]
end Go.Proofs.YtcaeppncippknaaGreatDoor
