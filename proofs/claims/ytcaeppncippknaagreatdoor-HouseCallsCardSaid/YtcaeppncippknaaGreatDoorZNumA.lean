/- strconv.FormatUint at base 10 for every uint64; the world's package variables that the numerals lean on. Conditions: the table of powers is as the library's text lays it. -/
import Derived.Test.YtcaeppncippknaaGreatDoorProg
import Derived.Test.YtcaeppncippknaaGreatDoorZShelf
import Derived.Test.YtcaeppncippknaaGreatDoorZBaseA
import Derived.Lib.ItoaMem
import Derived.Lib.AppendIntMem
namespace Go.Proofs.YtcaeppncippknaaGreatDoor
open Go Go.RowKit Go.Sort

/-- What the package variables hold that the calls lean on. -/
structure Env (w : World) : Prop where
  size : 8 ≤ w.heap.size
  syn : ∃ te pe, w.cell? ⟨0, 0, none⟩ = some (.iface te pe)
  rng : ∃ te pe, w.cell? ⟨1, 0, none⟩ = some (.iface te pe)
  pow : Lib.TabIs Tryz.prog w "internal/strconv.uint64pow10" .u64 Lib.pow10Tab
  len : ∃ m, w.cell? ⟨3, 0, none⟩ = some (.int .i64 m)
theorem powNamed : Tryz.prog.globalNamed "internal/strconv.uint64pow10" = some 2 := by kernel_rfl
theorem Env.of_blocks {w w' : World} (h : Env w) (hs : w.heap.size ≤ w'.heap.size) (hb : ∀ k, k < 8 → w'.heap[k]? = w.heap[k]?) : Env w' := by
  obtain ⟨h1, ⟨a, b, h2⟩, ⟨c, d, h3⟩, h4, ⟨m, h5⟩⟩ := h
  refine ⟨by omega, ⟨a, b, ?_⟩, ⟨c, d, ?_⟩, ?_, ⟨m, ?_⟩⟩
  · rw [World.cell?_of_block (w := w) (hb _ (by decide))]; exact h2
  · rw [World.cell?_of_block (w := w) (hb _ (by decide))]; exact h3
  · unfold Lib.TabIs World.var? at h4 ⊢
    rw [powNamed] at h4 ⊢
    simp only [Option.bind_some] at h4 ⊢
    rw [hb _ (by decide)]
    exact h4
  · rw [World.cell?_of_block (w := w) (hb _ (by decide))]; exact h5
theorem Env.fr {M : List Nat} {w w' : World} (h : Env w) (hf : Fr M w w') (hM : ∀ k ∈ M, 8 ≤ k) : Env w' :=
  h.of_blocks hf.size fun k hk => hf.block k (by have := h.size; omega) (fun hm => by have := hM k hm; omega)

theorem Fr.of_growN (w : World) (k : Nat) (os : Array Obj) : Fr [] w (grow (w.drewN k) os) :=
  ⟨rfl, rfl, rfl, by simp [grow, World.drewN], fun b hb _ => by
    show (w.heap ++ os)[b]? = _
    rw [Array.getElem?_append_left hb]⟩

set_option maxRecDepth 100000 in
theorem formatUint_in (u : Nat) (hu64 : u < 18446744073709551616) (w : World) (henv : Env w) :
    Calls Tryz.prog 83 #[.int .u64 u, .int .i64 10] w fun e w' => e = .returned (.string ⟨(Lib.decDigits u).toArray⟩) ∧ Fr [] w w' := by
  by_cases hs : u < 100
  · go_enter Tryz.func83, Tryz.ntmps83
    go_wp2_with (go_at_call 100; refine (Tryz.internal_strconv_small u hs _).mono ?_; rintro e w' ⟨rfl, rfl⟩)
    go_ret
    exact ⟨rfl, Fr.refl _ _⟩
  · have hu1 : 1 ≤ u := by omega
    have hnd20 : Lib.nDigits u ≤ 20 := by have := Lib.numDigits_eq u hu1 hu64; split at this <;> omega
    have hal : Tryz.prog.arrayLen 140 = 24 := by kernel_rfl
    have hsl : ∀ W, (Instr.sliceAt 140 (.pointer (some ⟨w.heap.size, 0, none⟩)) none (some (.int .i64 (Lib.nDigits u : Int))) none).run Tryz.prog W = .ok (.slice (some ⟨w.heap.size, 0, none⟩) (Lib.nDigits u) 24) W := fun W => by
      rw [run_sliceAt_array_h W 140 ⟨w.heap.size, 0, none⟩ (by kernel_rfl) .i64 (Lib.nDigits u : Int) (by omega) (by rw [hal]; omega)]
      go_simp
    have hH0 := Lib.holds_zero0 w 140 (Lib.nDigits u) (by omega)
    have hfmt := Tryz.internal_strconv_formatBase10 w.heap.size 0 24 u (Array.replicate (Lib.nDigits u) 0) (w.alloc (.cells Lib.zeros24 140)) hH0 (by rw [Array.size_replicate]; exact Lib.lt_pow_nDigits u) hu64 (by rw [Array.size_replicate]; omega)
    rw [Array.size_replicate] at hfmt
    have HH0 := Lib.hid hH0
    have HF := Lib.hid hfmt
    clear hH0 hal hfmt
    go_enter Tryz.func83, Tryz.ntmps83
    go_wp2_with (go_at_call 101; refine (Tryz.internal_strconv_numDigits u hu1 hu64 _ (Lib.tabIs_alloc henv.pow _)).mono ?_; rintro e w' ⟨rfl, rfl⟩)
    go_at_call 102
    refine HF.out.mono ?_
    rintro e w' ⟨rfl, k, v', dk, rfl, hF⟩
    have hcv : (convert 61 9 (.slice (some ⟨w.heap.size, 0, none⟩) (Lib.nDigits u) 24)).run Tryz.prog ((putRow (fun (b : UInt8) => Value.int .u8 (b.toNat : Int)) (w.alloc (.cells Lib.zeros24 140)) w.heap.size 0 dk).drewN k) = .ok (.string ⟨(Lib.decDigits u).toArray⟩) ((putRow (fun (b : UInt8) => Value.int .u8 (b.toNat : Int)) (w.alloc (.cells Lib.zeros24 140)) w.heap.size 0 dk).drewN k) := by
      have h := run_convert_bytes_back (P := Tryz.prog) ((putRow (fun (b : UInt8) => Value.int .u8 (b.toNat : Int)) (w.alloc (.cells Lib.zeros24 140)) w.heap.size 0 dk).drewN k) 61 9 5 ⟨w.heap.size, 0, none⟩ 24 (Lib.decDigits u) Tryz.underlying61 Tryz.underlying5 Tryz.underlying9 (fun j hj => by
        rw [Lib.row_is_numeral hF j hj, Lib.add_plain, World.cell?_drewN]
        exact cell?_putRow (fun (b : UInt8) => Value.int .u8 (b.toNat : Int)) _ w.heap.size 0 _ dk HH0.out (by rw [hF.size, Array.size_replicate]) j (by rw [hF.size]; rw [Lib.decDigits_length] at hj; exact hj))
      rw [Lib.decDigits_length] at h
      exact h
    go_wp2
    go_ret
    obtain ⟨os, eo⟩ := Lib.fin_at w (.cells Lib.zeros24 140) dk k 0
    refine ⟨rfl, ?_⟩
    rw [eo]
    exact Fr.of_growN w k os

theorem formatUint_calls (u : Nat) (hu64 : u < 18446744073709551616) (w : World) (henv : Env w) :
    Calls Tryz.prog 58 #[.int .u64 u, .int .i64 10] w fun e w' => e = .returned (.string (bs (Lib.decDigits u))) ∧ Fr [] w w' := by
  go_enter Tryz.func58, Tryz.ntmps58
  go_wp2_with (go_at_call 83; refine (formatUint_in u hu64 _ henv).mono ?_; rintro e w' ⟨rfl, hf⟩)
  go_ret
  exact ⟨rfl, hf⟩
theorem itoa_calls (n : Int) (h0 : -9223372036854775808 ≤ n) (h1 : n ≤ 9223372036854775807) (w : World) (henv : Env w) :
    Calls Tryz.prog 57 #[.int .i64 n] w fun e w' => e = .returned (.string (bs (Lib.itoa n))) ∧ Fr [] w w' :=
  (Tryz.strconv_Itoa n h0 h1 w henv.pow).mono fun e w' ⟨h1, k, os, h2⟩ => ⟨h1, by rw [h2]; exact Fr.of_growN w k os⟩

/-- What strconv.ParseUint at base 10 makes of a text: the number, and whether it is one. -/
def pU (l : List UInt8) : Nat := match Lib.parseUintB 64 l with | .ok u => u | .range => 18446744073709551615 | _ => 0
def pUok (l : List UInt8) : Bool := match Lib.parseUintB 64 l with | .ok _ => true | _ => false
theorem pU_lt (l : List UInt8) : pU l < 18446744073709551616 := by
  unfold pU
  split
  · have := Lib.parseUintB_le (by assumption); omega
  · omega
  · omega
/-- What strconv.Atoi makes of a text. -/
def pI (l : List UInt8) : Int := match Lib.atoiAll l with | .ok u => u | .range => Lib.atoiSat l | _ => 0
def pIok (l : List UInt8) : Bool := match Lib.atoiAll l with | .ok _ => true | _ => false
theorem pI_ge (l : List UInt8) : -9223372036854775808 ≤ pI l := by
  unfold pI
  split
  · exact (Lib.atoiAll_bounds (by assumption)).1
  · unfold Lib.atoiSat; split <;> omega
  · omega
theorem pI_le (l : List UInt8) : pI l ≤ 9223372036854775807 := by
  unfold pI
  split
  · exact (Lib.atoiAll_bounds (by assumption)).2
  · unfold Lib.atoiSat; split <;> omega
  · omega
/-- An error's value: nil just if all is well. -/
def ErrIs (ok : Bool) (ev : Value) : Prop := if ok then ev = .nilIface else ∃ t p, ev = .iface t p
theorem parseUint_calls (l : List UInt8) (hl : l.length ≤ 281474976710656) (w : World) (henv : Env w) :
    Calls Tryz.prog 28 #[.string (bs l), .int .i64 10, .int .i64 64] w fun e w' => ∃ ev, e = .returned (.tuple #[.int .u64 (pU l : Nat), ev]) ∧ ErrIs (pUok l) ev ∧ Fr [] w w' := by
  have hz : (bs l).size ≤ 281474976710656 := by rw [bs_size]; exact hl
  obtain ⟨te, pe, hsy⟩ := henv.syn
  obtain ⟨tr, pr, hrg⟩ := henv.rng
  cases h : Lib.parseUintB 64 (bs l).data.toList with
  | ok u =>
    have h' := h
    rw [bs_toList] at h'
    refine (Tryz.strconv_ParseUint_10_at64_ok (bs l) (by omega) u h w).mono fun e w' ⟨h1, h2⟩ => ⟨.nilIface, ?_, ?_, ?_⟩
    · rw [h1, show pU l = u by unfold pU; rw [h']]
    · rw [show pUok l = true by unfold pUok; rw [h']]; rfl
    · rcases h2 with rfl | rfl
      · exact Fr.refl _ _
      · exact fr_bytesWorld _ _ _
  | range =>
    have h' := h
    rw [bs_toList] at h'
    refine (Tryz.strconv_ParseUint_10_at64_range (bs l) hz h _ w hrg (.inr ⟨_, _, rfl⟩)).mono ?_
    rintro e w' ⟨n, rfl, h2, h3, h4⟩
    have e1 : pU l = 18446744073709551615 := by unfold pU; rw [h']
    have e2 : pUok l = false := by unfold pUok; rw [h']
    rw [e1, e2]
    exact ⟨_, rfl, ⟨_, _, rfl⟩, Fr.of_below h4⟩
  | _ =>
    have h' := h
    rw [bs_toList] at h'
    refine (Tryz.strconv_ParseUint_10_at64_syntax (bs l) hz h _ w hsy (.inr ⟨_, _, rfl⟩)).mono ?_
    rintro e w' ⟨n, rfl, h2, h3, h4⟩
    have e1 : pU l = 0 := by unfold pU; rw [h']
    have e2 : pUok l = false := by unfold pUok; rw [h']
    rw [e1, e2]
    exact ⟨_, rfl, ⟨_, _, rfl⟩, Fr.of_below h4⟩
theorem atoi_calls (l : List UInt8) (hl : l.length ≤ 281474976710656) (w : World) (henv : Env w) :
    Calls Tryz.prog 81 #[.string (bs l)] w fun e w' => ∃ ev, e = .returned (.tuple #[.int .i64 (pI l), ev]) ∧ ErrIs (pIok l) ev ∧ Fr [] w w' := by
  have hz : (bs l).size ≤ 281474976710656 := by rw [bs_size]; exact hl
  obtain ⟨te, pe, hsy⟩ := henv.syn
  obtain ⟨tr, pr, hrg⟩ := henv.rng
  cases h : Lib.atoiAll (bs l).data.toList with
  | ok u =>
    have h' := h
    rw [bs_toList] at h'
    refine (Tryz.strconv_Atoi_ok (bs l) (by omega) u h w).mono fun e w' ⟨h1, h2⟩ => ⟨.nilIface, ?_, ?_, ?_⟩
    · rw [h1, show pI l = u by unfold pI; rw [h']]
    · rw [show pIok l = true by unfold pIok; rw [h']]; rfl
    · rcases h2 with rfl | ⟨t, rfl⟩
      · exact Fr.refl _ _
      · exact fr_bytesWorld _ _ _
  | range =>
    have h' := h
    rw [bs_toList] at h'
    refine (Tryz.strconv_Atoi_range (bs l) hz h _ w hrg (.inr ⟨_, _, rfl⟩)).mono ?_
    rintro e w' ⟨n, rfl, h2, h3, h4⟩
    have e1 : pI l = Lib.atoiSat l := by unfold pI; rw [h']
    have e2 : pIok l = false := by unfold pIok; rw [h']
    rw [e1, e2, bs_toList]
    exact ⟨_, rfl, ⟨_, _, rfl⟩, Fr.of_below h4⟩
  | _ =>
    have h' := h
    rw [bs_toList] at h'
    refine (Tryz.strconv_Atoi_syntax (bs l) hz h _ w hsy (.inr ⟨_, _, rfl⟩)).mono ?_
    rintro e w' ⟨n, rfl, h2, h3, h4⟩
    have e1 : pI l = 0 := by unfold pI; rw [h']
    have e2 : pIok l = false := by unfold pIok; rw [h']
    rw [e1, e2]
    exact ⟨_, rfl, ⟨_, _, rfl⟩, Fr.of_below h4⟩
end Go.Proofs.YtcaeppncippknaaGreatDoor
/- The contract of hoardlaw31.alive, as a premise (Alive). Conditions: none. -/
namespace Go.Proofs.YtcaeppncippknaaGreatDoor
open Go Go.RowKit
def AliveAt : Prop := ∀ w : World, Env w → Calls Tryz.prog 7 #[] w fun e w' => e = .returned (.bool true) ∧ Fr [] w w'
end Go.Proofs.YtcaeppncippknaaGreatDoor
