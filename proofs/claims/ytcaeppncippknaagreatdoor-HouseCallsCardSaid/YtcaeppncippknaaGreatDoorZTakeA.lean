/- hoardref31's Taker: how it lies in memory; next. Conditions: none. -/
import Derived.Test.YtcaeppncippknaaGreatDoorZCoder
import Derived.Test.YtcaeppncippknaaGreatDoorZTextR
import Derived.Test.YtcaeppncippknaaGreatDoorZRNum
import Derived.Test.YtcaeppncippknaaGreatDoorZText
import Derived.Test.YtcaeppncippknaaGreatDoorZFieldA
import Derived.Test.YtcaeppncippknaaGreatDoorZRWords
namespace Go.Proofs.YtcaeppncippknaaGreatDoor
open Go Go.RowKit

/-- A taker in block K, with the words l to come, in block b. -/
def RTk (K b : Nat) (w : World) (l : List (List UInt8)) (bad : Bool) : Prop :=
  ∃ v, w.heap[K]? = some (.cells #[v, .bool bad] 99 (0, 0)) ∧ StrsIn w b v l ∧ b ≠ K
theorem RTk.fr {M : List Nat} {K b : Nat} {w w' : World} {l : List (List UInt8)} {bad : Bool} (h : RTk K b w l bad) (hf : Fr M w w') (hK : K ∉ M) (hb : b ∉ M) : RTk K b w' l bad := by
  obtain ⟨v, h1, h2, h3⟩ := h
  exact ⟨v, hf.blockAs h1 hK, h2.fr hf hb, h3⟩
theorem RTk.lt {K b : Nat} {w : World} {l : List (List UInt8)} {bad : Bool} (h : RTk K b w l bad) : K < w.heap.size := by
  obtain ⟨v, h1, _⟩ := h
  exact lt_of_block h1
/-- The taker's second cell, stored. -/
theorem RTk.setBad {K b : Nat} {w : World} {l : List (List UInt8)} {bad : Bool} (h : RTk K b w l bad) (b' : Bool) : RTk K b (w.setCell ⟨K, 1, none⟩ (.bool b')) l b' ∧ Fr [K] w (w.setCell ⟨K, 1, none⟩ (.bool b')) := by
  obtain ⟨v, h1, h2, h3⟩ := h
  have hfr : Fr [K] w (w.setCell ⟨K, 1, none⟩ (.bool b')) := (Fr.refl _ _).setCell (by simp) _
  exact ⟨⟨v, by rw [setCell_block h1]; rfl, h2.fr hfr (by simpa using h3), h3⟩, hfr⟩
theorem RTk.bad {K b : Nat} {w : World} {l : List (List UInt8)} {bad : Bool} (h : RTk K b w l bad) : w.cell? ⟨K, 1, none⟩ = some (.bool bad) ∧ w.frozen? ⟨K, 1, none⟩ = false ∧ w.frozen? ⟨K, 0, none⟩ = false := by
  obtain ⟨v, h1, h2, h3⟩ := h
  exact ⟨by rw [Lib.cell_of_heap h1]; rfl, Lib.frozen_of_heap h1 1, Lib.frozen_of_heap h1 0⟩

set_option maxRecDepth 100000 in
theorem tnext_bad (K b : Nat) (w : World) (l : List (List UInt8)) (h : RTk K b w l true) :
    Calls Tryz.prog 53 #[.pointer (some ⟨K, 0, none⟩)] w fun e w' => e = .returned (.string (bs [])) ∧ RTk K b w' l true ∧ Fr [K] w w' := by
  obtain ⟨c1, f1, f0⟩ := h.bad
  have H := Lib.hid (h.setBad true)
  clear h
  go_enter Tryz.func53, Tryz.ntmps53
  go_wp2
  go_ret
  exact ⟨rfl, H.out⟩
set_option maxRecDepth 100000 in
theorem tnext_none (K b : Nat) (w : World) (h : RTk K b w [] false) :
    Calls Tryz.prog 53 #[.pointer (some ⟨K, 0, none⟩)] w fun e w' => e = .returned (.string (bs [])) ∧ RTk K b w' [] true ∧ Fr [K] w w' := by
  obtain ⟨c1, f1, f0⟩ := h.bad
  have H := Lib.hid (h.setBad true)
  obtain ⟨v, hb, hs, hn⟩ := h
  obtain ⟨p, c, rfl⟩ : ∃ p c, v = .slice p 0 c := by
    rcases hs with ⟨_, h⟩ | ⟨off, cap, hv, _⟩
    · exact h
    · exact ⟨_, _, hv⟩
  have c0 : w.cell? ⟨K, 0, none⟩ = some (.slice p 0 c) := by rw [Lib.cell_of_heap hb]; rfl
  clear hb hs hn
  go_enter Tryz.func53, Tryz.ntmps53
  go_wp2
  go_ret
  exact ⟨rfl, H.out⟩
set_option maxRecDepth 100000 in
theorem tnext_some (K b : Nat) (w : World) (x : List UInt8) (r : List (List UInt8)) (hr : r.length ≤ 1099511627776) (h : RTk K b w (x :: r) false) :
    Calls Tryz.prog 53 #[.pointer (some ⟨K, 0, none⟩)] w fun e w' => e = .returned (.string (bs x)) ∧ RTk K b w' r false ∧ Fr [K] w w' := by
  obtain ⟨c1, f1, f0⟩ := h.bad
  obtain ⟨v, hb, hs, hn⟩ := h
  obtain ⟨off, cap, rfl, hc, hcell⟩ : ∃ off cap, v = .slice (some ⟨b, off, none⟩) (r.length + 1) cap ∧ r.length + 1 ≤ cap ∧ ∀ i (h : i < (x :: r).length), w.cell? ⟨b, off + i, none⟩ = some (strV (x :: r)[i]) := by
    rcases hs with ⟨h, _⟩ | ⟨off, cap, hv, h1, h2⟩
    · cases h
    · exact ⟨off, cap, by simpa using hv, by simpa using h1, h2⟩
  have c0 : w.cell? ⟨K, 0, none⟩ = some (.slice (some ⟨b, off, none⟩) (r.length + 1) cap) := by rw [Lib.cell_of_heap hb]; rfl
  have hx : w.cell? ⟨b, off, none⟩ = some (.string (bs x)) := hcell 0 (by simp)
  go_enter Tryz.func53, Tryz.ntmps53
  go_wp2
  · have hc1 : cap = 1 := by assumption
    go_ret
    have hr0 : r = [] := by cases r with | nil => rfl | cons y s => simp at hc; omega
    subst hr0
    have hfr : Fr [K] w (w.setCell ⟨K, 0, none⟩ (.slice (some ⟨b, off, none⟩) 0 0)) := (Fr.refl _ _).setCell (by simp) _
    subst hc1
    exact ⟨rfl, ⟨.slice (some ⟨b, off, none⟩) 0 0, by rw [setCell_block hb]; rfl, .inl ⟨rfl, _, _, rfl⟩, hn⟩, hfr⟩
  · go_ret
    have hfr : Fr [K] w (w.setCell ⟨K, 0, none⟩ (.slice (some ⟨b, off + 1, none⟩) r.length (cap - 1))) := (Fr.refl _ _).setCell (by simp) _
    refine ⟨rfl, ⟨.slice (some ⟨b, off + 1, none⟩) r.length (cap - 1), by rw [setCell_block hb]; rfl, ?_, hn⟩, hfr⟩
    refine .inr ⟨off + 1, cap - 1, rfl, by omega, fun i hi => ?_⟩
    have := hfr.cellAs (hcell (i + 1) (by simpa using hi)) (by simpa using hn)
    rw [Nat.add_assoc, Nat.add_comm 1 i]
    simpa using this

theorem tnext_calls (K b : Nat) (w : World) (l : List (List UInt8)) (bad : Bool) (hl : l.length ≤ 1099511627776) (h : RTk K b w l bad) :
    Calls Tryz.prog 53 #[.pointer (some ⟨K, 0, none⟩)] w fun e w' => e = .returned (.string (bs (nextW l bad))) ∧ RTk K b w' (nextL l bad) (nextB l bad) ∧ Fr [K] w w' := by
  cases bad with
  | true => exact tnext_bad K b w l h
  | false =>
    cases l with
    | nil => exact tnext_none K b w h
    | cons x r => exact tnext_some K b w x r (by simp at hl; omega) h
end Go.Proofs.YtcaeppncippknaaGreatDoor
/- What hoardref31's Taker reads as a number, in plain: exactly what Unum and Num write. Conditions: none. -/
namespace Go.Proofs.YtcaeppncippknaaGreatDoor
open Go

def scanU (most : Nat) : Nat → List UInt8 → Option Nat
  | acc, [] => some acc
  | acc, c :: r => if 48 ≤ c.toNat ∧ c.toNat ≤ 57 ∧ 10 * acc + (c.toNat - 48) ≤ most then scanU most (10 * acc + (c.toNat - 48)) r else none
def uP (most : Nat) (w : List UInt8) : Option Nat := if 20 < w.length ∨ (w.head? = some 48 ∧ 1 < w.length) then none else scanU most 0 w

theorem scan_app (most : Nat) : ∀ (a b : List UInt8) (acc : Nat), scanU most acc (a ++ b) = (scanU most acc a).bind fun v => scanU most v b
  | [], b, acc => rfl
  | c :: a, b, acc => by
    rw [List.cons_append, scanU, scanU]
    split
    · exact scan_app most a b _
    · rfl
theorem scan_dec (most : Nat) (u : Nat) : u ≤ most → scanU most 0 (Lib.decDigits u) = some u := by
  induction u using Nat.strongRecOn with
  | _ u ih =>
    intro hu
    by_cases h : 9 < u
    · rw [dec_step h, scan_app, ih (u / 10) (by omega) (by omega), Option.bind_some, scanU, dig_toNat (show u % 10 < 10 by omega), if_pos ⟨by omega, by omega, by omega⟩]
      show some _ = _
      congr 1; omega
    · rw [Lib.decDigits, dif_pos (by omega), scanU, dig_toNat (show u < 10 by omega), if_pos ⟨by omega, by omega, by omega⟩]
      show some _ = _
      congr 1; omega
theorem byte_dig {c : UInt8} (h : 48 ≤ c.toNat) : UInt8.ofNat (48 + (c.toNat - 48)) = c := by
  rw [show 48 + (c.toNat - 48) = c.toNat by omega]; simp
theorem dec_scan {most : Nat} : ∀ {r : List UInt8} {acc v : Nat}, 0 < acc → acc ≤ most → scanU most acc r = some v → Lib.decDigits v = Lib.decDigits acc ++ r ∧ v ≤ most
  | [], acc, v, _, hm, h => by
    obtain rfl := Option.some.inj h
    exact ⟨by simp, hm⟩
  | c :: r, acc, v, h0, hm, h => by
    rw [scanU] at h
    split at h
    · rename_i hc
      obtain ⟨h1, h2, h3⟩ := hc
      obtain ⟨e, hv⟩ := dec_scan (by omega) h3 h
      refine ⟨?_, hv⟩
      have e1 : Lib.decDigits (10 * acc + (c.toNat - 48)) = Lib.decDigits acc ++ [c] := by
        rw [dec_step (by omega), show (10 * acc + (c.toNat - 48)) / 10 = acc by omega, show (10 * acc + (c.toNat - 48)) % 10 = c.toNat - 48 by omega, byte_dig h1]
      rw [e, e1, List.append_assoc]; rfl
    · cases h
theorem uP_some {most : Nat} {w : List UInt8} {v : Nat} (hw : w ≠ []) (h : uP most w = some v) : w = Lib.decDigits v ∧ v ≤ most := by
  unfold uP at h
  split at h
  · cases h
  · rename_i hn
    cases w with
    | nil => exact absurd rfl hw
    | cons c r =>
      rw [scanU] at h
      split at h
      · rename_i hc
        obtain ⟨h1, h2, h3⟩ := hc
        rw [Nat.mul_zero, Nat.zero_add] at h h3
        by_cases hz : c.toNat = 48
        · have hr : r = [] := by
            cases r with
            | nil => rfl
            | cons d s =>
              exfalso
              refine hn (.inr ⟨?_, by simp⟩)
              rw [List.head?_cons, show c = 48 from UInt8.toNat_inj.1 hz]
          subst hr
          rw [hz] at h
          obtain rfl := Option.some.inj h
          refine ⟨?_, Nat.zero_le _⟩
          rw [show c = 48 from UInt8.toNat_inj.1 hz, Lib.decDigits, dif_pos (by omega)]
          rfl
        · obtain ⟨e, hv⟩ := dec_scan (show 0 < c.toNat - 48 by omega) h3 h
          refine ⟨?_, hv⟩
          have e1 : Lib.decDigits (c.toNat - 48) = [c] := by rw [Lib.decDigits, dif_pos (by omega), byte_dig h1]
          rw [e, e1]; rfl
      · cases h
theorem dec_head (u : Nat) : 0 < u → (Lib.decDigits u).head? ≠ some 48 := by
  induction u using Nat.strongRecOn with
  | _ u ih =>
    intro h0
    by_cases h : 9 < u
    · have := ih (u / 10) (by omega) (by omega)
      rw [dec_step h]
      cases e : Lib.decDigits (u / 10) with
      | nil => exact absurd e (decDigits_ne _)
      | cons c r => rw [e] at this; exact this
    · rw [Lib.decDigits, dif_pos (by omega), List.head?_cons]
      intro e
      have := congrArg UInt8.toNat (Option.some.inj e)
      rw [dig_toNat (show u < 10 by omega)] at this
      have h48 : (48 : UInt8).toNat = 48 := rfl
      omega
theorem uP_dec {most v : Nat} (hv : v ≤ most) (hm : most < 18446744073709551616) : uP most (Lib.decDigits v) = some v := by
  unfold uP
  rw [if_neg]
  · exact scan_dec most v hv
  · rintro (h | ⟨h1, h2⟩)
    · have := Lib.nDigits_le20 v (by omega)
      rw [Lib.decDigits_length] at h; omega
    · by_cases h0 : v = 0
      · subst h0
        rw [Lib.decDigits, dif_pos (by omega)] at h2
        simp at h2
      · exact dec_head v (by omega) h1
end Go.Proofs.YtcaeppncippknaaGreatDoor
/- hoardref31's Taker: Unum. Conditions: no word is empty. -/
namespace Go.Proofs.YtcaeppncippknaaGreatDoor
open Go Go.RowKit

def unO (most : Nat) (l : List (List UInt8)) (bad : Bool) : Option Nat := if nextB l bad then none else uP most (nextW l bad)
def unV (most : Nat) (l : List (List UInt8)) (bad : Bool) : Nat := (unO most l bad).getD 0
def unB (most : Nat) (l : List (List UInt8)) (bad : Bool) : Bool := (unO most l bad).isNone
theorem un_none {most : Nat} {l : List (List UInt8)} {bad : Bool} (h : unO most l bad = none) : unV most l bad = 0 ∧ unB most l bad = true := by
  unfold unV unB; rw [h]; exact ⟨rfl, rfl⟩
theorem un_some {most : Nat} {l : List (List UInt8)} {bad : Bool} {v : Nat} (h : unO most l bad = some v) : unV most l bad = v ∧ unB most l bad = false := by
  unfold unV unB; rw [h]; exact ⟨rfl, rfl⟩
theorem nextW_mem {l : List (List UInt8)} {bad : Bool} (h : nextB l bad = false) : nextW l bad ∈ l := by
  unfold nextB at h
  cases bad with
  | true => cases h
  | false =>
    cases l with
    | nil => cases h
    | cons x r => simp [nextW]

set_option maxHeartbeats 4000000 in
set_option maxRecDepth 100000 in
theorem tunum_calls (K b most : Nat) (w : World) (l : List (List UInt8)) (bad : Bool) (hm9 : 9 ≤ most) (hm : most < 18446744073709551616) (hl : l.length ≤ 1099511627776) (hlw : ∀ x ∈ l, x ≠ [] ∧ x.length ≤ 1048576) (h : RTk K b w l bad) :
    Calls Tryz.prog 55 #[.pointer (some ⟨K, 0, none⟩), .int .u64 (most : Nat)] w fun e w' => e = .returned (.int .u64 (unV most l bad : Nat)) ∧ RTk K b w' (nextL l bad) (unB most l bad) ∧ Fr [K] w w' := by
  have HLW := Lib.hid hlw
  clear hlw
  have HK := Lib.hid h
  clear h
  go_enter Tryz.func55, Tryz.ntmps55
  go_wp2_with fail
  refine (tnext_calls K b w l bad hl HK.out).mono ?_
  rintro e w1 ⟨rfl, h1, hf1⟩
  have HF1 := Lib.hid hf1
  clear hf1
  obtain ⟨c1, f1, f0⟩ := h1.bad
  have HSET := Lib.hid (h1.setBad true)
  have HR := Lib.hid h1
  clear h1
  cases hb : nextB l bad with
  | true =>
    rw [hb] at c1
    have HO := Lib.hid (un_none (most := most) (show unO most l bad = none by unfold unO; rw [hb]; rfl))
    clear hb
    go_wp2_with fail
    go_ret
    refine ⟨by rw [HO.out.1]; rfl, by rw [HO.out.2]; exact HSET.out.1, HF1.out.andThen ?_⟩
    exact HSET.out.2
  | false =>
    rw [hb] at c1
    have hW := HLW.out _ (nextW_mem hb)
    have HO : Hid (unO most l bad = uP most (nextW l bad)) := by show _ = _; unfold unO; rw [hb]; rfl
    rw [hb] at HR
    clear hb
    generalize nextW l bad = W at hW HO
    obtain ⟨hWn, hWl⟩ := hW
    have hpos : 0 < W.length := List.length_pos_iff.2 hWn
    have hsz : (bs W).size = W.length := bs_size W
    have hx0 : ∀ w, (Instr.index 9 (.string (bs W)) (.int .i64 0)).run Tryz.prog w = .ok (.int .u8 (W[0].toNat : Nat)) w := fun w => run_index_str (k := 0) hpos w
    have e0 : W.head? = some W[0] := by cases W with | nil => exact absurd rfl hWn | cons c r => rfl
    generalize W[0] = c0 at hx0 e0
    by_cases hbad : 20 < W.length ∨ (c0 = 48 ∧ 1 < W.length)
    · have HN := Lib.hid (un_none (most := most) (l := l) (bad := bad) (by
        rw [HO.out]
        unfold uP
        rw [if_pos]
        rcases hbad with h | ⟨h1, h2⟩
        · exact .inl h
        · exact .inr ⟨by rw [e0, h1], h2⟩))
      clear e0
      by_cases h20 : 20 < W.length
      · clear hbad
        go_wp2_with fail
        go_ret
        refine ⟨by rw [HN.out.1]; rfl, by rw [HN.out.2]; exact HSET.out.1, HF1.out.andThen ?_⟩
        exact HSET.out.2
      · obtain ⟨rfl, h1⟩ : c0 = 48 ∧ 1 < W.length := by rcases hbad with h | h
                                                        · exact absurd h h20
                                                        · exact h
        have e48 : (((48 : UInt8).toNat : Nat) : Int) = 48 := rfl
        rw [e48] at hx0
        clear hbad e48
        go_wp2_with fail
        go_ret
        refine ⟨by rw [HN.out.1]; rfl, by rw [HN.out.2]; exact HSET.out.1, HF1.out.andThen ?_⟩
        exact HSET.out.2
    · have h20 : ¬ 20 < W.length := fun h => hbad (.inl h)
      have HO2 : Hid (unO most l bad = scanU most 0 W) := by
        show _ = _
        rw [HO.out]
        unfold uP
        rw [if_neg]
        rintro (h | ⟨h1, h2⟩)
        · exact h20 h
        · rw [e0] at h1
          exact hbad (.inr ⟨Option.some.inj h1, h2⟩)
      have hz : ¬ (c0.toNat = 48 ∧ 1 < W.length) := fun h => hbad (.inr ⟨UInt8.toNat_inj.1 h.1, h.2⟩)
      clear hbad e0 HO
      generalize c0.toNat = n0 at hx0 hz
      have hcut : ¬ n0 = 48 ∨ (n0 = 48 ∧ ¬ 1 < W.length) := by
        by_cases h : n0 = 48
        · exact .inr ⟨h, fun h2 => hz ⟨h, h2⟩⟩
        · exact .inl h
      clear hz
      have HNO : Hid (scanU most 0 W = none → unV most l bad = 0 ∧ unB most l bad = true) := fun h => un_none (HO2.out.trans h)
      have HYES : Hid (∀ v, scanU most 0 W = some v → unV most l bad = v ∧ unB most l bad = false) := fun v h => un_some (HO2.out.trans h)
      clear HO2
      rcases hcut with hq | ⟨hq, hq2⟩
      all_goals
        go_wp2_with fail
        go_loopg [6, 7] W.length (fun g x i wr => ∃ (k n : Nat), k + g = W.length ∧ x = .int .u64 (n : Nat) ∧ i = .int .i64 k ∧ n ≤ most ∧ Hid (scanU most 0 W = scanU most n (W.drop k)) ∧ w1 = wr)
        case atStart => exact ⟨0, 0, by omega, rfl, rfl, by omega, rfl, rfl⟩
        case round =>
          obtain ⟨k, n, hkg, rfl, rfl, hn, HS, rfl⟩ := hrel
          by_cases hlt : k < W.length
          · have hxk := run_index_str hlt
            have hdr := drop_at hlt
            generalize W[k] = c at hxk hdr
            have hc255 : c.toNat ≤ 255 := by have := c.toNat_lt; omega
            by_cases hd : 48 ≤ c.toNat ∧ c.toNat ≤ 57
            · obtain ⟨h48, h57⟩ := hd
              by_cases hov : 10 * n + (c.toNat - 48) ≤ most
              · have HS2 : Hid (scanU most 0 W = scanU most (10 * n + (c.toNat - 48)) (W.drop (k + 1))) := by
                  show _ = _
                  rw [HS.out, hdr, scanU, if_pos ⟨h48, h57, hov⟩]
                clear hdr
                generalize c.toNat = cn at *
                obtain ⟨d, hd⟩ : ∃ d : Nat, (d : Int) = (cn : Int) - 48 := ⟨cn - 48, by omega⟩
                have hdn : cn - 48 = d := by omega
                rw [hdn] at hov HS2
                have hq3 : ¬ ((most : Int) - d) / 10 < n := by omega
                go_wp2_with fail
                go_roundg (gk - 1)
                case measure => omega
                case rel => exact ⟨k + 1, 10 * n + d, by omega, by go_num, by go_num, by omega, HS2, rfl⟩
              · have HN := Lib.hid (HNO.out (by rw [HS.out, hdr, scanU, if_neg (fun h => hov h.2.2)]))
                clear hdr
                generalize c.toNat = cn at *
                obtain ⟨d, hd⟩ : ∃ d : Nat, (d : Int) = (cn : Int) - 48 := ⟨cn - 48, by omega⟩
                have hdn : cn - 48 = d := by omega
                rw [hdn] at hov
                have hq3 : ((most : Int) - d) / 10 < n := by omega
                go_wp2_with fail
                go_ret
                refine ⟨by rw [HN.out.1]; rfl, by rw [HN.out.2]; exact HSET.out.1, HF1.out.andThen ?_⟩
                exact HSET.out.2
            · have HN := Lib.hid (HNO.out (by rw [HS.out, hdr, scanU, if_neg (fun h => hd ⟨h.1, h.2.1⟩)]))
              clear hdr
              generalize c.toNat = cn at *
              have hd2 : cn < 48 ∨ (¬ cn < 48 ∧ 57 < cn) := by omega
              rcases hd2 with hd2 | ⟨hd2, hd3⟩
              · go_wp2_with fail
                go_ret
                refine ⟨by rw [HN.out.1]; rfl, by rw [HN.out.2]; exact HSET.out.1, HF1.out.andThen ?_⟩
                exact HSET.out.2
              · go_wp2_with fail
                go_ret
                refine ⟨by rw [HN.out.1]; rfl, by rw [HN.out.2]; exact HSET.out.1, HF1.out.andThen ?_⟩
                exact HSET.out.2
          · have HN := Lib.hid (HYES.out n (by rw [HS.out, List.drop_eq_nil_of_le (by omega)]; rfl))
            go_wp2_with fail
            go_ret
            refine ⟨by rw [HN.out.1]; rfl, by rw [HN.out.2]; exact HR.out, HF1.out⟩
end Go.Proofs.YtcaeppncippknaaGreatDoor
/- hoardref31's Taker: text and Num. Conditions: no word is empty. -/
namespace Go.Proofs.YtcaeppncippknaaGreatDoor
open Go Go.RowKit

def rtxB (l : List (List UInt8)) (bad : Bool) : Bool := nextB l bad || !(hText (nextW l bad)).isSome

set_option maxHeartbeats 2000000 in
set_option maxRecDepth 100000 in
theorem ttext_calls (K b : Nat) (w : World) (l : List (List UInt8)) (bad : Bool) (hl : l.length ≤ 1099511627776) (hlw : ∀ x ∈ l, x.length ≤ 1048576) (h : RTk K b w l bad) (_hb8 : b < w.heap.size) :
    Calls Tryz.prog 79 #[.pointer (some ⟨K, 0, none⟩)] w fun e w' => e = .returned (.string (bs (textV l bad))) ∧ RTk K b w' (nextL l bad) (rtxB l bad) ∧ Fr [K] w w' := by
  have hW := nextW_length hlw bad
  have HK := Lib.hid h
  clear h hlw
  go_enter Tryz.func79, Tryz.ntmps79
  go_wp2_with fail
  refine (tnext_calls K b w l bad hl HK.out).mono ?_
  rintro e w1 ⟨rfl, h1, hf1⟩
  have HF1 := Lib.hid hf1
  have HR1 := Lib.hid h1
  clear hf1 h1
  have HTV : Hid (textV l bad = (hText (nextW l bad)).getD []) := rfl
  have HTB : Hid (rtxB l bad = (nextB l bad || !(hText (nextW l bad)).isSome)) := rfl
  generalize nextW l bad = W at *
  generalize nextB l bad = nb at *
  go_wp2_with fail
  refine (rtext_calls W hW w1).mono ?_
  rintro e w2 ⟨rfl, hf2⟩
  have h2 : RTk K b w2 (nextL l bad) nb := HR1.out.fr hf2 (by simp) (by simp)
  have HF2 : Hid (Fr [K] w1 w2) := hf2.mono (by simp)
  clear hf2
  obtain ⟨c1, f1, f0⟩ := h2.bad
  cases ht : hText W with
  | none =>
    rw [show ResT none = .tuple #[.string (bs []), .bool false] from rfl]
    have HSET := Lib.hid (h2.setBad true)
    rw [ht] at HTV HTB
    have HB2 : Hid (rtxB l bad = true) := by show _ = _; rw [HTB.out]; simp
    clear ht h2 HTB
    cases nb
    all_goals
      go_wp2_with fail
      go_ret
      refine ⟨by rw [HTV.out]; rfl, by rw [HB2.out]; exact HSET.out.1, (HF1.out.andThen HF2.out).andThen ?_⟩
      exact HSET.out.2
  | some t =>
    rw [show ResT (some t) = .tuple #[.string (bs t), .bool true] from rfl]
    have HSET := Lib.hid (h2.setBad nb)
    rw [ht] at HTV HTB
    have HB2 : Hid (rtxB l bad = nb) := by show _ = _; rw [HTB.out]; simp
    clear ht h2 HTB
    cases nb
    all_goals
      go_wp2_with fail
      go_ret
      refine ⟨by rw [HTV.out]; rfl, by rw [HB2.out]; exact HSET.out.1, (HF1.out.andThen HF2.out).andThen ?_⟩
      exact HSET.out.2

/-- A number's word, as Num reads it. -/
def iP (W : List UInt8) : Option Int :=
  match W with
  | 45 :: r => if r = [] ∨ r = [48] then none else Option.map (fun v : Nat => -(v : Int)) (uP 9223372036854775808 r)
  | W => Option.map (fun v : Nat => (v : Int)) (uP 9223372036854775807 W)
def tiO (l : List (List UInt8)) (bad : Bool) : Option Int := if nextB l bad then none else iP (nextW l bad)
def tiV (l : List (List UInt8)) (bad : Bool) : Int := (tiO l bad).getD 0
def tiB (l : List (List UInt8)) (bad : Bool) : Bool := (tiO l bad).isNone
def tiL (l : List (List UInt8)) (bad : Bool) : List (List UInt8) := if bad = false ∧ (l.head? = some [45] ∨ l.head? = some [45, 48]) then l else nextL l bad
theorem ti_none {l : List (List UInt8)} {bad : Bool} (h : tiO l bad = none) : tiV l bad = 0 ∧ tiB l bad = true := by
  unfold tiV tiB; rw [h]; exact ⟨rfl, rfl⟩
theorem ti_some {l : List (List UInt8)} {bad : Bool} {v : Int} (h : tiO l bad = some v) : tiV l bad = v ∧ tiB l bad = false := by
  unfold tiV tiB; rw [h]; exact ⟨rfl, rfl⟩
theorem iP_other {W : List UInt8} (h : W.head? ≠ some 45) : iP W = Option.map (fun v : Nat => (v : Int)) (uP 9223372036854775807 W) := by
  unfold iP
  split
  · exact absurd rfl h
  · rfl
/-- The way on by Unum. -/
theorem ti_un {l : List (List UInt8)} {bad : Bool} (h : nextB l bad = true ∨ (nextW l bad).head? ≠ some 45) : tiV l bad = (unV 9223372036854775807 l bad : Nat) ∧ tiB l bad = unB 9223372036854775807 l bad ∧ tiL l bad = nextL l bad := by
  have hL : tiL l bad = nextL l bad := by
    unfold tiL
    rw [if_neg]
    rintro ⟨rfl, h1⟩
    rcases h with h | h
    · unfold nextB at h
      cases l with
      | nil => rcases h1 with h1 | h1 <;> cases h1
      | cons x r => cases h
    · cases l with
      | nil => rcases h1 with h1 | h1 <;> cases h1
      | cons x r =>
        rcases h1 with h1 | h1
        · obtain rfl := Option.some.inj h1; exact h rfl
        · obtain rfl := Option.some.inj h1; exact h rfl
  refine ⟨?_, ?_, hL⟩
  · unfold tiV unV tiO unO
    rcases h with h | h
    · rw [h]; rfl
    · rw [iP_other h]
      split
      · rfl
      · cases uP 9223372036854775807 (nextW l bad) <;> rfl
  · unfold tiB unB tiO unO
    rcases h with h | h
    · rw [h]; rfl
    · rw [iP_other h]
      split
      · rfl
      · cases uP 9223372036854775807 (nextW l bad) <;> rfl
theorem unV_le {most : Nat} {l : List (List UInt8)} {bad : Bool} (hl : ∀ x ∈ l, x ≠ []) : unV most l bad ≤ most := by
  unfold unV unO
  cases hb : nextB l bad with
  | true => exact Nat.zero_le _
  | false =>
    simp only [Bool.false_eq_true, if_false]
    cases h : uP most (nextW l bad) with
    | none => exact Nat.zero_le _
    | some v => exact (uP_some (hl _ (nextW_mem hb)) h).2
theorem uP_pos {most : Nat} {r : List UInt8} {v : Nat} (hr : r ≠ []) (h0 : r ≠ [48]) (h : uP most r = some v) : 1 ≤ v := by
  have e := (uP_some hr h).1
  rcases Nat.eq_zero_or_pos v with h2 | h2
  · subst h2
    rw [Lib.decDigits, dif_pos (by omega)] at e
    exact absurd e h0
  · exact h2

set_option maxRecDepth 100000 in
/-- Num, where Unum goes on. -/
theorem tnum_un (K b : Nat) (w : World) (l : List (List UInt8)) (bad : Bool) (hl : l.length ≤ 1099511627776) (hlw : ∀ x ∈ l, x ≠ [] ∧ x.length ≤ 1048576) (h : RTk K b w l bad) (hq : nextB l bad = true ∨ (nextW l bad).head? ≠ some 45) :
    Calls Tryz.prog 54 #[.pointer (some ⟨K, 0, none⟩)] w fun e w' => e = .returned (.int .i64 (tiV l bad)) ∧ RTk K b w' (tiL l bad) (tiB l bad) ∧ Fr [K] w w' := by
  have HQ := Lib.hid (ti_un hq)
  have hvle := unV_le (most := 9223372036854775807) (bad := bad) fun x hx => (hlw x hx).1
  have HU := Lib.hid (tunum_calls K b 9223372036854775807 w l bad (by omega) (by omega) hl hlw h)
  obtain ⟨c1, f1, f0⟩ := h.bad
  cases bad with
  | true =>
    clear hq h hlw
    go_enter Tryz.func54, Tryz.ntmps54
    go_wp2_with fail
    refine HU.out.mono ?_
    rintro e w1 ⟨rfl, h1, hf1⟩
    have H1 := Lib.hid h1
    have HF1 := Lib.hid hf1
    clear h1 hf1
    go_wp2_with fail
    go_ret
    exact ⟨by rw [HQ.out.1]; rfl, by rw [HQ.out.2.1, HQ.out.2.2]; exact H1.out, HF1.out⟩
  | false =>
    obtain ⟨v, hb, hs, hn⟩ := h
    cases l with
    | nil =>
      obtain ⟨p, c, rfl⟩ : ∃ p c, v = .slice p 0 c := by
        rcases hs with ⟨_, h⟩ | ⟨off, cap, hv, _⟩
        · exact h
        · exact ⟨_, _, hv⟩
      have c0 : w.cell? ⟨K, 0, none⟩ = some (.slice p 0 c) := by rw [Lib.cell_of_heap hb]; rfl
      clear hb hs hn hq hlw
      go_enter Tryz.func54, Tryz.ntmps54
      go_wp2_with fail
      refine HU.out.mono ?_
      rintro e w1 ⟨rfl, h1, hf1⟩
      have H1 := Lib.hid h1
      have HF1 := Lib.hid hf1
      clear h1 hf1
      go_wp2_with fail
      go_ret
      exact ⟨by rw [HQ.out.1]; rfl, by rw [HQ.out.2.1, HQ.out.2.2]; exact H1.out, HF1.out⟩
    | cons x r =>
      obtain ⟨off, cap, rfl, hc, hcell⟩ : ∃ off cap, v = .slice (some ⟨b, off, none⟩) (r.length + 1) cap ∧ r.length + 1 ≤ cap ∧ ∀ i (h : i < (x :: r).length), w.cell? ⟨b, off + i, none⟩ = some (strV (x :: r)[i]) := by
        rcases hs with ⟨h, _⟩ | ⟨off, cap, hv, h1, h2⟩
        · cases h
        · exact ⟨off, cap, by simpa using hv, by simpa using h1, h2⟩
      have c0 : w.cell? ⟨K, 0, none⟩ = some (.slice (some ⟨b, off, none⟩) (r.length + 1) cap) := by rw [Lib.cell_of_heap hb]; rfl
      have hx : w.cell? ⟨b, off, none⟩ = some (.string (bs x)) := hcell 0 (by simp)
      have hx1 := (hlw x (by simp)).1
      have hq2 : x.head? ≠ some 45 := by
        rcases hq with h | h
        · cases h
        · exact h
      obtain ⟨c, y, rfl⟩ : ∃ c y, x = c :: y := by cases x with | nil => exact absurd rfl hx1 | cons c y => exact ⟨c, y, rfl⟩
      have hc45 : c.toNat ≠ 45 := fun e => hq2 (by rw [List.head?_cons, show c = 45 from UInt8.toNat_inj.1 e])
      have hix : ∀ w, (Instr.index 9 (.string (bs (c :: y))) (.int .i64 0)).run Tryz.prog w = .ok (.int .u8 (c.toNat : Nat)) w := fun w => run_index_str (l := c :: y) (k := 0) (by simp) w
      generalize c.toNat = cn at hc45 hix
      generalize c :: y = x at *
      have hne : ((cn : Int) == 45) = false := by rw [beq_eq_false_iff_ne]; omega
      clear hb hs hn hq hlw hcell hq2 hx1
      go_enter Tryz.func54, Tryz.ntmps54
      go_wp2_with fail
      refine HU.out.mono ?_
      rintro e w1 ⟨rfl, h1, hf1⟩
      have H1 := Lib.hid h1
      have HF1 := Lib.hid hf1
      clear h1 hf1
      go_wp2_with fail
      go_ret
      exact ⟨by rw [HQ.out.1]; rfl, by rw [HQ.out.2.1, HQ.out.2.2]; exact H1.out, HF1.out⟩
end Go.Proofs.YtcaeppncippknaaGreatDoor
/- hoardref31's Taker: Num, below 0. Conditions: no word is empty. -/
namespace Go.Proofs.YtcaeppncippknaaGreatDoor
open Go Go.RowKit

theorem ex_tail (c : UInt8) (y : List UInt8) (n : Nat) (hn : n = y.length + 1) : (bs (c :: y)).extract 1 n = bs y := by
  rw [extract_bs, hn]
  congr 1
  show (y.take (y.length + 1 - 1)) = y
  rw [show y.length + 1 - 1 = y.length by omega, List.take_length]
theorem tiL_neg {y : List UInt8} {r : List (List UInt8)} (h : ¬ (y = [] ∨ y = [48])) : tiL ((45 :: y) :: r) false = r := by
  unfold tiL
  rw [if_neg]
  · rfl
  · rintro ⟨_, h1⟩
    rcases h1 with h1 | h1
    · exact h (.inl (by simpa using h1))
    · exact h (.inr (by simpa using h1))
theorem tiL_low {y : List UInt8} {r : List (List UInt8)} (h : y = [] ∨ y = [48]) : tiL ((45 :: y) :: r) false = (45 :: y) :: r := by
  unfold tiL
  rw [if_pos]
  refine ⟨rfl, ?_⟩
  rcases h with rfl | rfl
  · exact .inl rfl
  · exact .inr rfl
theorem tiO_low {y : List UInt8} {r : List (List UInt8)} (h : y = [] ∨ y = [48]) : tiO ((45 :: y) :: r) false = none := by
  show iP (45 :: y) = none
  unfold iP
  exact if_pos h
theorem tiO_neg {y : List UInt8} {r : List (List UInt8)} (h : ¬ (y = [] ∨ y = [48])) : tiO ((45 :: y) :: r) false = Option.map (fun v : Nat => -(v : Int)) (uP 9223372036854775808 y) := by
  show iP (45 :: y) = _
  unfold iP
  exact if_neg h

set_option maxHeartbeats 4000000 in
set_option maxRecDepth 100000 in
theorem tnum_neg (K b : Nat) (w : World) (y : List UInt8) (r : List (List UInt8)) (hr : r.length ≤ 1099511627775) (hy : y.length ≤ 1048576) (h : RTk K b w ((45 :: y) :: r) false) :
    Calls Tryz.prog 54 #[.pointer (some ⟨K, 0, none⟩)] w fun e w' => e = .returned (.int .i64 (tiV ((45 :: y) :: r) false)) ∧ RTk K b w' (tiL ((45 :: y) :: r) false) (tiB ((45 :: y) :: r) false) ∧ Fr [K] w w' := by
  obtain ⟨c1, f1, f0⟩ := h.bad
  have HR := Lib.hid h
  obtain ⟨v, hb, hs, hn⟩ := h
  obtain ⟨off, cap, rfl, hc, hcell⟩ : ∃ off cap, v = .slice (some ⟨b, off, none⟩) (r.length + 1) cap ∧ r.length + 1 ≤ cap ∧ ∀ i (h : i < ((45 :: y) :: r).length), w.cell? ⟨b, off + i, none⟩ = some (strV ((45 :: y) :: r)[i]) := by
    rcases hs with ⟨h, _⟩ | ⟨off, cap, hv, h1, h2⟩
    · cases h
    · exact ⟨off, cap, by simpa using hv, by simpa using h1, h2⟩
  have c0 : w.cell? ⟨K, 0, none⟩ = some (.slice (some ⟨b, off, none⟩) (r.length + 1) cap) := by rw [Lib.cell_of_heap hb]; rfl
  have hx : w.cell? ⟨b, off, none⟩ = some (.string (bs (45 :: y))) := hcell 0 (by simp)
  have hKlt := lt_of_block hb
  have hblt := lt_of_cell hx
  have HC := Lib.hid hcell
  have HB := Lib.hid hb
  have HN := Lib.hid hn
  clear hb hs hcell
  have hix : ∀ w, (Instr.index 9 (.string (bs (45 :: y))) (.int .i64 0)).run Tryz.prog w = .ok (.int .u8 45) w := fun w => run_index_str (l := 45 :: y) (k := 0) (by simp) w
  have hxs : (bs (45 :: y)).size = y.length + 1 := bs_size (45 :: y)
  have hex := ex_tail 45 y _ hxs
  have hex2 := ex_tail 45 y (y.length + 1) rfl
  have HLOW : Hid ((y = [] ∨ y = [48]) → (tiV ((45 :: y) :: r) false = 0 ∧ tiB ((45 :: y) :: r) false = true) ∧ tiL ((45 :: y) :: r) false = (45 :: y) :: r) := fun h => ⟨ti_none (tiO_low h), tiL_low h⟩
  have HNEG : Hid (¬ (y = [] ∨ y = [48]) → tiO ((45 :: y) :: r) false = Option.map (fun v : Nat => -(v : Int)) (uP 9223372036854775808 y) ∧ tiL ((45 :: y) :: r) false = r) := fun h => ⟨tiO_neg h, tiL_neg h⟩
  generalize 45 :: y = x at *
  go_enter Tryz.func54, Tryz.ntmps54
  go_upto_region 3 with fail
  generalize hw2 : (w.alloc (.cells #[.string (bs y)] 9)).alloc (.cells #[.slice (some ⟨w.heap.size, 0, none⟩) 1 1, .bool false] 99) = w2
  have hM : w2.heap[w.heap.size + 1]? = some (.cells #[.slice (some ⟨w.heap.size, 0, none⟩) 1 1, .bool false] 99 (0, 0)) := by
    subst hw2
    have := (MapKept.heap_alloc (w.alloc (.cells #[.string (bs y)] 9)) (.cells #[.slice (some ⟨w.heap.size, 0, none⟩) 1 1, .bool false] 99)).1
    simpa using this
  have hf2 : Fr [] w w2 := by subst hw2; exact ((Fr.refl _ _).alloc _).alloc _
  have hS : w2.heap[w.heap.size]? = some (.cells #[.string (bs y)] 9 (0, 0)) := by
    subst hw2
    rw [Lib.alloc_old _ _ _ (by simp)]
    exact (MapKept.heap_alloc w _).1
  clear hw2
  have m0 : w2.cell? ⟨w.heap.size + 1, 0, none⟩ = some (.slice (some ⟨w.heap.size, 0, none⟩) 1 1) := by rw [Lib.cell_of_heap hM]; rfl
  have s0 : w2.cell? ⟨w.heap.size, 0, none⟩ = some (.string (bs y)) := by rw [Lib.cell_of_heap hS]; rfl
  have hR2 : RTk K b w2 (x :: r) false := HR.out.fr hf2 (by simp) (by simp)
  have hS1 : ∀ i (hi : i < [y].length), w2.cell? ⟨w.heap.size, 0 + i, none⟩ = some (strV [y][i]) := by
    intro i hi
    match i, hi with
    | 0, _ => exact s0
  have hT2 : RTk (w.heap.size + 1) w.heap.size w2 [y] false := ⟨_, hM, .inr ⟨0, 1, rfl, by simp, hS1⟩, by omega⟩
  clear hS1
  have hB2 := hf2.blockAs HB.out (by simp)
  have HF2 : Hid (Fr [K] w w2) := hf2.mono (by simp)
  obtain ⟨d1, g1, g0⟩ := hR2.bad
  have d0 : w2.cell? ⟨K, 0, none⟩ = some (.slice (some ⟨b, off, none⟩) (r.length + 1) cap) := by rw [Lib.cell_of_heap hB2]; rfl
  have HM := Lib.hid hM
  have HR2 := Lib.hid hR2
  have HT2 := Lib.hid hT2
  have HC2 : Hid (∀ i (h : i < (x :: r).length), w2.cell? ⟨b, off + i, none⟩ = some (strV (x :: r)[i])) := fun i hi => hf2.cellAs (HC.out i hi) (by simp)
  have HB2 := Lib.hid hB2
  by_cases hlow : y = [] ∨ y = [48]
  · have HSET := Lib.hid (hR2.setBad true)
    have HL := Lib.hid (HLOW.out hlow)
    clear hM hS hf2 hR2 hT2 hB2 c0 c1 f0 f1 hx hix hex hex2 hxs
    rcases hlow with rfl | rfl
    all_goals
      go_wp2_with fail
      go_ret
      refine ⟨by rw [HL.out.1.1]; rfl, by rw [HL.out.1.2, HL.out.2]; exact HSET.out.1, HF2.out.andThen ?_⟩
      exact HSET.out.2
  · have HL := Lib.hid (HNEG.out hlow)
    have hyn : y ≠ [] := fun h => hlow (.inl h)
    have hy48 : y ≠ [48] := fun h => hlow (.inr h)
    have q1 : y.isEmpty = false := by simpa using hyn
    have q2 : (y == []) = false := by simpa using hyn
    have q3 : (y == [48]) = false := by simpa using hy48
    clear hM hS hf2 hR2 hT2 hB2 c0 c1 f0 f1 hx hix hex hex2 hxs hlow
    go_wp2_with fail
    refine (tunum_calls (w.heap.size + 1) w.heap.size 9223372036854775808 w2 [y] false (by omega) (by omega) (by simp) (fun z hz => by obtain rfl := List.mem_singleton.1 hz; exact ⟨hyn, hy⟩) HT2.out).mono ?_
    rintro e w3 ⟨rfl, hT3, hf3⟩
    obtain ⟨e1, g2, _⟩ := hT3.bad
    have hR3 : RTk K b w3 (x :: r) false := HR2.out.fr hf3 (by simp; omega) (by simp at hblt ⊢; omega)
    have HSET := Lib.hid (hR3.setBad (unB 9223372036854775808 [y] false))
    have hB3 := hf3.blockAs HB2.out (by simp; omega)
    have HC3 : Hid (∀ i (h : i < (x :: r).length), w3.cell? ⟨b, off + i, none⟩ = some (strV (x :: r)[i])) := fun i hi => hf3.cellAs (HC2.out i hi) (by simp at hblt ⊢; omega)
    have t0 : w3.cell? ⟨K, 0, none⟩ = some (.slice (some ⟨b, off, none⟩) (r.length + 1) cap) := by rw [Lib.cell_of_heap hB3]; rfl
    obtain ⟨t1, t2, t3⟩ := hR3.bad
    have HF3 : Hid (Fr [K] w w3) := by
      show Fr _ _ _
      refine HF2.out.trans hf3 ?_
      intro i hi hlt
      have := List.mem_singleton.1 hi
      omega
    have hcs : ∃ (n : Nat) (f : Bool), unV 9223372036854775808 [y] false = n ∧ unB 9223372036854775808 [y] false = f ∧ n ≤ 9223372036854775808 ∧ tiV (x :: r) false = -(n : Int) ∧ tiB (x :: r) false = f ∧ (n = 0 ∨ 1 ≤ n) := by
      cases hu : uP 9223372036854775808 y with
      | none =>
        have h1 := un_none (most := 9223372036854775808) (l := [y]) (bad := false) hu
        have h2 := ti_none (l := x :: r) (bad := false) (by rw [HL.out.1, hu]; rfl)
        exact ⟨0, true, h1.1, h1.2, by omega, h2.1, h2.2, .inl rfl⟩
      | some v =>
        have h1 := un_some (most := 9223372036854775808) (l := [y]) (bad := false) hu
        have h2 := ti_some (l := x :: r) (bad := false) (v := -(v : Int)) (by rw [HL.out.1, hu]; rfl)
        exact ⟨v, false, h1.1, h1.2, (uP_some hyn hu).2, h2.1, h2.2, .inr (uP_pos hyn hy48 hu)⟩
    obtain ⟨n, f, k1, k2, k3, k4, k5, k6⟩ := hcs
    rw [k1]
    rw [k2] at e1 HSET
    have HK := Lib.hid (And.intro k4 (And.intro k5 HL.out.2))
    clear k1 k2 k4 k5 HL m0 s0 d1 g1 g0 d0 q1 q2 q3 hT3 hR3 hf3 hyn hy48
    have hblt' : b < w3.heap.size := by have := HF3.out.size; omega
    have hfr1 : Fr [K] w3 ((w3.setCell ⟨K, 1, none⟩ (.bool f)).setCell ⟨K, 0, none⟩ (.slice (some ⟨b, off, none⟩) r.length 0)) := ((Fr.refl _ _).setCell (by simp) _).setCell (by simp) _
    have hfr2 : Fr [K] w3 ((w3.setCell ⟨K, 1, none⟩ (.bool f)).setCell ⟨K, 0, none⟩ (.slice (some ⟨b, off + 1, none⟩) r.length (cap - 1))) := ((Fr.refl _ _).setCell (by simp) _).setCell (by simp) _
    have HE1 : Hid (cap = 1 → RTk K b ((w3.setCell ⟨K, 1, none⟩ (.bool f)).setCell ⟨K, 0, none⟩ (.slice (some ⟨b, off, none⟩) r.length 0)) r f ∧ Fr [K] w ((w3.setCell ⟨K, 1, none⟩ (.bool f)).setCell ⟨K, 0, none⟩ (.slice (some ⟨b, off, none⟩) r.length 0))) := by
      show _ → _
      intro h1
      have hr0 : r = [] := by cases r with | nil => rfl | cons z s => simp at hc; omega
      subst hr0
      refine ⟨⟨.slice (some ⟨b, off, none⟩) 0 0, ?_, .inl ⟨rfl, _, _, rfl⟩, hn⟩, HF3.out.andThen hfr1⟩
      rw [setCell_block (setCell_block hB3 _)]; rfl
    have HE2 : Hid (RTk K b ((w3.setCell ⟨K, 1, none⟩ (.bool f)).setCell ⟨K, 0, none⟩ (.slice (some ⟨b, off + 1, none⟩) r.length (cap - 1))) r f ∧ Fr [K] w ((w3.setCell ⟨K, 1, none⟩ (.bool f)).setCell ⟨K, 0, none⟩ (.slice (some ⟨b, off + 1, none⟩) r.length (cap - 1)))) := by
      refine ⟨⟨.slice (some ⟨b, off + 1, none⟩) r.length (cap - 1), ?_, .inr ⟨off + 1, cap - 1, rfl, by omega, fun i hi => ?_⟩, hn⟩, HF3.out.andThen hfr2⟩
      · rw [setCell_block (setCell_block hB3 _)]; rfl
      · have := hfr2.cellAs (HC3.out (i + 1) (by simpa using hi)) (by simpa using hn)
        rw [Nat.add_assoc, Nat.add_comm 1 i]
        simpa using this
    clear hfr1 hfr2 hB3 HSET
    rcases k6 with rfl | k6
    · have hz0 : wrap64 (wrap64 (-wrap64 (IntKind.u64.wrap (-1))) - 1) = 0 := by decide +kernel
      go_wp2_with fail
      · have hc1 : cap = 1 := by assumption
        go_ret
        exact ⟨by rw [HK.out.1]; rfl, by rw [HK.out.2.1, HK.out.2.2]; exact (HE1.out hc1).1, (HE1.out hc1).2⟩
      · go_ret
        exact ⟨by rw [HK.out.1]; rfl, by rw [HK.out.2.1, HK.out.2.2]; exact HE2.out.1, HE2.out.2⟩
    · have hz : -((n : Int) - 1) - 1 = -(n : Int) := by omega
      go_wp2_with fail
      · have hc1 : cap = 1 := by assumption
        go_ret
        refine ⟨?_, by rw [HK.out.2.1, HK.out.2.2]; exact (HE1.out hc1).1, (HE1.out hc1).2⟩
        rw [HK.out.1]
        first | rfl | (rw [← hz]; rfl)
      · go_ret
        refine ⟨?_, by rw [HK.out.2.1, HK.out.2.2]; exact HE2.out.1, HE2.out.2⟩
        rw [HK.out.1]
        first | rfl | (rw [← hz]; rfl)

theorem tnum_calls (K b : Nat) (w : World) (l : List (List UInt8)) (bad : Bool) (hl : l.length ≤ 1099511627775) (hlw : ∀ x ∈ l, x ≠ [] ∧ x.length ≤ 1048576) (h : RTk K b w l bad) :
    Calls Tryz.prog 54 #[.pointer (some ⟨K, 0, none⟩)] w fun e w' => e = .returned (.int .i64 (tiV l bad)) ∧ RTk K b w' (tiL l bad) (tiB l bad) ∧ Fr [K] w w' := by
  by_cases hq : nextB l bad = true ∨ (nextW l bad).head? ≠ some 45
  · exact tnum_un K b w l bad (by omega) hlw h hq
  · have hb : nextB l bad = false := by
      cases hb : nextB l bad with
      | true => exact absurd (.inl hb) hq
      | false => rfl
    have hw : (nextW l bad).head? = some 45 := Classical.byContradiction fun e => hq (.inr e)
    cases bad with
    | true => cases hb
    | false =>
      cases l with
      | nil => cases hb
      | cons x r =>
        cases x with
        | nil => cases hw
        | cons c y =>
          obtain rfl : c = 45 := by simpa [nextW] using hw
          have hx := (hlw (45 :: y) (by simp)).2
          exact tnum_neg K b w y r (by simp at hl; omega) (by simp at hx; omega) h
theorem tiL_sub {l : List (List UInt8)} {bad : Bool} : (∀ x ∈ tiL l bad, x ∈ l) ∧ (tiL l bad).length ≤ l.length := by
  unfold tiL
  split
  · exact ⟨fun x h => h, Nat.le_refl _⟩
  · unfold nextL
    split
    · exact ⟨fun x h => h, Nat.le_refl _⟩
    · exact ⟨fun x h => List.mem_of_mem_tail h, by simp⟩
theorem nextL_sub {l : List (List UInt8)} {bad : Bool} : (∀ x ∈ nextL l bad, x ∈ l) ∧ (nextL l bad).length ≤ l.length := by
  unfold nextL
  split
  · exact ⟨fun x h => h, Nat.le_refl _⟩
  · exact ⟨fun x h => List.mem_of_mem_tail h, by simp⟩
end Go.Proofs.YtcaeppncippknaaGreatDoor
