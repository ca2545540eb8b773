/- house.read: which call words are, whatever the order in which the map of kinds is gone through. Conditions: the package variables' facts (Env), fewer than 2^40 words, each below 2^20 bytes. -/
import Derived.Test.YtcaeppncippknaaGreatDoorZRead0A
import Derived.Test.YtcaeppncippknaaGreatDoorZKmA
import Derived.Test.YtcaeppncippknaaGreatDoorZKinds
import Derived.Deep.LoopGhost
import Derived.Deep.DeepCutAuto
import Derived.Test.YtcaeppncippknaaGreatDoorZBaseA
namespace Go.Proofs.YtcaeppncippknaaGreatDoor
open Go Go.RowKit

set_option maxHeartbeats 16000000 in
set_option maxRecDepth 100000 in
theorem read_calls (b0 : Nat) (v : Value) (l : List (List UInt8)) (w : World) (henv : Env w) (hin : StrsIn w b0 v l) (hll : l.length ≤ 1099511627776) (hlw : ∀ x ∈ l, x.length ≤ 1048576) :
    Calls Tryz.prog 35 #[v] w fun e w' => e = .returned (ResC (readC l)) ∧ Fr [] w w' := by
  have h8 := henv.size
  obtain ⟨b, hb, hin⟩ := hin.some (by omega)
  obtain ⟨sp, sc, hv⟩ : ∃ p c, v = .slice p l.length c := by
    rcases hin with ⟨h1, p, c, h2⟩ | ⟨off, cap, h1, h2, h3⟩
    · exact ⟨p, c, by rw [h1]; exact h2⟩
    · exact ⟨_, cap, h1⟩
  subst hv
  have HIN := Lib.hid hin
  have HLW := Lib.hid hlw
  clear hin hlw
  clear hin
  go_enter Tryz.func35, Tryz.ntmps35
  go_wp2_with fail
  go_step3
  go_wp2_with fail
  generalize hw1 : (w.alloc (.cells #[.int .u8 0, .string ⟨#[]⟩, .string ⟨#[]⟩, .int .u64 0, .int .i64 0, .string ⟨#[]⟩, .int .u8 0, .int .u64 0, .string ⟨#[]⟩, .string ⟨#[]⟩, .int .i64 0] 31)).alloc (.cells #[.slice none 0 0, .slice sp l.length sc, .bool true, .bool false] 83) = w1
  have hR1 : RCod (w.heap.size + 1) b w1 l false := by
    subst hw1
    refine ⟨.slice sp l.length sc, ?_, HIN.out.fr (M := []) (((Fr.refl _ _).alloc _).alloc _) (by simp), by omega⟩
    exact heap_alloc2 _ _ _
  have hC1 : w1.heap[w.heap.size]? = some (.cells (callCells ACall.zero) 31 (0, 0)) := by
    subst hw1
    rw [Lib.alloc_old _ _ _ (by simp)]
    exact (MapKept.heap_alloc w _).1
  have hfr1 : Fr [] w w1 := by subst hw1; exact ((Fr.refl _ _).alloc _).alloc _
  have hsz1 : w1.heap.size = w.heap.size + 2 := by subst hw1; simp
  clear hw1 HIN
  refine (next_calls (w.heap.size + 1) b w1 l false hll hR1).mono ?_
  rintro e w2 ⟨rfl, hR2, hf2⟩
  have hC2 := hf2.blockAs hC1 (by simp)
  have hfr2 : Fr [] w w2 := hfr1.trans hf2 (by simp)
  have hsz2 : w.heap.size + 2 ≤ w2.heap.size := by have := hf2.size; omega
  have HR2 := Lib.hid hR2
  have HC2 := Lib.hid hC2
  clear hR1 hC1 hfr1 hsz1 hR2 hC2 hf2
  go_wp2_with fail
  go_step3
  go_wp2_with fail
  refine (kinds_calls w2).mono ?_
  rintro e w3 ⟨rfl, hkm, hf3⟩
  have hlt3 := hkm.lt
  have HR3 := Lib.hid (HR2.out.fr hf3 (by simp) (by simp))
  have HC3 := Lib.hid (hf3.blockAs HC2.out (by simp))
  have hfr3 : Fr [] w w3 := hfr2.trans hf3 (by simp)
  have HKM := Lib.hid hkm
  clear HR2 HC2 hfr2 hf3 hkm
  generalize hBm : w2.heap.size = Bm at *
  have hBm0 : w.heap.size + 2 ≤ Bm := by omega
  clear hBm hsz2
  go_wp2_with (refine wpList_range_km (by rfl) (.tmp 15) 79 (by rfl) Tryz.underlying79 (by rfl) HKM.out ?_; intro w4 hw4)
  have hIt4 : IterAt Bm w3.heap.size kindRows.length #[] w4 := by subst hw4; exact IterAt.made w3 _
  have hfr34 : Fr [] w3 w4 := by subst hw4; exact (Fr.refl _ _).alloc _
  have hkm4 := HKM.out.fr hfr34 (by simp)
  have hR4 := HR3.out.fr hfr34 (by simp) (by simp)
  have hC4 := hfr34.blockAs HC3.out (by simp)
  have hfr4 : Fr [] w w4 := hfr3.trans hfr34 (by simp)
  have henv4 := henv.fr hfr4 (by simp)
  have hr4 := hIt4.lt
  clear hw4 HKM HR3 HC3 hfr3 hfr34
  generalize w3.heap.size = r at *
  go_frame
  go_loopg [6] kindRows.length (fun g _ wr => ∃ sn : Array Nat, g + sn.size = kindRows.length ∧ KM Bm kindRows wr ∧ IterAt Bm r kindRows.length sn wr ∧ Fr [r] w4 wr ∧ Hid (∀ i (hi : i < kindRows.length), i ∈ sn.toList → kindRows[i].2.1 ≠ nextW l false))
  case atStart => exact ⟨#[], by simp, hkm4, hIt4, Fr.refl _ _, fun i hi h => by simp at h⟩
  case round =>
    obtain ⟨sn, hg, hkm, hit, hfr, HW⟩ := hrel
    go_wp2_with (refine wpList_next_km (by rfl) (.tmp 16) (by rfl) (by rfl) hkm hit hlt3 ?_ ?_)
    · intro hall
      have hCr := hfr.blockAs hC4 (by simp; omega)
      have HFR := Lib.hid (hfr4.trans hfr (by simp; omega))
      have HRES := Lib.hid (rowOf_none fun i hi => HW.out i hi (by simpa using hall i hi))
      clear hfr HW
      go_wp2_with (first
        | (refine wpList_load_row (by rfl) 31 (.tmp 2) (by rfl) w.heap.size (by rfl) 31 _ _ _ hCr Tryz.underlying31 rfl infoCall ?_)
        | (refine wpList_store_row (by rfl) 31 (.tmp 2) (.tmp 53) (by rfl) w.heap.size (callCells ACall.zero) (by rfl) (by rfl) 31 _ hCr infoCall rfl (callCells_one _) ?_))
      have hw6 : Fr [] w (wr.setRow w.heap.size (callCells ACall.zero)) := ⟨HFR.out.os, HFR.out.tape, HFR.out.output, by simpa using HFR.out.size, fun k hk _ => by rw [setRow_other _ _ _ _ (by omega)]; exact HFR.out.block k hk (by simp)⟩
      have hC6 := setRow_heap wr w.heap.size (callCells ACall.zero) (callCells ACall.zero) 31 (0, 0) hCr
      generalize wr.setRow w.heap.size (callCells ACall.zero) = w6 at hw6 hC6 ⊢
      go_wp2_with fail
      rw [Exit.noGoto_ret]
      refine bodyPost_ret (v := ResC (ACall.zero, false)) (results_two rfl _ _ w.heap.size 31 _ (0, 0) _ (by rfl) hC6 Tryz.underlying31 rfl infoCall (.bool false) (by rfl)) rfl ?_
      refine ⟨?_, hw6⟩
      unfold readC
      rw [HRES.out]
    · intro i hi hin kv vv w5 hkm5 hit5 hfr5
      have HIT := Lib.hid hit
      have HFR := Lib.hid (hfr.trans hfr5 (by simp))
      clear hit hkm hfr hfr5
      have hparts := Lib.hid (kindParts hi)
      have HROW : Hid (kindRows[i].2.1 = nextW l false → rowOf (nextW l false) = some (kindRows[i].1, kindRows[i].2.1, kindRows[i].2.2)) := fun h => rowOf_some hi h
      have HWI : Hid (kindRows[i].2.1 ≠ nextW l false → ∀ j (hj : j < kindRows.length), j ∈ (sn.push i).toList → kindRows[j].2.1 ≠ nextW l false) := by
        intro hne j hj hm
        simp only [Array.toList_push, List.mem_append, List.mem_singleton] at hm
        rcases hm with hm | rfl
        · exact HW.out j hj hm
        · exact hne
      have hsl := hit5.size_le
      have hfew := kindFew hi
      go_upto_region 6 with (refine wpList_entry_km (by rfl) (.tmp 16) (by rfl) (by rfl) hkm5 hit5 hi ?_; intro hv hhas; obtain ⟨pp, rfl, gf, hgf, hel⟩ := hasAt_slice hhas)
      generalize kindRows[i].1 = kd at *
      generalize kindRows[i].2.1 = kw at *
      generalize kindRows[i].2.2 = fs at *
      have hbs : ∀ x : List UInt8, (⟨x.toArray⟩ : ByteArray) = bs x := fun _ => rfl
      simp only [hbs]
      clear hbs
      have k0 : (w5.alloc (.cells #[.string (bs kw), .slice pp fs.length fs.length] 77)).cell? ⟨w5.heap.size, 0, none⟩ = some (.string (bs kw)) := by simp
      have k1 : (w5.alloc (.cells #[.string (bs kw), .slice pp fs.length fs.length] 77)).cell? ⟨w5.heap.size, 1, none⟩ = some (.slice pp fs.length fs.length) := by simp
      have hfr56 : Fr [] w5 (w5.alloc (.cells #[.string (bs kw), .slice pp fs.length fs.length] 77)) := (Fr.refl _ _).alloc _
      have hx6 := lt_of_cell k0
      have hw5r := hit5.lt
      generalize w5.alloc (.cells #[.string (bs kw), .slice pp fs.length fs.length] 77) = w6 at *
      generalize hX : w5.heap.size = X at *
      simp only at hx6
      have HF := Lib.hid (HFR.out.trans hfr56 (by simp))
      have KM5 := Lib.hid (hkm5.fr hfr56 (by simp))
      have IT5 := Lib.hid (hit5.fr hfr56 (by simp))
      have HF56 := Lib.hid hfr56
      clear hkm5 hit5 HFR hfr56 HIT
      by_cases hkw : kw = nextW l false
      · have HK := Lib.hid (HROW.out hkw)
        subst hkw
        clear HROW HWI HW KM5 IT5 hkm4 hIt4
        have hC6 := HF.out.blockAs hC4 (by simp; omega)
        have hR6 := HF.out.trans (Fr.refl [] w6) (by simp) |> fun h => hR4.fr h (by simp; omega) (by simp; have := hfr4.size; omega)
        have HF6 := Lib.hid (hfr4.trans HF.out (by simp; omega))
        have z0 : w6.cell? ⟨w.heap.size, 0, none⟩ = some (.int .u8 0) := by rw [Lib.cell_of_heap hC6]; rfl
        have zf : w6.frozen? ⟨w.heap.size, 0, none⟩ = false := Lib.frozen_of_heap hC6 0
        have hXC : X ≠ w.heap.size := by have := HF6.out.size; omega
        have k1' : ∀ u, (w6.setCell ⟨w.heap.size, 0, none⟩ u).cell? ⟨X, 1, none⟩ = some (.slice pp fs.length fs.length) := fun u => by
          rw [World.cell?_setCell_other _ _ _ _ (by first | (simp; done) | (simp; omega))]; exact k1
        have HEL := Lib.hid hel
        clear hel
        have hR7 := hR6.setOther (C := w.heap.size) (o := 0) (by omega) (by omega) (.int .u8 (kd : Nat))
        have hC7 : (w6.setCell ⟨w.heap.size, 0, none⟩ (.int .u8 (kd : Nat))).heap[w.heap.size]? = some (.cells (callCells { ACall.zero with kind := kd }) 31 (0, 0)) := setCell_block hC6 _
        have HF7 : Fr [] w (w6.setCell ⟨w.heap.size, 0, none⟩ (.int .u8 (kd : Nat))) := HF6.out.setCell (by simp) _
        have hgl : ∀ k (hk : k < fs.length), (w6.setCell ⟨w.heap.size, 0, none⟩ (.int .u8 (kd : Nat))).cell? ⟨gf, k, none⟩ = some (fnV fs[k]) := fun k hk => by
          have h5 := lt_of_cell (HEL.out k hk).2
          rw [World.cell?_setCell_other _ _ _ _ (by first | (simp; done) | (simp; omega))]
          exact HF56.out.cellAs (HEL.out k hk).2 (by simp)
        have HGL := Lib.hid hgl
        have HR7 := Lib.hid hR7
        have HC7 := Lib.hid hC7
        have HFF := Lib.hid HF7
        clear hgl hR7 hC7 HF7 HF HF56 hC6 hR6 HF6
        go_wp2_with fail
        clear z0 zf k0 k1 k1'
        generalize w6.setCell ⟨w.heap.size, 0, none⟩ (.int .u8 (kd : Nat)) = w7 at *
        have henv7 := henv.fr HFF.out (by simp)
        generalize hs0 : (⟨{ ACall.zero with kind := kd }, nextL l false, nextB l false⟩ : RS) = s0 at *
        have hs0l : s0.l = nextL l false := by rw [← hs0]
        have hs0b : s0.bad = nextB l false := by rw [← hs0]
        have hs0c : s0.c = { ACall.zero with kind := kd } := by rw [← hs0]
        rw [← hs0l, ← hs0b] at HR7
        rw [← hs0c] at HC7
        have hlen0 : s0.l.length ≤ 1099511627776 := by rw [hs0l]; exact Nat.le_trans (nextL_length _ _) hll
        have HL0 : Hid (∀ x ∈ s0.l, x.length ≤ 1048576) := by
          intro x hx
          rw [hs0l] at hx
          exact HLW.out x (nextL_mem hx)
        have HS0 := Lib.hid hs0
        clear hs0 hs0l hs0b hs0c

        go_loopg [31] fs.length (fun g i wr => ∃ k : Nat, k + g = fs.length ∧ i = .int .i64 k ∧ RCod (w.heap.size + 1) b wr (rdAll (fs.take k) s0).l (rdAll (fs.take k) s0).bad ∧
          wr.heap[w.heap.size]? = some (.cells (callCells (rdAll (fs.take k) s0).c) 31 (0, 0)) ∧ Fr [w.heap.size + 1, w.heap.size] w7 wr)
        case atStart => exact ⟨0, by omega, rfl, by simpa [rdAll] using HR7.out, by simpa [rdAll] using HC7.out, Fr.refl _ _⟩
        case round =>
          obtain ⟨k, hkg, rfl, hRk, hCk, hfk⟩ := hrel
          by_cases hlt : k < fs.length
          · obtain ⟨hpp, hcell⟩ : pp = some ⟨gf, 0, none⟩ ∧ wr.cell? ⟨gf, k, none⟩ = some (fnV fs[k]) := ⟨(HEL.out k hlt).1, hfk.cellAs (HGL.out k hlt) (by simp; omega)⟩
            subst hpp
            have hpart := hparts.out fs[k] (List.getElem_mem hlt)
            have HP := Lib.hid (rdAt hpart)
            have HS := Lib.hid (rdAll_succ fs s0 hlt)
            generalize fs[k] = f at *
            unfold fnV at hcell
            have hlw : ∀ x ∈ (rdAll (fs.take k) s0).l, x.length ≤ 1048576 := fun x hx => HL0.out x (rdAll_mem hx)
            have hln := rdAll_length (fs.take k) s0
            have henvk := henv7.fr hfk (by simp; omega)
            generalize rdAll (fs.take k) s0 = sk at *
            have HLk := Lib.hid hlw
            have HRk := Lib.hid hRk
            have HCk := Lib.hid hCk
            have HFk := Lib.hid hfk
            clear hlw hRk hCk hfk
            rcases hpart with rfl | rfl | rfl | rfl | rfl | rfl | rfl | rfl | rfl
            all_goals
              go_wp2_with fail
              refine (HP.out (w.heap.size + 1) b w.heap.size wr sk henvk HRk.out HCk.out (by omega) (by omega) (by omega) (by omega) (by omega) HLk.out).mono ?_
              rintro e w8 ⟨rfl, h1, h2, h3⟩
              go_wp2_with fail
              go_roundg (gk - 1)
              case measure => omega
              case rel => exact ⟨k + 1, by omega, by go_num, by rw [HS.out]; exact h1, by rw [HS.out]; exact h2, HFk.out.andThen h3⟩
          · obtain rfl : k = fs.length := by omega
            rw [List.take_length] at hRk hCk
            have hrs : readS (kd, nextW l false, fs) l = rdAll fs s0 := by rw [← HS0.out]; rfl
            have hres : readC l = ((rdAll fs s0).c, !(rdAll fs s0).bad && (rdAll fs s0).l.isEmpty) := by
              unfold readC
              rw [HK.out]
              simp only [hrs]
            have HRES := Lib.hid hres
            have HFx := Lib.hid (HFF.out.trans hfk (by simp))
            clear hrs hres hfk HK HS0 HR7 HC7
            go_wp2_with fail
            generalize rdAll fs s0 = sk at *
            obtain ⟨vv2, hb2, hs2, _⟩ := hRk
            obtain ⟨qp, qc, rfl⟩ : ∃ p c, vv2 = .slice p sk.l.length c := by
              rcases hs2 with ⟨h1, p, c, h2⟩ | ⟨off, cap, h1, h2, h3⟩
              · exact ⟨p, c, by rw [h1]; exact h2⟩
              · exact ⟨_, cap, h1⟩
            have d3 : wr.cell? ⟨w.heap.size + 1, 3, none⟩ = some (.bool sk.bad) := by rw [Lib.cell_of_heap hb2]; rfl
            have d1 : wr.cell? ⟨w.heap.size + 1, 1, none⟩ = some (.slice qp sk.l.length qc) := by rw [Lib.cell_of_heap hb2]; rfl
            have hCd : wr.drew.heap[w.heap.size]? = some (.cells (callCells sk.c) 31 (0, 0)) := hCk
            clear hb2 hs2 hCk
            have HCD := Lib.hid hCd
            have HFd : Hid (Fr [] w wr.drew) := HFx.out.drew
            clear hCd
            have fin : ∀ v : Bool, v = (!sk.bad && sk.l.isEmpty) → ∀ e : Ending, e = .returned (.tuple #[.agg (callCells sk.c), .bool v]) → e = .returned (ResC (readC l)) ∧ Fr [] w wr.drew := by
              rintro v rfl e rfl
              refine ⟨?_, HFd.out⟩
              rw [HRES.out]; rfl
            have FIN := Lib.hid fin
            clear fin
            obtain ⟨bd, hbd⟩ : ∃ bd, Hid (sk.bad = bd) := ⟨_, rfl⟩
            rw [hbd.out] at d3
            obtain ⟨n, hn, hnn⟩ : ∃ n : Nat, Hid (sk.l.isEmpty = decide (n = 0)) ∧ sk.l.length = n := ⟨_, by show _ = _; cases sk.l <;> simp, rfl⟩
            rw [hnn] at d1
            clear hnn
            cases bd
            all_goals
              refine wp_region_still_lit (by kernel_rfl) (by kernel_rfl) ?_
              refine wpStill_load_row rfl 31 (.tmp 2) (by rfl) w.heap.size (by rfl) 31 (callCells sk.c) (0, 0) _ HCD.out Tryz.underlying31 rfl infoCall ?_
              iterate 13 still_step
              refine wpStill_store_same rfl 31 (.tmp 2) (.tmp 39) (by rfl) w.heap.size (callCells sk.c) (by rfl) (by rfl) 31 HCD.out infoCall (callCells_one _) ?_
              still_step
              refine wpStill_nil ?_
              go_wp2_with fail
              rw [Exit.noGoto_ret]
              refine bodyPost_ret (v := .tuple #[.agg (callCells sk.c), _]) (results_two rfl _ _ w.heap.size 31 _ (0, 0) _ (by rfl) HCD.out Tryz.underlying31 rfl infoCall _ (by rfl)) rfl ?_
              refine FIN.out _ ?_ _ rfl
              rw [hbd.out, hn.out]
              first
                | rfl
                | (rw [Bool.eq_iff_iff]; simp; done)
                | (rw [Bool.eq_iff_iff]; simp; omega)
      · have hb : (kw == nextW l false) = false := by simpa using hkw
        go_wp2_with fail
        go_roundg (gk - 1)
        case measure => simp at hsl; omega
        case rel => exact ⟨sn.push i, by simp at hsl ⊢; omega, KM5.out, IT5.out, HF.out, HWI.out hkw⟩
end Go.Proofs.YtcaeppncippknaaGreatDoor
