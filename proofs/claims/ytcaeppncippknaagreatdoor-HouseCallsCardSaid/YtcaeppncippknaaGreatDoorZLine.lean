/- house.Line: for every call whose texts are below 300000 bytes. Conditions: the package variables' facts (Env), and the contract of house.read. -/
import Derived.Test.YtcaeppncippknaaGreatDoorZRead0A
import Derived.Test.YtcaeppncippknaaGreatDoorZBaseA
import Derived.Test.YtcaeppncippknaaGreatDoorZKmA
import Derived.Test.YtcaeppncippknaaGreatDoorZStrs
import Derived.Deep.RegionWith
import Derived.Deep.LoopGhost
import Derived.Deep.DeepCutAuto
namespace Go.Proofs.YtcaeppncippknaaGreatDoor
open Go Go.RowKit

theorem zeroKind (w : World) : (zeroValue 77).run Tryz.prog w = .ok (.agg #[.string ⟨#[]⟩, .slice none 0 0]) w := by
  have h : (Tryz.prog.info? 77).map (fun i => i.zero) = some (some (.agg #[.string ⟨#[]⟩, .slice none 0 0])) := by kernel_rfl
  obtain ⟨i, hi, hz⟩ := Option.map_eq_some_iff.1 h
  simp [zeroValue, typeInfo, hi, hz]
theorem kindNums : (kindRows.map (·.1)).Nodup := by decide

theorem lookup_line {w : World} {B : Nat} (c : ACall) (h : KM B kindRows w) :
    ∃ pp gf, B < gf ∧ (Instr.lookup 79 (.map (some B)) (.int .u8 (c.kind : Nat)) true).run Tryz.prog w = .ok (.tuple #[.agg #[.string (bs (lineX c).2.1), .slice pp (lineX c).2.2.length (lineX c).2.2.length], .bool (lineK c).isSome]) w ∧
      (∀ ob, (Instr.lookup 79 (.map (some B)) (.int .u8 (c.kind : Nat)) true).run Tryz.prog (w.alloc ob) = .ok (.tuple #[.agg #[.string (bs (lineX c).2.1), .slice pp (lineX c).2.2.length (lineX c).2.2.length], .bool (lineK c).isSome]) (w.alloc ob)) ∧
      ∀ k (hk : k < (lineX c).2.2.length), pp = some ⟨gf, 0, none⟩ ∧ w.cell? ⟨gf, k, none⟩ = some (fnV (lineX c).2.2[k]) := by
  have hlt := h.lt
  obtain ⟨v, h1, h2⟩ := run_lookup_km2 (P := Tryz.prog) Tryz.underlying79 Tryz.underlying5 h kindNums zeroKind c.kind
  obtain ⟨pp, rfl, gf, hgf, h3⟩ := hasAt_slice h2
  exact ⟨pp, gf, hgf, h1 w rfl, fun ob => h1 _ (Below.heap_alloc _ _ _ hlt), h3⟩

set_option maxHeartbeats 16000000 in
set_option maxRecDepth 100000 in
theorem line_calls (hread : ReadAt) (c : ACall) (hwf : c.Wf) (hsh : c.Short) (w : World) (henv : Env w) :
    Calls Tryz.prog 13 #[.agg (callCells c)] w fun e w' => e = .returned (ResL c) ∧ Fr [] w w' := by
  have h8 := henv.size
  have HREAD := Lib.hid hread
  clear hread
  go_enter Tryz.func13, Tryz.ntmps13
  go_upto_region 1 with fail
  have hC1 : (w.alloc (.cells (callCells c) 31)).heap[w.heap.size]? = some (.cells (callCells c) 31 (0, 0)) := (MapKept.heap_alloc w _).1
  have hfr1 : Fr [] w (w.alloc (.cells (callCells c) 31)) := (Fr.refl _ _).alloc _
  generalize w.alloc (.cells (callCells c) 31) = w1 at *
  have c1 : w1.cell? ⟨w.heap.size, 0, none⟩ = some (.int .u8 (c.kind : Nat)) := by rw [Lib.cell_of_heap hC1]; rfl
  have hW := lt_of_block hC1
  have HC1 := Lib.hid hC1
  have HF1 := Lib.hid hfr1
  clear hC1 hfr1
  go_cut [4, 5] (fun s4 s5 wx => ∃ X pp gf, s4 = .pointer (some ⟨X, 0, none⟩) ∧ s5 = .bool (lineK c).isSome ∧ wx.cell? ⟨X, 0, none⟩ = some (.string (bs (lineX c).2.1)) ∧ wx.cell? ⟨X, 1, none⟩ = some (.slice pp (lineX c).2.2.length (lineX c).2.2.length) ∧
    (∀ k (hk : k < (lineX c).2.2.length), pp = some ⟨gf, 0, none⟩ ∧ wx.cell? ⟨gf, k, none⟩ = some (fnV (lineX c).2.2[k])) ∧ Fr [] w1 wx)
  case first =>
    go_region_with (first | (go_at_call 33; refine (kinds_calls w1.drew).mono ?_; rintro e w2 ⟨rfl, hk⟩
                             have HF : Hid (Fr [] w1 w1.drew) := (Fr.refl _ _).drew
                             have q0 : w2.cell? ⟨w.heap.size, 0, none⟩ = some (.int .u8 (c.kind : Nat)) := (HF.out.trans hk.2 (by simp)).cellAs c1 (by simp)
                             have q0a : ∀ ob, (w2.alloc ob).cell? ⟨w.heap.size, 0, none⟩ = some (.int .u8 (c.kind : Nat)) := fun ob => ((Fr.refl [] w2).alloc ob).cellAs q0 (by simp)
                             have hF2 := Lib.hid (HF.out.trans hk.2 (by simp))
                             have hk1 := hk.1
                             (try simp at hk1)
                             obtain ⟨pp, gf, hgf, hlk, hlk', hel⟩ := lookup_line c hk1
                             have HEL := Lib.hid hel
                             clear hel hk hk1 HF)
                          | (go_at_call 33; refine (kinds_calls (w1.drew.alloc (.cells #[.string ⟨#[]⟩, .slice none 0 0] 77))).mono ?_; rintro e w2 ⟨rfl, hk⟩
                             have HF : Hid (Fr [] w1 (w1.drew.alloc (.cells #[.string ⟨#[]⟩, .slice none 0 0] 77))) := (Fr.refl _ _).drew.alloc _
                             have q0 : w2.cell? ⟨w.heap.size, 0, none⟩ = some (.int .u8 (c.kind : Nat)) := (HF.out.trans hk.2 (by simp)).cellAs c1 (by simp)
                             have q0a : ∀ ob, (w2.alloc ob).cell? ⟨w.heap.size, 0, none⟩ = some (.int .u8 (c.kind : Nat)) := fun ob => ((Fr.refl [] w2).alloc ob).cellAs q0 (by simp)
                             have hb2 : w2.heap[w1.heap.size]? = some (.cells #[.string ⟨#[]⟩, .slice none 0 0] 77 (0, 0)) := hk.2.blockAs (MapKept.heap_alloc w1.drew _).1 (by simp)
                             have q1 : w2.cell? ⟨w1.heap.size, 0, none⟩ = some (.string ⟨#[]⟩) := by rw [Lib.cell_of_heap hb2]; rfl
                             have q2 : w2.cell? ⟨w1.heap.size, 1, none⟩ = some (.slice none 0 0) := by rw [Lib.cell_of_heap hb2]; rfl
                             have g1 : w2.frozen? ⟨w1.heap.size, 0, none⟩ = false := Lib.frozen_of_heap hb2 0
                             have g2 : w2.frozen? ⟨w1.heap.size, 1, none⟩ = false := Lib.frozen_of_heap hb2 1
                             have HB2 := Lib.hid hb2
                             clear hb2
                             have hF2 := Lib.hid (HF.out.trans hk.2 (by simp))
                             have hk1 := hk.1
                             (try simp at hk1)
                             obtain ⟨pp, gf, hgf, hlk, hlk', hel⟩ := lookup_line c hk1
                             have HEL := Lib.hid hel
                             clear hel hk hk1 HF))
    all_goals go_wp2_with fail
    all_goals go_meet
    all_goals first
      | exact ⟨_, pp, gf, rfl, rfl, by simp, by simp, fun k hk => ⟨(HEL.out k hk).1, ((Fr.refl [] w2).alloc _).cellAs (HEL.out k hk).2 (by simp)⟩, hF2.out.alloc _⟩
      | (have hb3 := setCell_block (setCell_block HB2.out (.string (bs (lineX c).2.1)) (i := 0)) (.slice pp (lineX c).2.2.length (lineX c).2.2.length) (i := 1)
         exact ⟨w1.heap.size, pp, gf, rfl, rfl, by rw [Lib.cell_of_heap hb3]; rfl, by rw [Lib.cell_of_heap hb3]; rfl,
          fun k hk => ⟨(HEL.out k hk).1, (((Fr.refl [w1.heap.size] w2).setCell (by simp) _).setCell (by simp) _).cellAs (HEL.out k hk).2 (by simp; omega)⟩, (hF2.out.setCell (by simp) _).setCell (by simp) _⟩)
  case rest =>
    obtain ⟨X, pp, gf, rfl, rfl, k0, k1, hel, hfx⟩ := hcut
    have hCx := hfx.blockAs HC1.out (by simp)
    have HFX := Lib.hid (HF1.out.trans hfx (by simp))
    have hX := lt_of_cell k0
    have hsx : w.heap.size < wc.heap.size := by have := hfx.size; omega
    have HEL := Lib.hid hel
    have hparts := Lib.hid (lineX_parts c)
    have hfew := lineX_few c
    have henvx := henv.fr HFX.out (by simp)
    clear hfx hel HC1 HF1 c1 henv
    generalize hkw : (lineX c).2.1 = kw at *
    generalize hfs : (lineX c).2.2 = fs at *
    generalize hsm : (lineK c).isSome = sm at *
    have HKW := Lib.hid hkw
    have HFS := Lib.hid hfs
    have HSM := Lib.hid hsm
    clear hkw hfs hsm
    have hs0 : w.heap.size < wc.heap.size := hsx
    have hgfK : ∀ k (hk : k < fs.length), gf < wc.heap.size := fun k hk => by simpa using lt_of_cell (HEL.out k hk).2
    have HGF := Lib.hid hgfK
    clear hgfK
    go_upto_region 3 with fail
    generalize hw2 : wc.alloc (.cells #[.slice none 0 0, .slice none 0 0, .bool false, .bool false] 83) = w2 at *
    have hW2 : WCod wc.heap.size (wc.heap.size + 1) w2 [] false := by subst hw2; exact ⟨_, (MapKept.heap_alloc wc _).1, World.ownsRow_nil _ _ _ _⟩
    have hf2 : Fr [] wc w2 := by subst hw2; exact (Fr.refl _ _).alloc _
    have hs2 : w2.heap.size = wc.heap.size + 1 := by subst hw2; simp
    have j0 := hf2.cellAs k0 (by simp)
    have j1 := hf2.cellAs k1 (by simp)
    have hC2 := Lib.hid (hf2.blockAs hCx (by simp))
    have henv2 := henvx.fr hf2 (by simp)
    have HEL2 : Hid (∀ k (hk : k < fs.length), pp = some ⟨gf, 0, none⟩ ∧ w2.cell? ⟨gf, k, none⟩ = some (fnV fs[k])) := fun k hk => ⟨(HEL.out k hk).1, hf2.cellAs (HEL.out k hk).2 (by simp)⟩
    have HF2 := Lib.hid (HFX.out.trans hf2 (by simp))
    clear hw2 hf2 HFX HEL k0 k1 hCx henvx
    generalize hK : wc.heap.size = K at *
    clear hK
    simp only at hX
    go_wp2_with fail
    refine (put_calls K (K + 1) w2 [] false kw hW2 (by omega) (by omega) (by simp)).mono ?_
    rintro e w3 ⟨rfl, hW3, hb3⟩
    rw [List.nil_append] at hW3
    have l1 : w3.cell? ⟨X, 1, none⟩ = some (.slice pp fs.length fs.length) := by
      rw [hb3.cell (by simp; omega) (by simp; omega)]; exact j1
    have HEL3 : Hid (∀ k (hk : k < fs.length), pp = some ⟨gf, 0, none⟩ ∧ w3.cell? ⟨gf, k, none⟩ = some (fnV fs[k])) := fun k hk => ⟨(HEL2.out k hk).1, by
      have := HGF.out k hk
      rw [hb3.cell (by simp; omega) (by simp; omega)]; exact (HEL2.out k hk).2⟩
    have HC3 : Hid (w3.heap[w.heap.size]? = some (.cells (callCells c) 31 (0, 0))) := (hb3.block _ (by omega) (by omega)).trans hC2.out
    have henv3 : Env w3 := henv2.of_blocks hb3.size fun k hk => hb3.block k (by omega) (by omega)
    have HF3 : Hid (Fr [] w w3) := Fr.of_below (HF2.out.below.trans (hb3.below (by omega) (by omega)))
    have hsz3 : K + 1 ≤ w3.heap.size := by have := hb3.size; omega
    have HW3 := Lib.hid hW3
    clear hW3 hb3 HEL2 hC2 henv2 HF2 hW2 j0 j1 hs2
    go_wp2_with fail
    go_loopg [27] fs.length (fun g i wr => ∃ k : Nat, k + g = fs.length ∧ i = .int .i64 k ∧ WCod K (K + 1) wr (kw :: wrAll (fs.take k) c) (wrBad (fs.take k) c) ∧ But (K + 1) K w3 wr)
    case atStart => exact ⟨0, by omega, rfl, by simpa [wrAll, wrBad] using HW3.out, But.refl _ _ _⟩
    case round =>
      obtain ⟨k, hkg, rfl, hWk, hbk⟩ := hrel
      have hszk : K + 1 ≤ wr.heap.size := by have := hbk.size; omega
      by_cases hlt : k < fs.length
      · obtain ⟨hpp, hcell⟩ : pp = some ⟨gf, 0, none⟩ ∧ wr.cell? ⟨gf, k, none⟩ = some (fnV fs[k]) := ⟨(HEL3.out k hlt).1, by
          have := HGF.out k hlt
          rw [hbk.cell (by simp; omega) (by simp; omega)]; exact (HEL3.out k hlt).2⟩
        subst hpp
        have hpart := hparts.out fs[k] (List.getElem_mem hlt)
        have HP := Lib.hid (wrAt hpart)
        have HS := Lib.hid (wrAll_succ fs c hlt)
        have HSB := Lib.hid (wrBad_succ fs c hlt)
        generalize fs[k] = f at *
        unfold fnV at hcell
        have hlen := wrAll_length c (fs.take k)
        have htk : (fs.take k).length ≤ 4 := by rw [List.length_take]; omega
        have HO : Hid ((kw :: wrAll (fs.take k) c).length ≤ 1099511627775) := by show _ ≤ _; rw [List.length_cons]; omega
        have henvk : Env wr := henv3.of_blocks hbk.size fun j hj => hbk.block j (by omega) (by omega)
        have HCk : Hid (wr.heap[w.heap.size]? = some (.cells (callCells c) 31 (0, 0))) := (hbk.block _ (by omega) (by omega)).trans HC3.out
        have HWk := Lib.hid hWk
        have HBk := Lib.hid hbk
        clear hWk hbk hlen htk
        rcases hpart with rfl | rfl | rfl | rfl | rfl | rfl | rfl | rfl | rfl
        all_goals
          go_wp2_with fail
          refine (HP.out K (K + 1) w.heap.size wr c _ _ henvk HWk.out HCk.out hwf (by omega) hszk (by omega) (by omega) (by omega) (by omega) HO.out).mono ?_
          rintro e w8 ⟨rfl, h1, h2⟩
          go_wp2_with fail
          go_roundg (gk - 1)
          case measure => omega
          case rel => exact ⟨k + 1, by omega, by go_num, by rw [HS.out, HSB.out]; exact h1, HBk.out.trans h2⟩
      · obtain rfl : k = fs.length := by omega
        rw [List.take_length] at hWk
        have hout : lineOut c = kw :: wrAll fs c := by unfold lineOut; rw [HKW.out, HFS.out]
        have hbad : wrBad (lineX c).2.2 c = wrBad fs c := by rw [HFS.out]
        have hok : lineOk c = (sm && !wrBad fs c && (readC (lineOut c)).2 && decide ((readC (lineOut c)).1 = c)) := by unfold lineOk; rw [HSM.out, hbad]
        rw [← hout] at hWk
        have HOK := Lib.hid hok
        have hlo := lineOut_length c
        have HSMALL := Lib.hid (lineOut_small hwf hsh)
        have hpos : 0 < (lineOut c).length := by rw [hout]; simp
        have hCr : wr.heap[w.heap.size]? = some (.cells (callCells c) 31 (0, 0)) := (hbk.block _ (by omega) (by omega)).trans HC3.out
        have henvr : Env wr := henv3.of_blocks hbk.size fun j hj => hbk.block j (by omega) (by omega)
        have HFR : Hid (Fr [] w wr) := Fr.of_below (HF3.out.below.trans (hbk.below (by omega) (by omega)))
        clear hout hbad hok HW3 HC3 henv3 HF3 hbk
        generalize hLO : lineOut c = out at *
        have HLO := Lib.hid hLO
        clear hLO
        generalize wrBad fs c = bad at *
        obtain ⟨v, hbK, hown⟩ := hWk
        rcases strsIn_of_owns hown with ⟨hnil, _⟩ | ⟨g, cap, hgB, hgs, hcap, rfl, hcells⟩
        · rw [hnil] at hpos; exact absurd hpos (by simp)
        have d0 : wr.cell? ⟨K, 0, none⟩ = some (.slice (some ⟨g, 0, none⟩) out.length cap) := by rw [Lib.cell_of_heap hbK]; rfl
        have HBK := Lib.hid hbK
        have HCR := Lib.hid hCr
        have HCELLS := Lib.hid hcells
        clear hbK hown hCr hcells
        go_wp2_with fail
        refine (clone_calls out g cap wr (by omega) HCELLS.out).mono ?_
        rintro e w5 ⟨v5, rfl, hown5, hf5⟩
        obtain ⟨b5, hs5⟩ := strsIn_any hown5
        go_wp2_with fail
        refine (HREAD.out b5 v5 out w5 (henvr.fr hf5 (by simp)) hs5 (by omega) HSMALL.out).mono ?_
        rintro e w6 ⟨rfl, hf6⟩
        unfold ResC
        generalize readC out = rc at *
        have hC6 := hf6.blockAs (hf5.blockAs HCR.out (by simp)) (by simp)
        have hK6 := hf6.blockAs (hf5.blockAs HBK.out (by simp)) (by simp)
        have HF6 := Lib.hid ((HFR.out.trans hf5 (by simp)).trans hf6 (by simp))
        have hcells6 : ∀ i (hi : i < out.length), w6.cell? ⟨g, i, none⟩ = some (strV out[i]) := fun i hi => hf6.cellAs (hf5.cellAs (HCELLS.out i hi) (by simp)) (by simp)
        have hs6 : w.heap.size < w6.heap.size := by have := lt_of_block hC6; omega
        have hg6 : g < w6.heap.size := by have := hf5.size; have := hf6.size; omega
        have hKs6 := lt_of_block hK6
        have henv6 := henvr.fr (hf5.trans hf6 (by simp)) (by simp)
        clear hs5 hown5 hf5 hf6 HCR HBK HCELLS HFR henvr
        have HK6 := Lib.hid hK6
        have HC6 := Lib.hid hC6
        have HX6 := Lib.hid hcells6
        clear hK6 hC6 hcells6
        go_upto_region 10 with (refine wpList_store_row (by rfl) 31 (.tmp 9) (.tmp 42) (by rfl) w6.heap.size (callCells rc.1) (by rfl) (by rfl) 31 _ (MapKept.heap_alloc w6 _).1 infoCall rfl (callCells_one _) ?_)
        generalize hw7 : (w6.alloc _).setRow w6.heap.size (callCells rc.1) = w7
        have hold : ∀ j o, j < w6.heap.size → w6.heap[j]? = some o → w7.heap[j]? = some o := by
          intro j o hj ho
          subst hw7
          rw [setRow_other _ _ _ _ (by omega), Lib.alloc_old _ _ _ hj]
          exact ho
        have hD7 : w7.heap[w6.heap.size]? = some (.cells (callCells rc.1) 31 (0, 0)) := by
          subst hw7
          exact setRow_heap _ _ _ _ _ _ (MapKept.heap_alloc w6 _).1
        have hf7 : Fr [] w6 w7 := by
          subst hw7
          exact ((Fr.refl _ _).alloc _).setRow (fun h => absurd h (by omega)) _
        clear hw7
        have HC7 := Lib.hid (hold _ _ hs6 HC6.out)
        have hK7 := hold _ _ hKs6 HK6.out
        have k0 : w7.cell? ⟨K, 0, none⟩ = some (.slice (some ⟨g, 0, none⟩) out.length cap) := by rw [Lib.cell_of_heap hK7]; rfl
        have k3 : w7.cell? ⟨K, 3, none⟩ = some (.bool bad) := by rw [Lib.cell_of_heap hK7]; rfl
        have HX7 : Hid (∀ i (hi : i < out.length), w7.cell? ⟨g, i, none⟩ = some (strV out[i])) := fun i hi => hf7.cellAs (HX6.out i hi) (by simp)
        have HF7 := Lib.hid (HF6.out.trans hf7 (by simp))
        have HD7 := Lib.hid hD7
        have hg7 : g < w7.heap.size := by have := hf7.size; omega
        clear hold hD7 hf7 hK7 HK6 HC6 HX6 HF6
        rcases rc with ⟨rd, is⟩
        simp only at HOK HD7
        cases sm with
        | false =>
          have HNO : Hid (lineOk c = false) := by rw [HOK.out]; rfl
          go_wp2_with fail
          go_ret2
          exact ⟨by rw [resL_no HNO.out]; rfl, HF7.out⟩
        | true =>
          cases bad with
          | true =>
            have HNO : Hid (lineOk c = false) := by rw [HOK.out]; rfl
            go_wp2_with fail
            go_ret2
            exact ⟨by rw [resL_no HNO.out]; rfl, HF7.out⟩
          | false =>
            cases is with
            | false =>
              have HNO : Hid (lineOk c = false) := by rw [HOK.out]; rfl
              go_wp2_with fail
              go_ret2
              exact ⟨by rw [resL_no HNO.out]; rfl, HF7.out⟩
            | true =>
              have hneq := neqCall rd c
              by_cases hrd : rd = c
              · have HYES : Hid (lineOk c = true) := by show _ = _; rw [HOK.out, hrd]; simp
                have hdec : decide (rd = c) = true := by simp [hrd]
                clear hrd
                rw [hdec] at hneq
                clear hdec
                go_wp2_with (first
                  | (refine wpList_load_row_g (by rfl) 31 (.tmp 9) (by rfl) w6.heap.size (by rfl) 31 _ _ _ HD7.out Tryz.underlying31 rfl infoCall ?_)
                  | (refine wpList_load_row_g (by rfl) 31 (.tmp 1) (by rfl) w.heap.size (by rfl) 31 _ _ _ HC7.out Tryz.underlying31 rfl infoCall ?_))
                refine (join_calls out g cap w7 (by omega) hcap hg7 HSMALL.out HX7.out).mono ?_
                rintro e w8 ⟨rfl, hf8⟩
                go_wp2_with fail
                go_ret2
                exact ⟨by rw [resL_yes HYES.out, HLO.out]; rfl, HF7.out.trans hf8 (by simp)⟩
              · have HNO : Hid (lineOk c = false) := by show _ = _; rw [HOK.out]; simp [hrd]
                have hdec : decide (rd = c) = false := by simp [hrd]
                clear hrd
                rw [hdec] at hneq
                clear hdec
                go_wp2_with (first
                  | (refine wpList_load_row_g (by rfl) 31 (.tmp 9) (by rfl) w6.heap.size (by rfl) 31 _ _ _ HD7.out Tryz.underlying31 rfl infoCall ?_)
                  | (refine wpList_load_row_g (by rfl) 31 (.tmp 1) (by rfl) w.heap.size (by rfl) 31 _ _ _ HC7.out Tryz.underlying31 rfl infoCall ?_))
                go_ret2
                exact ⟨by rw [resL_no HNO.out]; rfl, HF7.out⟩
end Go.Proofs.YtcaeppncippknaaGreatDoor
