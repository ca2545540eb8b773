/- house.Told: an answer's lines. Conditions: texts below 2^20 bytes, fewer than 2^20 items; the package variables' facts (Env). -/
import Derived.Test.YtcaeppncippknaaGreatDoorZTold0
import Derived.Test.YtcaeppncippknaaGreatDoorZWord
import Derived.Test.YtcaeppncippknaaGreatDoorZNumA
import Derived.Test.YtcaeppncippknaaGreatDoorZPut
import Derived.Deep.RegionHeld3
import Derived.Deep.AppendLies
import Derived.Deep.LoopGhost
import Derived.Deep.DeepCutAuto
namespace Go.Proofs.YtcaeppncippknaaGreatDoor
open Go Go.RowKit

theorem state_calls (b : Bool) (w : World) : Calls Tryz.prog 59 #[.bool b] w fun e w' => e = .returned (.string (bs (stW b))) ∧ w = w' := by
  cases b
  all_goals
    go_enter Tryz.func59, Tryz.ntmps59
    go_wp2
    go_ret
    exact ⟨rfl, rfl⟩
/-- A row of texts of the call's own, from block B on. -/
def Own (B : Nat) (w : World) (v : Value) (l : List (List UInt8)) : Prop := w.ownsRow B 9 1 v l.length (l.map strV)
theorem Own.one {B g : Nat} {w : World} {x : List UInt8} (hg : B ≤ g) (hb : w.heap[g]? = some (.cells #[strV x] 9 (0, 0))) : Own B w (.slice (some ⟨g, 0, none⟩) 1 1) [x] :=
  ⟨rfl, .inr ⟨g, 1, _, rfl, hg, hb, Nat.le_refl _, by decide, rfl, rfl⟩⟩
theorem Own.fr {B : Nat} {w w' : World} {v : Value} {l : List (List UInt8)} (h : Own B w v l) (hf : Fr [] w w') : Own B w' v l := by
  refine ⟨h.1, ?_⟩
  rcases h.2 with h | ⟨g, cap, cur, hv, hg, hh, r⟩
  · exact .inl h
  · exact .inr ⟨g, cap, cur, hv, hg, hf.blockAs hh (by simp), r⟩

set_option maxHeartbeats 4000000 in
set_option maxRecDepth 100000 in
theorem told_calls (a : AAns) (iv : Value) (b : Nat) (hwf : a.Wf) (w : World) (henv : Env w) (hit : ItemsIn w b iv a.items) :
    Calls Tryz.prog 24 #[.agg (ansCells a iv)] w fun e w' => ∃ v, e = .returned v ∧ Own (w.heap.size + 1) w' v (toldP a) ∧ Fr [] w w' := by
  have h8 := henv.size
  obtain ⟨ip, ic, io, rfl, hic⟩ := hit
  have HIC := Lib.hid hic
  clear hic
  go_enter Tryz.func24, Tryz.ntmps24
  unfold ansCells
  go_upto_region 1 with fail
  generalize hw1 : w.alloc (.cells #[.int .i64 a.code, .int .u64 (a.n : Nat), strV a.text, .slice ip a.items.length ic, .bool a.more] 47) = w1
  have hP1 : w1.heap[w.heap.size]? = some (.cells #[.int .i64 a.code, .int .u64 (a.n : Nat), strV a.text, .slice ip a.items.length ic, .bool a.more] 47 (0, 0)) := by subst hw1; exact (MapKept.heap_alloc w _).1
  have hf1 : Fr [] w w1 := by subst hw1; exact (Fr.refl _ _).alloc _
  have hs1 : w1.heap.size = w.heap.size + 1 := by subst hw1; simp
  clear hw1
  have c0 : w1.cell? ⟨w.heap.size, 0, none⟩ = some (.int .i64 a.code) := by rw [Lib.cell_of_heap hP1]; rfl
  have c1 : w1.cell? ⟨w.heap.size, 1, none⟩ = some (.int .u64 (a.n : Nat)) := by rw [Lib.cell_of_heap hP1]; rfl
  have HP1 := Lib.hid hP1
  have HF1 := Lib.hid hf1
  have HS1 := Lib.hid hs1
  have HENV1 := Lib.hid (henv.fr hf1 (by simp))
  have HWF := Lib.hid hwf
  clear hP1 hf1 hs1
  go_cut [3] (fun s3 wx => ∃ g, s3 = .slice (some ⟨g, 0, none⟩) 1 1 ∧ w1.heap.size ≤ g ∧ wx.heap[g]? = some (.cells #[strV (codeL a.code a.n)] 9 (0, 0)) ∧ Fr [] w1 wx)
  case first =>
    have li := Lib.itoa_length_le a.code hwf.code.1 hwf.code.2
    have ld : (Lib.decDigits a.n).length ≤ 20 := by rw [Lib.decDigits_length]; exact Lib.nDigits_le20 a.n hwf.n
    obtain ⟨s1, H1, n1, a1⟩ := app_ex Tryz.prog [99, 111, 100, 101, 32] (Lib.itoa a.code) (by simp; omega)
    obtain ⟨s2, H2, n2, a2⟩ := app_ex Tryz.prog s1 [32] (by simp at n1 ⊢; omega)
    obtain ⟨s3, H3, n3, a3⟩ := app_ex Tryz.prog s2 (Lib.decDigits a.n) (by simp at n1 n2; omega)
    have HC : Hid (codeL a.code a.n = s3) := by show _ = _; rw [H3.out, H2.out, H1.out]; rfl
    clear li ld n1 n2 n3 H1 H2 H3
    go_region_held3 (fun w' => w'.cell? ⟨w.heap.size, 0, none⟩ = some (.int .i64 a.code) ∧ w'.cell? ⟨w.heap.size, 1, none⟩ = some (.int .u64 (a.n : Nat)))
      (first | go_keep | exact ⟨q0, q1⟩ | exact ⟨r0, r1⟩)
      (first | (go_at_call 57; refine (itoa_calls a.code HWF.out.code.1 HWF.out.code.2 _ ?_).mono ?_; (exact HENV1.out.fr (Fr.refl [] w1).drew (by simp)); rintro e w2 ⟨rfl, hf2⟩; have q0 := hf2.cellAs c0 (by simp); have q1 := hf2.cellAs c1 (by simp); have HF2 := Lib.hid hf2; clear hf2)
             | (go_at_call 58; refine (formatUint_calls a.n HWF.out.n _ ?_).mono ?_; (exact HENV1.out.fr ((Fr.refl [] w1).drew.trans HF2.out (by simp)) (by simp)); rintro e w3 ⟨rfl, hf3⟩; have r0 := hf3.cellAs q0 (by simp); have r1 := hf3.cellAs q1 (by simp); have HF3 := Lib.hid hf3; clear hf3))
    go_wp2_with fail
    go_meet
    refine ⟨w3.heap.size, rfl, ?_, ?_, ?_⟩
    · have h2 : w1.heap.size ≤ w2.heap.size := HF2.out.size; have h3 := HF3.out.size; omega
    · rw [HC.out]; exact (MapKept.heap_alloc w3 _).1
    · exact (((Fr.refl [] w1).drew.trans HF2.out (by simp)).trans HF3.out (by simp)).alloc _
  case rest =>
    obtain ⟨g0, rfl, hg0, hb0, hfc⟩ := hcut
    have hs1 := HS1.out
    have hown : Own (w.heap.size + 1) wc (.slice (some ⟨g0, 0, none⟩) 1 1) [codeL a.code a.n] := Own.one (by omega) hb0
    have hPc := hfc.blockAs HP1.out (by simp)
    have hFc := HF1.out.trans hfc (by simp)
    have hszc : w.heap.size + 1 ≤ wc.heap.size := by have := hfc.size; omega
    have HOWN := Lib.hid hown
    have c2 : wc.cell? ⟨w.heap.size, 2, none⟩ = some (.string (bs a.text)) := by rw [Lib.cell_of_heap hPc]; rfl
    have HPC := Lib.hid hPc
    have HFC := Lib.hid hFc
    have henvc := henv.fr hFc (by simp)
    clear hown hPc hFc hfc hb0 hg0 c0 c1 HP1 HF1 HS1 HENV1
    obtain ⟨wy, rfl⟩ : ∃ wy : World, wy = wc := ⟨_, rfl⟩
    go_upto_if 18 with fail
    generalize hte : a.text.isEmpty = te
    have HTE := Lib.hid hte
    clear hte
    go_cut [3] (fun s3 wx => Own (w.heap.size + 1) wx s3 (toldT a) ∧ Below (w.heap.size + 1) wy wx)
    case first =>
      cases te
      rotate_left
      · have htx : a.text = [] := by simpa using HTE.out
        have HT : Hid (toldT a = [codeL a.code a.n]) := by show _ = _; unfold toldT; rw [if_pos htx]
        clear htx
        go_wp2_with fail
        go_meet
        exact ⟨by rw [HT.out]; exact HOWN.out, Below.refl _ _⟩
      · have htx : a.text ≠ [] := by intro e; have := HTE.out; rw [e] at this; cases this
        have HT : Hid (toldT a = [codeL a.code a.n] ++ [textL a.text]) := by show _ = _; unfold toldT; rw [if_neg htx]; rfl
        have hwl := hWord_length a.text
        have hat := hwf.text
        obtain ⟨s1, H1, n1, a1⟩ := app_ex Tryz.prog [116, 101, 120, 116, 32] (hWord a.text) (by simp; omega)
        have HL : Hid (textL a.text = s1) := by show _ = _; rw [H1.out]; rfl
        obtain ⟨i0, hi, hz0, hz1, hz2⟩ := info_parts infoStr
        clear htx hwl n1 H1
        go_wp2_with fail
        refine (word_calls a.text (by omega) wy).mono ?_
        rintro e w2 ⟨rfl, hf2⟩
        have hown2 := HOWN.out.fr hf2
        unfold Own at hown2
        have hs2 := hf2.size
        have HF2 := Lib.hid hf2
        clear hf2
        go_wp2_with (at_builtin; refine wpList_append_own _ rfl _ _ 48 rfl (w.heap.size + 1) 9 i0 (.string ⟨#[]⟩) 1 16 Tryz.underlying48 hi hz0 hz1 hz2 rfl (by decide) _ _ _ rfl (hown2.alloc _) ⟨w2.heap.size, 0, none⟩ 1 1 [.string (bs s1)] rfl rfl ?c1 ?c2 ?c3 ?c4 ?c5 ?_)
        case c1 =>
          intro j u hj
          match j, hj with
          | 0, hj => simp at hj; subst hj; simp [Addr.add]
        case c2 => intro u hu; simp at hu; subst hu; rfl
        case c3 => unfold maxLen; simp
        case c4 => simp
        case c5 => simp; omega
        intro v' w3 hown' hgrow _
        go_wp2_with fail
        go_meet
        refine ⟨?_, ?_⟩
        · rw [HT.out, HL.out]
          exact hown'
        · exact ((HF2.out.belowOf hszc (by simp)).alloc (by omega) _).grown hgrow (by simp; omega) (fun k hk => (hown2.lt k hk).1)
    case rest =>
      obtain ⟨hownx, hbx⟩ := hcut
      have HOWNX := Lib.hid hownx
      have hPx := (hbx.block w.heap.size (by omega)).trans HPC.out
      have hszx : w.heap.size + 1 ≤ wc.heap.size := by have := hbx.size; omega
      have HFX : Hid (Fr [] w wc) := Fr.of_below (HFC.out.below.trans (hbx.mono (by omega)))
      have c3 : wc.cell? ⟨w.heap.size, 3, none⟩ = some (.slice ip a.items.length ic) := by rw [Lib.cell_of_heap hPx]; rfl
      have HPX := Lib.hid hPx
      obtain ⟨wz, rfl⟩ : ∃ wz : World, wz = wc := ⟨_, rfl⟩
      have henvz := henv.fr HFX.out (by simp)
      have hfew := hwf.few
      have HBX := Lib.hid hbx
      clear hownx hPx HOWN HPC HFC c2 HTE henvc hbx hszc
      go_wp2_with fail
      go_loopg [3, 30] a.items.length (fun g v i wr => ∃ (k : Nat) (u : Value), k + g = a.items.length ∧ i = .int .i64 k ∧ u = v ∧ Own (w.heap.size + 1) wr u (toldT a ++ (a.items.take k).map itemL) ∧ Below (w.heap.size + 1) wz wr)
      case atStart => exact ⟨0, _, by omega, rfl, rfl, by simpa using HOWNX.out, Below.refl _ _⟩
      case round =>
        obtain ⟨k, v, hkg, rfl, rfl, hownk, hbk⟩ := hrel
        have hszk : w.heap.size + 1 ≤ wr.heap.size := by have := hbk.size; omega
        have HOWNK := Lib.hid hownk
        have HBK := Lib.hid hbk
        clear hownk hbk
        by_cases hlt : k < a.items.length
        · obtain ⟨hpp, d0, d1, d2, d3⟩ := HIC.out k hlt
          subst hpp
          have hbw : b < w.heap.size := lt_of_cell d0
          have hcc : ∀ o, wr.cell? ⟨b, o, none⟩ = w.cell? ⟨b, o, none⟩ := fun o => (HBK.out.cell (p := ⟨b, o, none⟩) (by simp; omega)).trans (HFX.out.cell (by simpa using hbw) (by simp))
          have e0 := (hcc _).trans d0
          have e1 := (hcc _).trans d1
          have e2 := (hcc _).trans d2
          have e3 := (hcc _).trans d3
          have HX := Lib.hid (HWF.out.items a.items[k] (List.getElem_mem hlt))
          have HS := Lib.hid (map_succ a.items hlt)
          clear hcc d0 d1 d2 d3
          generalize a.items[k] = x at *
          unfold strV at e0
          have i0 : (0 : Int) ≤ (k : Int) := by omega
          have i1 : (k : Int) < (a.items.length : Int) := by omega
          have hx := HX.out
          have hnl : (toldT a ++ (a.items.take k).map itemL).length ≤ 2000000 := by
            have := toldT_length a
            rw [List.length_append, List.length_map, List.length_take]; omega
          have hlen1 : (toldT a ++ (a.items.take (k + 1)).map itemL) = (toldT a ++ (a.items.take k).map itemL) ++ [itemL x] := by rw [HS.out, List.append_assoc]
          have HLEN := Lib.hid hlen1
          clear hlen1
          generalize toldT a ++ (a.items.take k).map itemL = ls at *
          have hwl := hWord_length x.name
          have hxn := hx.name
          have li := Lib.itoa_length_le x.len hx.len.1 hx.len.2
          have ld : (Lib.decDigits x.n).length ≤ 20 := by rw [Lib.decDigits_length]; exact Lib.nDigits_le20 x.n hx.n
          have lst : (stW x.gone).length = 4 := by cases x.gone <;> rfl
          obtain ⟨s1, H1, n1, a1⟩ := app_ex Tryz.prog [105, 116, 101, 109, 32] (hWord x.name) (by simp; omega)
          obtain ⟨s2, H2, n2, a2⟩ := app_ex Tryz.prog s1 [32] (by simp at n1 ⊢; omega)
          obtain ⟨s3, H3, n3, a3⟩ := app_ex Tryz.prog s2 (Lib.decDigits x.n) (by simp at n1 n2; omega)
          obtain ⟨s4, H4, n4, a4⟩ := app_ex Tryz.prog s3 [32] (by simp at n1 n2 ⊢; omega)
          obtain ⟨s5, H5, n5, a5⟩ := app_ex Tryz.prog s4 (Lib.itoa x.len) (by simp at n1 n2 n4; omega)
          obtain ⟨s6, H6, n6, a6⟩ := app_ex Tryz.prog s5 [32] (by simp at n1 n2 n4 ⊢; omega)
          obtain ⟨s7, H7, n7, a7⟩ := app_ex Tryz.prog s6 (stW x.gone) (by simp at n1 n2 n4 n6; omega)
          have HIL : Hid (itemL x = s7) := by show _ = _; rw [H7.out, H6.out, H5.out, H4.out, H3.out, H2.out, H1.out]; rfl
          clear hwl li ld lst n1 n2 n3 n4 n5 n6 n7 H1 H2 H3 H4 H5 H6 H7 hx
          obtain ⟨i0, hi, hz0, hz1, hz2⟩ := info_parts infoStr
          go_upto_region 7 with fail
          generalize hwq : wr.alloc (.cells #[.string (bs x.name), .int .u64 (x.n : Nat), .int .i64 x.len, .bool x.gone] 104) = wq
          have hQ : wq.heap[wr.heap.size]? = some (.cells #[.string (bs x.name), .int .u64 (x.n : Nat), .int .i64 x.len, .bool x.gone] 104 (0, 0)) := by subst hwq; exact (MapKept.heap_alloc wr _).1
          have hfq : Fr [] wr wq := by subst hwq; exact (Fr.refl _ _).alloc _
          clear hwq
          have henvq : Env wq := by
            refine (henv.fr HFX.out (by simp)).of_blocks ?_ ?_
            · have h1 := HBK.out.size; have h2 := hfq.size; omega
            · intro j hj
              rw [hfq.block j (by omega) (by simp)]
              exact HBK.out.block j (by omega)
          have c0 : wq.cell? ⟨wr.heap.size, 0, none⟩ = some (.string (bs x.name)) := by rw [Lib.cell_of_heap hQ]; rfl
          have c1 : wq.cell? ⟨wr.heap.size, 1, none⟩ = some (.int .u64 (x.n : Nat)) := by rw [Lib.cell_of_heap hQ]; rfl
          have c2 : wq.cell? ⟨wr.heap.size, 2, none⟩ = some (.int .i64 x.len) := by rw [Lib.cell_of_heap hQ]; rfl
          have c4 : wq.cell? ⟨wr.heap.size, 3, none⟩ = some (.bool x.gone) := by rw [Lib.cell_of_heap hQ]; rfl
          have HQ := Lib.hid hQ
          have HFQ := Lib.hid hfq
          have HENVQ := Lib.hid henvq
          have HX := Lib.hid HX.out
          have hne : v.ownBlock ≠ some wr.heap.size := by
            intro e
            have := (HOWNK.out.lt _ e).2
            omega
          clear hQ hfq henvq e0 e1 e2 e3
          go_region_held3 (fun w' => w'.cell? ⟨wr.heap.size, 0, none⟩ = some (.string (bs x.name)) ∧ w'.cell? ⟨wr.heap.size, 1, none⟩ = some (.int .u64 (x.n : Nat)) ∧ w'.cell? ⟨wr.heap.size, 2, none⟩ = some (.int .i64 x.len) ∧ w'.cell? ⟨wr.heap.size, 3, none⟩ = some (.bool x.gone))
            (first | go_keep | exact ⟨q20, q21, q22, q23⟩ | exact ⟨q30, q31, q32, q33⟩ | exact ⟨q40, q41, q42, q43⟩ | exact ⟨q60, q61, q62, q63⟩)
            (first | (go_at_call 10; refine (word_calls x.name (by omega) _).mono ?_; rintro e w2 ⟨rfl, hf2⟩; have q20 := hf2.cellAs c0 (by simp); have q21 := hf2.cellAs c1 (by simp); have q22 := hf2.cellAs c2 (by simp); have q23 := hf2.cellAs c4 (by simp); have HF2 : Hid (Fr [] wq w2) := (Fr.refl [] wq).drew.trans hf2 (by simp); clear hf2)
                   | (go_at_call 58; refine (formatUint_calls x.n HX.out.n _ ?_).mono ?_; (exact HENVQ.out.fr HF2.out (by simp)); rintro e w3 ⟨rfl, hf3⟩; have q30 := hf3.cellAs q20 (by simp); have q31 := hf3.cellAs q21 (by simp); have q32 := hf3.cellAs q22 (by simp); have q33 := hf3.cellAs q23 (by simp); have HF3 : Hid (Fr [] wq w3) := HF2.out.trans hf3 (by simp); clear hf3)
                   | (go_at_call 57; refine (itoa_calls x.len HX.out.len.1 HX.out.len.2 _ ?_).mono ?_; (exact HENVQ.out.fr HF3.out (by simp)); rintro e w4 ⟨rfl, hf4⟩; have q40 := hf4.cellAs q30 (by simp); have q41 := hf4.cellAs q31 (by simp); have q42 := hf4.cellAs q32 (by simp); have q43 := hf4.cellAs q33 (by simp); have HF4 : Hid (Fr [] wq w4) := HF3.out.trans hf4 (by simp); have hown4 : w4.ownsRow (w.heap.size + 1) 9 1 v _ _ := (HOWNK.out.fr (HFQ.out.trans HF4.out (by simp))); have hs4 : w.heap.size + 1 ≤ w4.heap.size := (by have h1 := HFQ.out.size; have h2 := HF4.out.size; omega); have hQ4 : wr.heap.size < w4.heap.size := (by have h1 := lt_of_cell q40; simpa using h1); clear hf4)
                   | (go_at_call 59; refine (state_calls x.gone _).mono ?_; rintro e w5 ⟨rfl, rfl⟩)
                   | (refine step_append_lies _ (by rfl) _ _ _ (by rfl) (w.heap.size + 1) 9 i0 (.string ⟨#[]⟩) 1 16 Tryz.underlying48 hi hz0 hz1 hz2 rfl (by decide) v _ _ (by rfl) (hown4.alloc _) ⟨w4.heap.size, 0, none⟩ 1 1 [.string (bs s7)] (by rfl) (by rfl) (World.news_of_block (cs := #[.string (bs s7)]) (t := 9) (fr := (0, 0)) (heap_alloc_new w4 _)) (by simp [Value.oneCell']) (by decide) (by unfold maxLen; omega) (by omega) (by simp; omega) (w4.heap.size + 1) (by simp) ?_
                      intro gg cap w6 hown6 hgrow hat hlt6
                      have q60 : w6.cell? ⟨wr.heap.size, 0, none⟩ = some (.string (bs x.name)) := (hgrow.cell_far _ (by simp; omega) (Ne.symm hne)).trans (Lib.cell?_alloc_some _ q40)
                      have q61 : w6.cell? ⟨wr.heap.size, 1, none⟩ = some (.int .u64 (x.n : Nat)) := (hgrow.cell_far _ (by simp; omega) (Ne.symm hne)).trans (Lib.cell?_alloc_some _ q41)
                      have q62 : w6.cell? ⟨wr.heap.size, 2, none⟩ = some (.int .i64 x.len) := (hgrow.cell_far _ (by simp; omega) (Ne.symm hne)).trans (Lib.cell?_alloc_some _ q42)
                      have q63 : w6.cell? ⟨wr.heap.size, 3, none⟩ = some (.bool x.gone) := (hgrow.cell_far _ (by simp; omega) (Ne.symm hne)).trans (Lib.cell?_alloc_some _ q43)))
          go_wp2_with fail
          go_roundg (gk - 1)
          case measure => omega
          case rel =>
            refine ⟨k + 1, _, by omega, by go_num, rfl, ?_, ?_⟩
            · rw [HLEN.out, HIL.out]
              show World.ownsRow _ _ _ _ _ _ _
              rw [List.length_append, List.map_append]
              exact hown6
            · have h1 := HFQ.out.size
              exact (((HBK.out.trans (((HFQ.out.trans HF4.out (by simp)).belowOf hszk (by simp)))).alloc (by omega) _).grown hgrow (by simp; omega) (fun j hj => (HOWNK.out.lt j hj).1))
        · obtain rfl : k = a.items.length := by omega
          rw [List.take_length] at HOWNK
          have hPr := (HBK.out.block w.heap.size (by omega)).trans HPX.out
          have c4 : wr.cell? ⟨w.heap.size, 4, none⟩ = some (.bool a.more) := by rw [Lib.cell_of_heap hPr]; rfl
          have HFR : Hid (Fr [] w wr) := Fr.of_below (HFX.out.below.trans (HBK.out.mono (by omega)))
          clear hPr HPX c3
          rcases Bool.eq_false_or_eq_true a.more with hm | hm
          · have hnl : (toldT a ++ a.items.map itemL).length ≤ 2000000 := by
              have := toldT_length a
              rw [List.length_append, List.length_map]; omega
            have HT : Hid (toldP a = toldT a ++ a.items.map itemL ++ [moreL]) := by show _ = _; unfold toldP; rw [hm]; rfl
            rw [hm] at c4
            clear hm
            generalize toldT a ++ a.items.map itemL = ls at *
            obtain ⟨i0, hi, hz0, hz1, hz2⟩ := info_parts infoStr
            have hownr := HOWNK.out
            unfold Own at hownr
            have HOWNR := Lib.hid hownr
            clear hownr
            go_wp2_with (at_builtin; refine wpList_append_own _ rfl _ _ 48 rfl (w.heap.size + 1) 9 i0 (.string ⟨#[]⟩) 1 16 Tryz.underlying48 hi hz0 hz1 hz2 rfl (by decide) _ _ _ rfl (HOWNR.out.alloc _) ⟨wr.heap.size, 0, none⟩ 1 1 [strV moreL] rfl rfl ?c1 ?c2 ?c3 ?c4 ?c5 ?_)
            case c1 =>
              intro j u hj
              match j, hj with
              | 0, hj => simp at hj; subst hj; simp [Addr.add, strV, moreL]
            case c2 => intro u hu; simp at hu; subst hu; rfl
            case c3 => unfold maxLen; omega
            case c4 => omega
            case c5 => simp; omega
            intro v' w3 hown' hgrow _
            go_wp2_with fail
            go_ret
            refine ⟨v', rfl, ?_, ?_⟩
            · rw [HT.out]
              show World.ownsRow _ _ _ _ _ _ _
              rw [List.length_append, List.map_append]
              exact hown'
            · exact Fr.of_below ((HFR.out.below.alloc (by omega) _).grown hgrow (by simp; omega) (fun j hj => by have := (HOWNR.out.lt j hj).1; omega))
          · have HT : Hid (toldP a = toldT a ++ a.items.map itemL) := by show _ = _; unfold toldP; rw [hm]; simp
            rw [hm] at c4
            clear hm
            go_wp2_with fail
            go_ret
            exact ⟨v, rfl, by rw [HT.out]; exact HOWNK.out, HFR.out⟩
end Go.Proofs.YtcaeppncippknaaGreatDoor
