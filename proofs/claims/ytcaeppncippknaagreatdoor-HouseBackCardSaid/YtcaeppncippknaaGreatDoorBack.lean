/- hoardlaw31.HouseBack: true, whatever the input. Conditions: the package variables' facts (Env), lengths below 2^47, and the contracts of house.read, house.Line and hoardlaw31.alive. -/
import Derived.Test.YtcaeppncippknaaGreatDoorAnsP
import Derived.Test.YtcaeppncippknaaGreatDoorAt
import Derived.Test.YtcaeppncippknaaGreatDoorCallEq2
import Derived.Test.YtcaeppncippknaaGreatDoorGuards
import Derived.Test.YtcaeppncippknaaGreatDoorAnswers
import Derived.Test.YtcaeppncippknaaGreatDoorAnswer
import Derived.Test.YtcaeppncippknaaGreatDoorStrs
import Derived.Test.YtcaeppncippknaaGreatDoorOpen
import Derived.Deep.DeepCutAuto
import Derived.Deep.RegionHeld3
namespace Go.Proofs.YtcaeppncippknaaGreatDoor
open Go Go.RowKit

theorem AAns.Mem.wf {a : AAns} (h : a.Mem) (hw : wideP a = false) : a.Wf := by
  obtain ⟨h1, h2, h3⟩ := wide_no hw
  exact ⟨h.code, h.n, by omega, by omega, fun x hx => ⟨by have := h3 x hx; omega, (h.items x hx).2.1, (h.items x hx).2.2⟩⟩
theorem ACall.Mem.wf {c : ACall} (h : c.Mem) (hl : largeP c = false) : c.Wf ∧ c.Short := by
  obtain ⟨h1, h2, h3, h4, h5⟩ := large_no hl
  exact ⟨⟨h.kind, by omega, by omega, h.num, h.part, by omega, h.ck, h.cn, by omega, by omega, h.most⟩, ⟨by omega, by omega, by omega, by omega, by omega⟩⟩

theorem wrP_bound {c : ACall} (hw : c.Wf) (hb : c.bucket.length ≤ 2048 ∧ c.name.length ≤ 2048 ∧ c.text.length ≤ 2048 ∧ c.pre.length ≤ 2048 ∧ c.aft.length ≤ 2048) (p : Nat) : ∀ x ∈ wrP p c, x.length ≤ 6145 := by
  have ht : ∀ t : List UInt8, t.length ≤ 2048 → (hWord t).length ≤ 6145 := fun t h => by have := hWord_length t; omega
  have h1 := decDigits_small hw.num
  have h2 := decDigits_small hw.cn
  have h3 := itoa_small hw.most
  have h4 := itoa_small hw.part
  obtain ⟨b1, b2, b3, b4, b5⟩ := hb
  intro x hx
  unfold wrP at hx
  split at hx
  case h_4 =>
    unfold condOut at hx
    split at hx
    · simp only [List.mem_cons, List.not_mem_nil, or_false] at hx
      rcases hx with rfl | rfl
      · decide
      · omega
    · simp only [List.mem_cons, List.not_mem_nil, or_false] at hx
      subst hx
      unfold condW1
      split
      · decide
      · split
        · decide
        · decide
  all_goals
    simp only [List.mem_cons, List.not_mem_nil, or_false] at hx
    try subst hx
  all_goals first | exact ht _ b1 | exact ht _ b2 | exact ht _ b3 | exact ht _ b4 | exact ht _ b5 | omega | exact hx.elim
theorem lineOut_bound {c : ACall} (hw : c.Wf) (hb : c.bucket.length ≤ 2048 ∧ c.name.length ≤ 2048 ∧ c.text.length ≤ 2048 ∧ c.pre.length ≤ 2048 ∧ c.aft.length ≤ 2048) : (joinSp (lineOut c)).length ≤ 60000 := by
  have h1 : ∀ x ∈ lineOut c, x.length ≤ 6145 := by
    intro x hx
    rcases List.mem_cons.1 hx with rfl | hx
    · have := lineX_word c; omega
    · obtain ⟨f, _, h⟩ := List.mem_flatMap.1 hx
      exact wrP_bound hw hb _ x h
  have h2 := join_bound h1
  have h3 := lineOut_length c
  have h4 : (lineOut c).length * (6145 + 1) ≤ 9 * (6145 + 1) := Nat.mul_le_mul_right _ h3
  show (Lib.join (lineOut c) [32]).length ≤ 60000
  omega
theorem told_bound {a : AAns} (h : a.Wf) (hw : a.text.length ≤ 4096 ∧ a.items.length ≤ 4096 ∧ ∀ x ∈ a.items, x.name.length ≤ 4096) : (toldP a).length ≤ 5000 ∧ ∀ x ∈ toldP a, x.length ≤ 20000 := by
  obtain ⟨h1, h2, h3⟩ := hw
  have i1 := itoa_small h.code
  have d1 := decDigits_small h.n
  have t1 := hWord_length a.text
  refine ⟨?_, fun x hx => ?_⟩
  · have := toldT_length a
    unfold toldP
    rw [List.length_append, List.length_append, List.length_map]
    split <;> simp <;> omega
  · unfold toldP at hx
    rcases List.mem_append.1 hx with hx | hx
    · rcases List.mem_append.1 hx with hx | hx
      · unfold toldT at hx
        rcases List.mem_cons.1 hx with rfl | hx
        · simp [codeL]; omega
        · split at hx
          · cases hx
          · simp only [List.mem_cons, List.not_mem_nil, or_false] at hx
            subst hx
            simp [textL]; omega
      · obtain ⟨y, hy, rfl⟩ := List.mem_map.1 hx
        have hyw := h.items y hy
        have i2 := itoa_small hyw.len
        have d2 := decDigits_small hyw.n
        have t2 := hWord_length y.name
        have n2 := h3 y hy
        have s2 : (stW y.gone).length = 4 := by cases y.gone <;> rfl
        simp [itemL]; omega
    · split at hx
      · simp only [List.mem_cons, List.not_mem_nil, or_false] at hx
        subst hx; decide
      · cases hx
theorem cells5 {w : World} {g : Nat} {a : AAns} {iv : Value} (h : w.heap[g]? = some (.cells (ansCells a iv) 47 (0, 0))) :
    w.cell? ⟨g, 0, none⟩ = some (.int .i64 a.code) ∧ w.cell? ⟨g, 1, none⟩ = some (.int .u64 (a.n : Nat)) ∧ w.cell? ⟨g, 2, none⟩ = some (strV a.text) ∧ w.cell? ⟨g, 3, none⟩ = some iv ∧ w.cell? ⟨g, 4, none⟩ = some (.bool a.more) := by
  refine ⟨?_, ?_, ?_, ?_, ?_⟩
  all_goals
    rw [Lib.cell_of_heap h]
    rfl
/-- What house.Line hands back, in two parts. -/
def lineS (c : ACall) : List UInt8 := if lineOk c then joinSp (lineOut c) else []
def lineE (c : ACall) : Int := if lineOk c then 0 else 2
theorem resL_eq (c : ACall) : ResL c = .tuple #[.string (bs (lineS c)), .int .i64 (lineE c)] := by
  unfold ResL lineS lineE
  cases lineOk c <;> rfl

/-- The four arguments, boxed. -/
def BackAt (w0 : World) (C D A B : Nat) (c d : ACall) (ca cb : Array Value) (u : World) : Prop :=
  (u.heap[C]? = some (.cells (callCells c) 31 (0, 0)) ∧ u.heap[D]? = some (.cells (callCells d) 31 (0, 0)) ∧ u.heap[A]? = some (.cells ca 47 (0, 0)) ∧ u.heap[B]? = some (.cells cb 47 (0, 0))) ∧ Fr [] w0 u
theorem BackAt.fr {w0 u v : World} {C D A B : Nat} {c d : ACall} {ca cb : Array Value} (h : BackAt w0 C D A B c d ca cb u) (hf : Fr [] u v) : BackAt w0 C D A B c d ca cb v :=
  ⟨⟨hf.blockAs h.1.1 (by simp), hf.blockAs h.1.2.1 (by simp), hf.blockAs h.1.2.2.1 (by simp), hf.blockAs h.1.2.2.2 (by simp)⟩, h.2.andThen hf⟩

set_option maxHeartbeats 16000000 in
set_option maxRecDepth 100000 in
theorem back_calls (hread : ReadAt) (hline : LineAt ResL ACall.Short) (halive : AliveAt) (c d : ACall) (a b : AAns) (iva ivb : Value) (ba bb : Nat) (bl : Nat) (hbl : bl ≤ 255) (hc : c.Mem) (hd : d.Mem) (ha : a.Mem) (hb : b.Mem) (w : World) (henv : Env w) (hia : ItemsIn w ba iva a.items) (hib : ItemsIn w bb ivb b.items) :
    Calls Tryz.prog 6 #[.agg (callCells c), .agg (callCells d), .agg (ansCells a iva), .agg (ansCells b ivb), .int .u8 (bl : Nat)] w fun e w' => e = .returned (.bool true) ∧ Fr [] w w' := by
  have HENV := Lib.hid henv
  have HREAD := Lib.hid hread
  have HLINE := Lib.hid hline
  have HALIVE := Lib.hid halive
  have HIA := Lib.hid hia
  have HIB := Lib.hid hib
  clear henv hread hline halive hia hib
  go_enter Tryz.func6, Tryz.ntmps6
  go_upto_region 1 with fail
  obtain ⟨ipa, ica, ioa, hiva, _⟩ := HIA.out
  obtain ⟨ipb, icb, iob, hivb, _⟩ := HIB.out
  have honea : (ansCells a iva).all (·.oneCell') = true := by rw [hiva]; exact ansCells_one _ _ _ _
  clear hiva hivb
  generalize hw1 : (((w.alloc (.cells (callCells c) 31)).alloc (.cells (callCells d) 31)).alloc (.cells (ansCells a iva) 47)).alloc (.cells (ansCells b ivb) 47) = w1
  have HK1 : Hid (BackAt w w.heap.size (w.heap.size + 1) (w.heap.size + 1 + 1) (w.heap.size + 1 + 1 + 1) c d (ansCells a iva) (ansCells b ivb) w1) := by
    show BackAt _ _ _ _ _ _ _ _ _ _
    subst hw1
    refine ⟨⟨?_, ?_, ?_, ?_⟩, ((((Fr.refl _ _).alloc _).alloc _).alloc _).alloc _⟩
    · rw [Lib.alloc_old _ _ _ (by simp; omega), Lib.alloc_old _ _ _ (by simp; omega), Lib.alloc_old _ _ _ (by simp)]
      exact (MapKept.heap_alloc w _).1
    · rw [Lib.alloc_old _ _ _ (by simp), Lib.alloc_old _ _ _ (by simp)]
      have h := (MapKept.heap_alloc (w.alloc (.cells (callCells c) 31)) (.cells (callCells d) 31)).1
      simpa using h
    · rw [Lib.alloc_old _ _ _ (by simp)]
      have h := (MapKept.heap_alloc ((w.alloc (.cells (callCells c) 31)).alloc (.cells (callCells d) 31)) (.cells (ansCells a iva) 47)).1
      simpa using h
    · have h := (MapKept.heap_alloc (((w.alloc (.cells (callCells c) 31)).alloc (.cells (callCells d) 31)).alloc (.cells (ansCells a iva) 47)) (.cells (ansCells b ivb) 47)).1
      simpa using h
  clear hw1
  go_wp2_with (refine wpList_load_row (by rfl) 31 (.tmp 5) (by rfl) w.heap.size (by rfl) 31 _ _ _ HK1.out.1.1 Tryz.underlying31 rfl infoCall ?_)
  refine (large_calls c w1).mono ?_
  rintro e w2 ⟨rfl, hf2⟩
  have HK2 := Lib.hid (HK1.out.fr hf2)
  clear hf2 HK1
  have ALIVE : Hid (∀ u : World, BackAt w w.heap.size (w.heap.size + 1) (w.heap.size + 1 + 1) (w.heap.size + 1 + 1 + 1) c d (ansCells a iva) (ansCells b ivb) u → Calls Tryz.prog 7 #[] u fun e w' => e = .returned (.bool true) ∧ Fr [] w w') :=
    fun u hu => (HALIVE.out u (HENV.out.fr hu.2 (by simp))).mono fun e w' ⟨h1, h2⟩ => ⟨h1, hu.2.andThen h2⟩
  rcases Bool.eq_false_or_eq_true (largeP c) with hlc | hlc
  · rw [hlc]
    clear hlc
    go_wp2_with fail
    refine (ALIVE.out w2 HK2.out).mono ?_
    rintro e w3 ⟨rfl, hf3⟩
    go_wp2_with fail
    go_ret
    exact ⟨rfl, hf3⟩
  rw [hlc]
  have HLC := Lib.hid hlc
  clear hlc
  go_wp2_with (refine wpList_load_row_g (by rfl) 31 (.tmp 6) (by rfl) (w.heap.size + 1) (by rfl) 31 _ _ _ HK2.out.1.2.1 Tryz.underlying31 rfl infoCall ?_)
  refine (large_calls d w2).mono ?_
  rintro e w3 ⟨rfl, hf3⟩
  have HK3 := Lib.hid (HK2.out.fr hf3)
  clear hf3 HK2
  rcases Bool.eq_false_or_eq_true (largeP d) with hld | hld
  · rw [hld]
    clear hld
    go_wp2_with fail
    refine (ALIVE.out w3 HK3.out).mono ?_
    rintro e w4 ⟨rfl, hf4⟩
    go_wp2_with fail
    go_ret
    exact ⟨rfl, hf4⟩
  rw [hld]
  have HLD := Lib.hid hld
  clear hld
  go_wp2_with (refine wpList_load_row_g (by rfl) 47 (.tmp 7) (by rfl) (w.heap.size + 1 + 1) (by rfl) 47 _ _ _ HK3.out.1.2.2.1 Tryz.underlying47 rfl infoAns ?_)
  refine (wide_calls a iva ba w3 (HIA.out.fr HK3.out.2 (by simp)) ha.text ha.few (fun x hx => (ha.items x hx).1)).mono ?_
  rintro e w4 ⟨rfl, hf4⟩
  have HK4 := Lib.hid (HK3.out.fr hf4)
  clear hf4 HK3
  rcases Bool.eq_false_or_eq_true (wideP a) with hwa | hwa
  · rw [hwa]
    clear hwa
    go_wp2_with fail
    refine (ALIVE.out w4 HK4.out).mono ?_
    rintro e w5 ⟨rfl, hf5⟩
    go_wp2_with fail
    go_ret
    exact ⟨rfl, hf5⟩
  rw [hwa]
  have HWA := Lib.hid hwa
  clear hwa
  go_wp2_with (refine wpList_load_row_g (by rfl) 47 (.tmp 8) (by rfl) (w.heap.size + 1 + 1 + 1) (by rfl) 47 _ _ _ HK4.out.1.2.2.2 Tryz.underlying47 rfl infoAns ?_)
  refine (wide_calls b ivb bb w4 (HIB.out.fr HK4.out.2 (by simp)) hb.text hb.few (fun x hx => (hb.items x hx).1)).mono ?_
  rintro e w5 ⟨rfl, hf5⟩
  have HK5 := Lib.hid (HK4.out.fr hf5)
  clear hf5 HK4
  rcases Bool.eq_false_or_eq_true (wideP b) with hwb | hwb
  · rw [hwb]
    clear hwb
    go_wp2_with fail
    refine (ALIVE.out w5 HK5.out).mono ?_
    rintro e w6 ⟨rfl, hf6⟩
    go_wp2_with fail
    go_ret
    exact ⟨rfl, hf6⟩
  rw [hwb]
  have hwfa := Lib.hid (ha.wf HWA.out)
  have hwfb := Lib.hid (hb.wf hwb)
  obtain ⟨hwc, hsc⟩ := hc.wf HLC.out
  obtain ⟨hwd, hsd⟩ := hd.wf HLD.out
  have HWC := Lib.hid hwc
  have HWD := Lib.hid hwd
  have HSC := Lib.hid hsc
  have HSD := Lib.hid hsd
  have HLCN := Lib.hid (large_no HLC.out)
  have HTBA := Lib.hid (told_bound hwfa.out (wide_no HWA.out))
  have HTBB := Lib.hid (told_bound hwfb.out (wide_no hwb))
  clear hwb hwc hsc hwd hsd ha hb hc hd HWA HLC HLD
  go_wp2_with (refine wpList_load_row (by rfl) 31 (.tmp 5) (by rfl) w.heap.size (by rfl) 31 _ _ _ HK5.out.1.1 Tryz.underlying31 rfl infoCall ?_)
  refine (HLINE.out c HWC.out HSC.out w5 (HENV.out.fr HK5.out.2 (by simp))).mono ?_
  rintro e w6 ⟨rfl, hf6⟩
  have HK6 := Lib.hid (HK5.out.fr hf6)
  clear hf6 HK5
  rw [resL_eq]
  go_wp2_with (refine wpList_load_row (by rfl) 31 (.tmp 6) (by rfl) (w.heap.size + 1) (by rfl) 31 _ _ _ HK6.out.1.2.1 Tryz.underlying31 rfl infoCall ?_)
  refine (HLINE.out d HWD.out HSD.out w6 (HENV.out.fr HK6.out.2 (by simp))).mono ?_
  rintro e w7 ⟨rfl, hf7⟩
  have HK7 := Lib.hid (HK6.out.fr hf7)
  clear hf7 HK6
  rw [resL_eq]
  go_upto_if 48 with fail
  go_cut [] (fun wx => BackAt w w.heap.size (w.heap.size + 1) (w.heap.size + 1 + 1) (w.heap.size + 1 + 1 + 1) c d (ansCells a iva) (ansCells b ivb) wx)
  case first =>
    rcases Bool.eq_false_or_eq_true (lineOk c) with hoc | hoc
    · have e1 : (lineE c == 0) = true := by unfold lineE; rw [hoc]; rfl
      have e2 : lineS c = joinSp (lineOut c) := by unfold lineS; rw [hoc]; rfl
      have hjl := lineOut_bound HWC.out HLCN.out
      have hcl := fun k => call_line hoc k k
      rw [← e2] at hjl hcl
      have HCL := Lib.hid hcl
      clear e2 hoc hcl
      rcases (by omega : bl % 3 = 0 ∨ bl % 3 = 1 ∨ bl % 3 = 2) with hm | hm | hm
      · have hm' : ((bl : Nat) : Int) % 3 = 0 := by omega
        obtain ⟨s1, H1, n1, a1⟩ := app_ex Tryz.prog [] (lineS c) (by simp; omega)
        obtain ⟨s2, H2, n2, a2⟩ := app_ex Tryz.prog s1 [] (by simp at n1 ⊢; omega)
        have hcall : callP s2 = (c, true) := by rw [H2.out, H1.out]; exact HCL.out 0
        have hl2 : s2.length ≤ 1048576 := by simp at n1 n2; omega
        have HR : Hid (ResK (callP s2) = .tuple #[.agg (callCells c), .int .i64 0]) := by show _ = _; rw [hcall]; rfl
        clear hm n1 n2 H1 H2 hcall HCL hjl
        go_wp2_with fail
        generalize hw8 : w7.alloc (.cells #[.string ⟨#[]⟩, .string ⟨#[32]⟩, .string ⟨#[32, 32, 32]⟩] 9) = w8
        have HK8 : Hid (BackAt w w.heap.size (w.heap.size + 1) (w.heap.size + 1 + 1) (w.heap.size + 1 + 1 + 1) c d (ansCells a iva) (ansCells b ivb) w8) := by subst hw8; exact HK7.out.fr ((Fr.refl _ _).alloc _)
        clear hw8
        have hcc := call_calls HREAD.out s2 hl2 w8 (HENV.out.fr HK8.out.2 (by simp))
        rw [HR.out] at hcc
        refine hcc.mono ?_
        clear hcc
        rintro e w9 ⟨rfl, hf9⟩
        have HK9 := Lib.hid (HK8.out.fr hf9)
        clear hf9
        go_upto_region 8 with (refine wpList_store_row (by rfl) 31 (.tmp 16) (.tmp 62) (by rfl) w9.heap.size (callCells c) (by rfl) (by rfl) 31 _ (MapKept.heap_alloc w9 _).1 infoCall rfl (callCells_one _) ?_)
        generalize hw10 : (w9.alloc _).setRow w9.heap.size (callCells c) = w10
        have hX : w10.heap[w9.heap.size]? = some (.cells (callCells c) 31 (0, 0)) := by subst hw10; exact setRow_heap _ _ _ _ _ _ (MapKept.heap_alloc w9 _).1
        have HK10 : Hid (BackAt w w.heap.size (w.heap.size + 1) (w.heap.size + 1 + 1) (w.heap.size + 1 + 1 + 1) c d (ansCells a iva) (ansCells b ivb) w10) := by
          subst hw10
          exact HK9.out.fr (((Fr.refl _ _).alloc _).setRow (fun h => absurd h (by omega)) _)
        have HX := Lib.hid hX
        have hneq := neqCall c c
        rw [show decide (c = c) = true by simp] at hneq
        clear hw10 hX
        go_wp2_with (first
          | (refine wpList_load_row (by rfl) 31 (.tmp 16) (by rfl) w9.heap.size (by rfl) 31 _ _ _ HX.out Tryz.underlying31 rfl infoCall ?_)
          | (refine wpList_load_row (by rfl) 31 (.tmp 5) (by rfl) w.heap.size (by rfl) 31 _ _ _ HK10.out.1.1 Tryz.underlying31 rfl infoCall ?_))
        go_meet
        exact HK10.out
      · have hm' : ((bl : Nat) : Int) % 3 = 1 := by omega
        obtain ⟨s1, H1, n1, a1⟩ := app_ex Tryz.prog [32] (lineS c) (by simp; omega)
        obtain ⟨s2, H2, n2, a2⟩ := app_ex Tryz.prog s1 [32] (by simp at n1 ⊢; omega)
        have hcall : callP s2 = (c, true) := by rw [H2.out, H1.out]; exact HCL.out 1
        have hl2 : s2.length ≤ 1048576 := by simp at n1 n2; omega
        have HR : Hid (ResK (callP s2) = .tuple #[.agg (callCells c), .int .i64 0]) := by show _ = _; rw [hcall]; rfl
        clear hm n1 n2 H1 H2 hcall HCL hjl
        go_wp2_with fail
        generalize hw8 : w7.alloc (.cells #[.string ⟨#[]⟩, .string ⟨#[32]⟩, .string ⟨#[32, 32, 32]⟩] 9) = w8
        have HK8 : Hid (BackAt w w.heap.size (w.heap.size + 1) (w.heap.size + 1 + 1) (w.heap.size + 1 + 1 + 1) c d (ansCells a iva) (ansCells b ivb) w8) := by subst hw8; exact HK7.out.fr ((Fr.refl _ _).alloc _)
        clear hw8
        have hcc := call_calls HREAD.out s2 hl2 w8 (HENV.out.fr HK8.out.2 (by simp))
        rw [HR.out] at hcc
        refine hcc.mono ?_
        clear hcc
        rintro e w9 ⟨rfl, hf9⟩
        have HK9 := Lib.hid (HK8.out.fr hf9)
        clear hf9
        go_upto_region 8 with (refine wpList_store_row (by rfl) 31 (.tmp 16) (.tmp 62) (by rfl) w9.heap.size (callCells c) (by rfl) (by rfl) 31 _ (MapKept.heap_alloc w9 _).1 infoCall rfl (callCells_one _) ?_)
        generalize hw10 : (w9.alloc _).setRow w9.heap.size (callCells c) = w10
        have hX : w10.heap[w9.heap.size]? = some (.cells (callCells c) 31 (0, 0)) := by subst hw10; exact setRow_heap _ _ _ _ _ _ (MapKept.heap_alloc w9 _).1
        have HK10 : Hid (BackAt w w.heap.size (w.heap.size + 1) (w.heap.size + 1 + 1) (w.heap.size + 1 + 1 + 1) c d (ansCells a iva) (ansCells b ivb) w10) := by
          subst hw10
          exact HK9.out.fr (((Fr.refl _ _).alloc _).setRow (fun h => absurd h (by omega)) _)
        have HX := Lib.hid hX
        have hneq := neqCall c c
        rw [show decide (c = c) = true by simp] at hneq
        clear hw10 hX
        go_wp2_with (first
          | (refine wpList_load_row (by rfl) 31 (.tmp 16) (by rfl) w9.heap.size (by rfl) 31 _ _ _ HX.out Tryz.underlying31 rfl infoCall ?_)
          | (refine wpList_load_row (by rfl) 31 (.tmp 5) (by rfl) w.heap.size (by rfl) 31 _ _ _ HK10.out.1.1 Tryz.underlying31 rfl infoCall ?_))
        go_meet
        exact HK10.out
      · have hm' : ((bl : Nat) : Int) % 3 = 2 := by omega
        obtain ⟨s1, H1, n1, a1⟩ := app_ex Tryz.prog [32, 32, 32] (lineS c) (by simp; omega)
        obtain ⟨s2, H2, n2, a2⟩ := app_ex Tryz.prog s1 [32, 32, 32] (by simp at n1 ⊢; omega)
        have hcall : callP s2 = (c, true) := by rw [H2.out, H1.out]; exact HCL.out 3
        have hl2 : s2.length ≤ 1048576 := by simp at n1 n2; omega
        have HR : Hid (ResK (callP s2) = .tuple #[.agg (callCells c), .int .i64 0]) := by show _ = _; rw [hcall]; rfl
        clear hm n1 n2 H1 H2 hcall HCL hjl
        go_wp2_with fail
        generalize hw8 : w7.alloc (.cells #[.string ⟨#[]⟩, .string ⟨#[32]⟩, .string ⟨#[32, 32, 32]⟩] 9) = w8
        have HK8 : Hid (BackAt w w.heap.size (w.heap.size + 1) (w.heap.size + 1 + 1) (w.heap.size + 1 + 1 + 1) c d (ansCells a iva) (ansCells b ivb) w8) := by subst hw8; exact HK7.out.fr ((Fr.refl _ _).alloc _)
        clear hw8
        have hcc := call_calls HREAD.out s2 hl2 w8 (HENV.out.fr HK8.out.2 (by simp))
        rw [HR.out] at hcc
        refine hcc.mono ?_
        clear hcc
        rintro e w9 ⟨rfl, hf9⟩
        have HK9 := Lib.hid (HK8.out.fr hf9)
        clear hf9
        go_upto_region 8 with (refine wpList_store_row (by rfl) 31 (.tmp 16) (.tmp 62) (by rfl) w9.heap.size (callCells c) (by rfl) (by rfl) 31 _ (MapKept.heap_alloc w9 _).1 infoCall rfl (callCells_one _) ?_)
        generalize hw10 : (w9.alloc _).setRow w9.heap.size (callCells c) = w10
        have hX : w10.heap[w9.heap.size]? = some (.cells (callCells c) 31 (0, 0)) := by subst hw10; exact setRow_heap _ _ _ _ _ _ (MapKept.heap_alloc w9 _).1
        have HK10 : Hid (BackAt w w.heap.size (w.heap.size + 1) (w.heap.size + 1 + 1) (w.heap.size + 1 + 1 + 1) c d (ansCells a iva) (ansCells b ivb) w10) := by
          subst hw10
          exact HK9.out.fr (((Fr.refl _ _).alloc _).setRow (fun h => absurd h (by omega)) _)
        have HX := Lib.hid hX
        have hneq := neqCall c c
        rw [show decide (c = c) = true by simp] at hneq
        clear hw10 hX
        go_wp2_with (first
          | (refine wpList_load_row (by rfl) 31 (.tmp 16) (by rfl) w9.heap.size (by rfl) 31 _ _ _ HX.out Tryz.underlying31 rfl infoCall ?_)
          | (refine wpList_load_row (by rfl) 31 (.tmp 5) (by rfl) w.heap.size (by rfl) 31 _ _ _ HK10.out.1.1 Tryz.underlying31 rfl infoCall ?_))
        go_meet
        exact HK10.out
    · have e1 : (lineE c == 0) = false := by unfold lineE; rw [hoc]; rfl
      go_wp2_with fail
      go_meet
      exact HK7.out
  case rest =>
    have HKC := Lib.hid hcut
    clear hcut HK7
    go_upto_region 10 with fail
    go_cut [85] (fun s85 wx => s85 = .bool false ∧ BackAt w w.heap.size (w.heap.size + 1) (w.heap.size + 1 + 1) (w.heap.size + 1 + 1 + 1) c d (ansCells a iva) (ansCells b ivb) wx)
    case first =>
      rcases Bool.eq_false_or_eq_true (lineOk c) with hoc | hoc
      · have e1 : (lineE c == 0) = true := by unfold lineE; rw [hoc]; rfl
        rcases Bool.eq_false_or_eq_true (lineOk d) with hod | hod
        · have e2 : (lineE d == 0) = true := by unfold lineE; rw [hod]; rfl
          have hsc : lineS c = joinSp (lineOut c) := by unfold lineS; rw [hoc]; rfl
          have hsd : lineS d = joinSp (lineOut d) := by unfold lineS; rw [hod]; rfl
          have hinj := line_inj hoc hod
          rw [← hsc, ← hsd] at hinj
          have heq := eqlCall c d
          have e3 : (lineS c == lineS d) = decide (c = d) := by
            rw [Bool.eq_iff_iff, beq_iff_eq, decide_eq_true_eq]; exact hinj
          clear hsc hsd hinj hoc hod
          generalize decide (c = d) = q at heq e3
          cases q
          all_goals
            go_wp2_with (first
              | (refine wpList_load_row_g (by rfl) 31 (.tmp 5) (by rfl) w.heap.size (by rfl) 31 _ _ _ HKC.out.1.1 Tryz.underlying31 rfl infoCall ?_)
              | (refine wpList_load_row_g (by rfl) 31 (.tmp 6) (by rfl) (w.heap.size + 1) (by rfl) 31 _ _ _ HKC.out.1.2.1 Tryz.underlying31 rfl infoCall ?_))
            go_meet
            exact ⟨rfl, HKC.out⟩
        · have e2 : (lineE d == 0) = false := by unfold lineE; rw [hod]; rfl
          clear hoc hod
          go_wp2_with fail
          go_meet
          exact ⟨rfl, HKC.out⟩
      · have e1 : (lineE c == 0) = false := by unfold lineE; rw [hoc]; rfl
        clear hoc
        go_wp2_with fail
        go_meet
        exact ⟨rfl, HKC.out⟩
    case rest =>
      obtain ⟨rfl, hk⟩ := hcut
      have HK := Lib.hid hk
      clear hk HKC
      obtain ⟨wz, rfl⟩ : ∃ wz : World, wz = wc := ⟨_, rfl⟩
      go_wp2_with (refine wpList_load_row (by rfl) 47 (.tmp 7) (by rfl) (w.heap.size + 1 + 1) (by rfl) 47 _ _ _ HK.out.1.2.2.1 Tryz.underlying47 rfl infoAns ?_)
      refine (told_calls a iva ba hwfa.out wz (HENV.out.fr HK.out.2 (by simp)) (HIA.out.fr HK.out.2 (by simp))).mono ?_
      rintro e w11 ⟨tv, rfl, hown11, hf11⟩
      have HK11 := Lib.hid (HK.out.fr hf11)
      have HT11 := Lib.hid hown11
      clear hf11 hown11 HK
      go_wp2_with (refine wpList_load_row (by rfl) 47 (.tmp 8) (by rfl) (w.heap.size + 1 + 1 + 1) (by rfl) 47 _ _ _ HK11.out.1.2.2.2 Tryz.underlying47 rfl infoAns ?_)
      refine (told_calls b ivb bb hwfb.out w11 (HENV.out.fr HK11.out.2 (by simp)) (HIB.out.fr HK11.out.2 (by simp))).mono ?_
      rintro e w12 ⟨uv, rfl, hown12, hf12⟩
      have HK12 := Lib.hid (HK11.out.fr hf12)
      have HT12 := Lib.hid (HT11.out.fr hf12)
      have HU12 := Lib.hid hown12
      clear hf12 hown12 HK11 HT11
      have hpos : 0 < (toldP a).length := by unfold toldP toldT; simp
      rcases strsIn_of_owns (show w12.ownsRow _ _ _ _ _ _ from HT12.out) with ⟨h0, _⟩ | ⟨tb, tcap, htb0, htbs, htbc, rfl, htcl⟩
      · rw [h0] at hpos; exact absurd hpos (by simp)
      have htb : StrsIn w12 tb (.slice (some ⟨tb, 0, none⟩) (toldP a).length tcap) (toldP a) := .inr ⟨0, tcap, rfl, htbc, fun i hi => by rw [Nat.zero_add]; exact htcl i hi⟩
      clear htcl
      obtain ⟨ub, hub⟩ := strsIn_any (show w12.ownsRow _ _ _ _ _ _ from HU12.out)
      have HTB := Lib.hid htb
      have HUB := Lib.hid hub
      clear htb hub HU12
      go_wp2_with fail
      have han := answer_calls tb _ (toldP a) w12 (HENV.out.fr HK12.out.2 (by simp)) HTB.out (by have := HTBA.out.1; omega) (fun x hx => by have := HTBA.out.2 x hx; omega)
      refine han.mono ?_
      clear han
      rintro e w13 ⟨yv, he, ⟨yb, hyb⟩, hf13⟩
      rw [ans_told a hwfa.out] at he hyb
      simp only [if_true] at he
      subst he
      have hyone : (ansCells a yv).all (·.oneCell') = true := by
        obtain ⟨yp, yc, yo, hy, _⟩ := hyb
        rw [hy]; exact ansCells_one _ _ _ _
      have HYB := Lib.hid hyb
      have HK13 := Lib.hid (HK12.out.fr hf13)
      have HT13 := Lib.hid (HT12.out.fr hf13)
      have HTB13 := Lib.hid (HTB.out.fr hf13 (by simp))
      have HUB13 := Lib.hid (HUB.out.fr hf13 (by simp))
      clear hyb hf13 HK12 HT12 HTB HUB
      go_upto_region 15 with (refine wpList_store_row (by rfl) 47 (.tmp 20) (.tmp 93) (by rfl) w13.heap.size (ansCells a yv) (by rfl) (by rfl) 47 _ (MapKept.heap_alloc w13 _).1 infoAns rfl hyone ?_)
      generalize hw14 : (w13.alloc _).setRow w13.heap.size (ansCells a yv) = w14
      have hY : w14.heap[w13.heap.size]? = some (.cells (ansCells a yv) 47 (0, 0)) := by subst hw14; exact setRow_heap _ _ _ _ _ _ (MapKept.heap_alloc w13 _).1
      have hf14 : Fr [] w13 w14 := by subst hw14; exact ((Fr.refl _ _).alloc _).setRow (fun h => absurd h (by omega)) _
      have HK14 := Lib.hid (HK13.out.fr hf14)
      have HT14 := Lib.hid (HT13.out.fr hf14)
      have HTB14 := Lib.hid (HTB13.out.fr hf14 (by simp))
      have HUB14 := Lib.hid (HUB13.out.fr hf14 (by simp))
      have HYB14 := Lib.hid (HYB.out.fr hf14 (by simp))
      have HY := Lib.hid hY
      clear hw14 hf14 HK13 HT13 HTB13 HUB13 HYB hY
      generalize w13.heap.size = Y at *
      have hq : decide (toldP a = toldP b) = decide (a = b) := by rw [decide_eq_decide]; exact told_inj hwfa.out hwfb.out
      have hA1 : ∀ u : World, Fr [] w14 u → Calls Tryz.prog 26 #[.agg (ansCells a yv), .agg (ansCells a iva)] u fun e w' => e = .returned (.bool true) ∧ Fr [] u w' := fun u hu =>
        (answers_calls a a yv iva yb ba u (HYB14.out.fr hu (by simp)) (HIA.out.fr (HK14.out.2.andThen hu) (by simp)) (by have := hwfa.out.few; omega)).mono fun e w' ⟨h1, h2⟩ => ⟨by rw [h1]; simp, h2⟩
      have hA2 : ∀ u : World, Fr [] w14 u → Calls Tryz.prog 26 #[.agg (ansCells a iva), .agg (ansCells b ivb)] u fun e w' => e = .returned (.bool (decide (a = b))) ∧ Fr [] u w' := fun u hu =>
        answers_calls a b iva ivb ba bb u (HIA.out.fr (HK14.out.2.andThen hu) (by simp)) (HIB.out.fr (HK14.out.2.andThen hu) (by simp)) (by have := hwfa.out.few; omega)
      have hS1 : ∀ u : World, Fr [] w14 u → Calls Tryz.prog 23 #[.slice (some ⟨tb, 0, none⟩) (toldP a).length tcap, uv] u fun e w' => e = .returned (.bool (decide (a = b))) ∧ Fr [] u w' := fun u hu => by
        have h := same_calls tb ub _ uv (toldP a) (toldP b) u (HTB14.out.fr hu (by simp)) (HUB14.out.fr hu (by simp)) (by have := HTBA.out.1; omega) (by have := HTBB.out.1; omega)
        rwa [hq] at h
      generalize decide (a = b) = q at hA2 hS1
      clear hq
      unfold ansCells at hA1 hA2
      have HA1 := Lib.hid hA1
      have HA2 := Lib.hid hA2
      have HS1 := Lib.hid hS1
      clear hA1 hA2 hS1
      obtain ⟨y0, y1, y2, y3, y4⟩ := cells5 HY.out
      obtain ⟨a0, a1, a2, a3, a4⟩ := cells5 HK14.out.1.2.2.1
      obtain ⟨b0, b1, b2, b3, b4⟩ := cells5 HK14.out.1.2.2.2
      go_cut [111] (fun s111 wx => s111 = .bool false ∧ Fr [] w14 wx)
      case first =>
        cases q
        all_goals
          go_region_held3 (fun w' => w'.cell? ⟨Y, 0, none⟩ = some (.int .i64 a.code) ∧ w'.cell? ⟨Y, 1, none⟩ = some (.int .u64 (a.n : Nat)) ∧ w'.cell? ⟨Y, 2, none⟩ = some (strV a.text) ∧ w'.cell? ⟨Y, 3, none⟩ = some yv ∧ w'.cell? ⟨Y, 4, none⟩ = some (.bool a.more) ∧
              w'.cell? ⟨w.heap.size + 1 + 1, 0, none⟩ = some (.int .i64 a.code) ∧ w'.cell? ⟨w.heap.size + 1 + 1, 1, none⟩ = some (.int .u64 (a.n : Nat)) ∧ w'.cell? ⟨w.heap.size + 1 + 1, 2, none⟩ = some (strV a.text) ∧ w'.cell? ⟨w.heap.size + 1 + 1, 3, none⟩ = some iva ∧ w'.cell? ⟨w.heap.size + 1 + 1, 4, none⟩ = some (.bool a.more) ∧
              w'.cell? ⟨w.heap.size + 1 + 1 + 1, 0, none⟩ = some (.int .i64 b.code) ∧ w'.cell? ⟨w.heap.size + 1 + 1 + 1, 1, none⟩ = some (.int .u64 (b.n : Nat)) ∧ w'.cell? ⟨w.heap.size + 1 + 1 + 1, 2, none⟩ = some (strV b.text) ∧ w'.cell? ⟨w.heap.size + 1 + 1 + 1, 3, none⟩ = some ivb ∧ w'.cell? ⟨w.heap.size + 1 + 1 + 1, 4, none⟩ = some (.bool b.more))
            (first | go_keep | exact ⟨f0.1, f0.2.1, f0.2.2.1, f0.2.2.2.1, f0.2.2.2.2, f1.1, f1.2.1, f1.2.2.1, f1.2.2.2.1, f1.2.2.2.2, f2.1, f2.2.1, f2.2.2.1, f2.2.2.2.1, f2.2.2.2.2⟩)
            (first | (go_at_call 23; refine (HS1.out _ ?_).mono ?_; (exact HF1.out); rintro e u2 ⟨rfl, hf⟩; have HF2 : Hid (Fr [] w14 u2) := HF1.out.andThen hf; clear hf; have f0 := cells5 (HF2.out.blockAs HY.out (by simp)); have f1 := cells5 (HF2.out.blockAs HK14.out.1.2.2.1 (by simp)); have f2 := cells5 (HF2.out.blockAs HK14.out.1.2.2.2 (by simp)))
                   | (go_at_call 26; (with_reducible refine (HA1.out _ ?_).mono ?_); (exact (Fr.refl [] w14).drew); rintro e u1 ⟨rfl, hf⟩; have HF1 : Hid (Fr [] w14 u1) := (Fr.refl [] w14).drew.andThen hf; clear hf; have f0 := cells5 (HF1.out.blockAs HY.out (by simp)); have f1 := cells5 (HF1.out.blockAs HK14.out.1.2.2.1 (by simp)); have f2 := cells5 (HF1.out.blockAs HK14.out.1.2.2.2 (by simp)))
                   | (go_at_call 26; (with_reducible refine (HA2.out _ ?_).mono ?_); (exact HF2.out); rintro e u3 ⟨rfl, hf⟩; have HF3 : Hid (Fr [] w14 u3) := HF2.out.andThen hf; clear hf; have f0 := cells5 (HF3.out.blockAs HY.out (by simp)); have f1 := cells5 (HF3.out.blockAs HK14.out.1.2.2.1 (by simp)); have f2 := cells5 (HF3.out.blockAs HK14.out.1.2.2.2 (by simp))))
          go_wp2_with fail
          go_meet
          exact ⟨rfl, HF3.out⟩
      case rest =>
        obtain ⟨rfl, hfc⟩ := hcut
        have HFC := Lib.hid hfc
        clear hfc y0 y1 y2 y3 y4 a0 a1 a2 a3 a4 b0 b1 b2 b3 b4
        obtain ⟨wz, rfl⟩ : ∃ wz : World, wz = wc := ⟨_, rfl⟩
        obtain ⟨i0, hi, hz0, hz1, hz2⟩ := info_parts infoStr
        have hown0 : (wz.alloc (.cells #[] 9)).ownsRow wz.heap.size 9 1 (.slice (some ⟨wz.heap.size, 0, none⟩) 0 0) 0 [] := ⟨rfl, .inr ⟨wz.heap.size, 0, #[], rfl, Nat.le_refl _, (MapKept.heap_alloc wz _).1, Nat.le_refl _, by decide, rfl, rfl⟩⟩
        have hnl := HTBA.out.1
        have hcell : ∀ j u, ((toldP a).map strV)[j]? = some u → (wz.alloc (.cells #[] 9)).cell? ((⟨tb, 0, none⟩ : Addr).add j) = some u := by
          intro j u hj
          rw [List.getElem?_map, Option.map_eq_some_iff] at hj
          obtain ⟨x, hx, rfl⟩ := hj
          obtain ⟨hj2, rfl⟩ := List.getElem?_eq_some_iff.1 hx
          obtain ⟨pp, cc, oo, hform, hcells⟩ := ((HTB14.out.fr HFC.out (by simp)).fr ((Fr.refl [] wz).alloc (.cells #[] 9)) (by simp)).form
          obtain ⟨h1, h2⟩ := hcells j hj2
          injection hform with e1 e2 e3
          rw [← e1] at h1
          injection h1 with h1
          injection h1 with e4 e5
          rw [Lib.add_plain]
          rw [← e5] at h2
          exact h2
        have HCELL := Lib.hid hcell
        clear hcell
        go_wp2_with (at_builtin; refine wpList_append_own _ rfl _ _ 48 rfl wz.heap.size 9 i0 (.string ⟨#[]⟩) 1 16 Tryz.underlying48 hi hz0 hz1 hz2 rfl (by decide) _ _ _ rfl hown0 ⟨tb, 0, none⟩ (toldP a).length tcap ((toldP a).map strV) rfl ?c0 ?c1 ?c2 ?c3 ?c4 ?c5 ?_)
        case c0 => simp
        case c1 => exact HCELL.out
        case c2 =>
          intro u hu
          obtain ⟨x, _, rfl⟩ := List.mem_map.1 hu
          rfl
        case c3 => unfold maxLen; omega
        case c4 => omega
        case c5 => simp
        intro v15 w15 hown15 hgrow15 _
        have hs15 : wz.heap.size + 1 ≤ w15.heap.size := by have h := hgrow15.size; simpa using h
        have HB15 : Hid (Below wz.heap.size wz w15) := ((Below.refl _ _).alloc (Nat.le_refl _) _).grown hgrow15 (by simp) (fun k hk => (hown0.lt k hk).1)
        have HOWN15 := Lib.hid hown15
        clear hgrow15 hown0
        go_wp2_with (at_builtin; refine wpList_append_own _ rfl _ _ 48 rfl wz.heap.size 9 i0 (.string ⟨#[]⟩) 1 16 Tryz.underlying48 hi hz0 hz1 hz2 rfl (by decide) _ _ _ rfl (HOWN15.out.alloc _) ⟨w15.heap.size, 0, none⟩ 1 1 [strV moreL] rfl rfl ?d1 ?d2 ?d3 ?d4 ?d5 ?_)
        case d1 =>
          intro j u hj
          match j, hj with
          | 0, hj => simp at hj; subst hj; simp [Addr.add, strV, moreL]
        case d2 => intro u hu; simp at hu; subst hu; rfl
        case d3 => unfold maxLen; omega
        case d4 => omega
        case d5 => simp; omega
        intro v16 w16 hown16 hgrow16 _
        have HF16 : Hid (Fr [] wz w16) := Fr.of_below ((HB15.out.alloc (by omega) _).grown hgrow16 (by simp; omega) (fun k hk => (HOWN15.out.lt k hk).1))
        have hown17 : w16.ownsRow wz.heap.size 9 1 v16 (toldP a ++ [moreL]).length ((toldP a ++ [moreL]).map strV) := by
          rw [List.length_append, List.map_append]; exact hown16
        obtain ⟨vb, hvb⟩ := strsIn_any hown17
        have HVB := Lib.hid hvb
        have HK16 := Lib.hid (HK14.out.fr (HFC.out.andThen HF16.out))
        clear hgrow16 hown16 hown17 hown15 HOWN15 HB15 hvb
        go_wp2_with fail
        have han := answer_calls vb v16 (toldP a ++ [moreL]) w16 (HENV.out.fr HK16.out.2 (by simp)) HVB.out (by rw [List.length_append]; simp; omega) (fun x hx => by
          rcases List.mem_append.1 hx with hx | hx
          · have := HTBA.out.2 x hx; omega
          · simp only [List.mem_cons, List.not_mem_nil, or_false] at hx
            subst hx; decide)
        refine han.mono ?_
        clear han
        rintro e w17 ⟨zv, he, _, hf17⟩
        rw [ans_more a hwfa.out] at he
        subst he
        have HK17 := Lib.hid (HK16.out.fr hf17)
        clear hf17 HK16
        generalize (ansP (toldP a ++ [moreL])).1 = ax at *
        obtain ⟨_, _, _, _, g4⟩ := cells5 HK17.out.1.2.2.1
        rcases Bool.eq_false_or_eq_true a.more with hm | hm
        all_goals
          rw [hm] at g4
          rw [hm]
          clear hm
          go_wp2_with fail
          refine (ALIVE.out w17 HK17.out).mono ?_
          rintro e w18 ⟨rfl, hf18⟩
          go_wp2_with fail
          go_ret
          exact ⟨rfl, hf18⟩
end Go.Proofs.YtcaeppncippknaaGreatDoor
