/- What hoardref31.Answer reads, in plain: as house.Answer. Conditions: fewer than 2^20 lines, each below 2^20 bytes. -/
import Derived.Test.YtcaeppncippknaaGreatDoorZRItemP
import Derived.Test.YtcaeppncippknaaGreatDoorZAnswer
import Derived.Test.YtcaeppncippknaaGreatDoorZRItem
import Derived.Test.YtcaeppncippknaaGreatDoorZRTold
import Derived.Test.YtcaeppncippknaaGreatDoorZSame
import Derived.Deep.DeepCutAuto
namespace Go.Proofs.YtcaeppncippknaaGreatDoor
open Go

def t5 : List UInt8 := [116, 101, 120, 116, 32]
def itsR : List (List UInt8) → List AItem
  | [] => []
  | x :: r => if (itP x).2 then (itP x).1 :: itsR r else []
/-- The first line's numbers, and whether it is one. -/
def hdC (x : List UInt8) : Int := tiV (nextL (wordsP x) false) (nextB (wordsP x) false)
def hdN (x : List UInt8) : Nat := unV m64 (tiL (nextL (wordsP x) false) (nextB (wordsP x) false)) (tiB (nextL (wordsP x) false) (nextB (wordsP x) false))
def hdB (x : List UInt8) : Bool := unB m64 (tiL (nextL (wordsP x) false) (nextB (wordsP x) false)) (tiB (nextL (wordsP x) false) (nextB (wordsP x) false))
def hdOk (x : List UInt8) : Bool := !hdB x && nextW (wordsP x) false == w_code
/-- The text's line, where there is one: the text, and how many lines it takes. -/
def txR : List (List UInt8) → Option (List UInt8 × Nat)
  | [] => some ([], 0)
  | x :: _ => if 5 < x.length ∧ x.take 5 = t5 then (hText (x.drop 5)).map fun s => (s, 1) else some ([], 0)
def endR (r : List (List UInt8)) : Bool := decide ((r.drop (itsR r).length).head? = some moreL)
def parR : List (List UInt8) → Option AAns
  | [] => none
  | x :: r => if hdOk x then (txR r).map fun p => ⟨hdC x, hdN x, p.1, itsR (r.drop p.2), endR (r.drop p.2)⟩ else none
def aR (l : List (List UInt8)) : AAns × Bool := match parR l with
  | some a => if toldP a = l then (a, true) else (AAns.zero, false)
  | none => (AAns.zero, false)

theorem itP_more : (itP moreL).2 = false := by
  unfold itP
  rw [words_more, if_neg]
  decide
theorem its_items : ∀ (l : List AItem) (m : Bool), (∀ x ∈ l, x.Wf) → itsR (l.map itemL ++ (if m then [moreL] else [])) = l
  | [], m, _ => by
    cases m
    · rfl
    · show itsR [moreL] = []
      rw [itsR, itP_more]; rfl
  | x :: r, m, h => by
    rw [List.map_cons, List.cons_append, itsR, itP_item (h x (by simp))]
    show x :: itsR _ = _
    rw [its_items r m fun y hy => h y (by simp [hy])]
theorem end_items (l : List AItem) (m : Bool) (h : ∀ x ∈ l, x.Wf) : endR (l.map itemL ++ (if m then [moreL] else [])) = m := by
  unfold endR
  rw [its_items l m h]
  have e : (l.map itemL ++ (if m then [moreL] else [])).drop l.length = if m then [moreL] else [] := by
    conv => lhs; rw [show l.length = (l.map itemL).length by simp]
    rw [List.drop_left]
  rw [e]
  cases m <;> rfl
theorem tx_items (l : List AItem) (m : Bool) : txR (l.map itemL ++ (if m then [moreL] else [])) = some ([], 0) := by
  cases l with
  | nil =>
    cases m
    · rfl
    · show txR [moreL] = _
      rw [txR, if_neg]
      rintro ⟨h, _⟩
      revert h; decide
  | cons x r =>
    rw [List.map_cons, List.cons_append, txR, if_neg]
    rintro ⟨_, h⟩
    have e : (itemL x).take 5 = [105, 116, 101, 109, 32] := by simp [itemL]
    rw [e] at h
    revert h; decide
theorem hWord_pos (t : List UInt8) : 0 < (hWord t).length := by
  cases t with
  | nil => decide
  | cons c r =>
    have := flat_pos ((c :: r) == [45]) (c :: r)
    show 0 < ((c :: r).flatMap (esc ((c :: r) == [45]))).length
    rw [List.length_cons] at this
    omega
theorem hd_code {c : Int} {n : Nat} (hc : -9223372036854775808 ≤ c ∧ c ≤ 9223372036854775807) (hn : n < 18446744073709551616) : hdOk (codeL c n) = true ∧ hdC (codeL c n) = c ∧ hdN (codeL c n) = n := by
  have h1 := ti_itoa hc [Lib.decDigits n]
  have h2 := un_dec (most := m64) (n := n) (by unfold m64; omega) (by unfold m64; omega) []
  unfold hdOk hdC hdN hdB
  rw [words_code]
  show (!unB m64 (tiL (Lib.itoa c :: [Lib.decDigits n]) false) (tiB (Lib.itoa c :: [Lib.decDigits n]) false) && w_code == w_code) = true ∧ tiV (Lib.itoa c :: [Lib.decDigits n]) false = c ∧ unV m64 (tiL (Lib.itoa c :: [Lib.decDigits n]) false) (tiB (Lib.itoa c :: [Lib.decDigits n]) false) = n
  rw [h1.2.1, h1.2.2, h2.1, h2.2]
  exact ⟨by decide, h1.1, rfl⟩
theorem par_told {a : AAns} (h : a.Wf) : parR (toldP a) = some a := by
  have hh := hd_code h.code h.n
  have e1 : toldP a = codeL a.code a.n :: ((if a.text = [] then [] else [textL a.text]) ++ (a.items.map itemL ++ (if a.more then [moreL] else []))) := by
    unfold toldP toldT
    simp
  have e2 := its_items a.items a.more h.items
  have e3 := end_items a.items a.more h.items
  have e4 := tx_items a.items a.more
  rw [e1, parR, hh.1]
  generalize a.items.map itemL ++ (if a.more then [moreL] else []) = r at *
  by_cases ht : a.text = []
  · rw [if_pos ht, List.nil_append, e4]
    show some (AAns.mk (hdC _) (hdN _) [] (itsR r) (endR r)) = some a
    rw [hh.2.1, hh.2.2, e2, e3, ← ht]
  · rw [if_neg ht]
    have hp := hWord_pos a.text
    have e5 : txR ([textL a.text] ++ r) = some (a.text, 1) := by
      show txR (textL a.text :: r) = _
      rw [txR, if_pos]
      · have e6 : (textL a.text).drop 5 = hWord a.text := by simp [textL]
        rw [e6, hText_word]; rfl
      · exact ⟨by simp [textL]; omega, by simp [textL, t5]⟩
    rw [e5]
    show some (AAns.mk (hdC _) (hdN _) a.text (itsR r) (endR r)) = some a
    rw [hh.2.1, hh.2.2, e2, e3]
theorem its_wf : ∀ {r : List (List UInt8)}, (∀ x ∈ r, x.length ≤ 1048576) → (∀ y ∈ itsR r, y.Wf) ∧ (itsR r).length ≤ r.length
  | [], _ => ⟨fun y hy => (by cases hy), Nat.le_refl _⟩
  | x :: r, h => by
    obtain ⟨h1, h2⟩ := its_wf (r := r) fun y hy => h y (by simp [hy])
    rw [itsR]
    split
    · refine ⟨fun y hy => ?_, by simp; omega⟩
      rcases List.mem_cons.1 hy with rfl | hy
      · exact itP_wf (h x (by simp))
      · exact h1 y hy
    · exact ⟨fun y hy => (by cases hy), Nat.zero_le _⟩
theorem tx_wf {r : List (List UInt8)} {p : List UInt8 × Nat} (h : ∀ x ∈ r, x.length ≤ 1048576) (hp : txR r = some p) : p.1.length ≤ 1048576 := by
  cases r with
  | nil =>
    obtain rfl := Option.some.inj hp
    exact Nat.zero_le _
  | cons x s =>
    rw [txR] at hp
    split at hp
    · rw [Option.map_eq_some_iff] at hp
      obtain ⟨t, h1, rfl⟩ := hp
      have h2 := hText_length h1
      have h3 := h x (by simp)
      rw [List.length_drop] at h2
      show t.length ≤ _
      omega
    · obtain rfl := Option.some.inj hp
      exact Nat.zero_le _
theorem hd_wf (x : List UInt8) : (-9223372036854775808 ≤ hdC x ∧ hdC x ≤ 9223372036854775807) ∧ hdN x < 18446744073709551616 := by
  have h1 : ∀ y ∈ nextL (wordsP x) false, y ≠ [] := fun y hy => (words_ok x y (nextL_sub.1 y hy)).1
  have h2 : ∀ y ∈ tiL (nextL (wordsP x) false) (nextB (wordsP x) false), y ≠ [] := fun y hy => h1 y (tiL_sub.1 y hy)
  refine ⟨tiV_range h1, ?_⟩
  have h3 := unV_le (most := m64) (bad := tiB (nextL (wordsP x) false) (nextB (wordsP x) false)) h2
  show unV m64 _ _ < _
  unfold m64 at h3 ⊢
  omega
theorem par_wf {l : List (List UInt8)} {a : AAns} (hl : ∀ x ∈ l, x.length ≤ 1048576) (hn : l.length ≤ 1048576) (h : parR l = some a) : a.Wf := by
  cases l with
  | nil => cases h
  | cons x r =>
    rw [parR] at h
    split at h
    · rw [Option.map_eq_some_iff] at h
      obtain ⟨p, h1, rfl⟩ := h
      have hr : ∀ y ∈ r, y.length ≤ 1048576 := fun y hy => hl y (by simp [hy])
      have hd : ∀ y ∈ r.drop p.2, y.length ≤ 1048576 := fun y hy => hr y (List.mem_of_mem_drop hy)
      obtain ⟨h2, h3⟩ := its_wf hd
      refine ⟨(hd_wf x).1, (hd_wf x).2, tx_wf hr h1, ?_, h2⟩
      show (itsR (r.drop p.2)).length ≤ _
      rw [List.length_drop] at h3
      rw [List.length_cons] at hn
      omega
    · cases h
theorem aR_eq {l : List (List UInt8)} (hl : ∀ x ∈ l, x.length ≤ 1048576) (hn : l.length ≤ 1048576) : aR l = ansP l := by
  have hw := (goneA_wf hl hn l.length (Nat.le_refl _)).1
  rw [List.take_length] at hw
  unfold aR
  by_cases h : toldP (goneA l) = l
  · rw [ansP_yes h]
    have e : parR l = some (goneA l) := by
      conv => lhs; rw [← h]
      exact par_told hw
    rw [e]
    show (if _ then _ else _) = _
    rw [if_pos h]
  · rw [ansP_no h]
    cases e : parR l with
    | none => rfl
    | some a =>
      show (if _ then _ else _) = _
      rw [if_neg]
      intro h2
      have h3 := gone_told a (par_wf hl hn e)
      rw [h2] at h3
      exact h (by rw [h3, h2])
end Go.Proofs.YtcaeppncippknaaGreatDoor
/- hoardref31.Answer: which answer lines are, as house.Answer. Conditions: fewer than 2^20 lines, each below 2^20 bytes. -/
namespace Go.Proofs.YtcaeppncippknaaGreatDoor
open Go Go.RowKit

def ansZ : Array Value := #[.int .i64 0, .int .u64 0, .string ⟨#[]⟩, .slice none 0 0, .bool false]
/-- Where Answer stands: the answer so far in A, the result in R. -/
structure AnAt (w0 : World) (R A : Nat) (cs : Array Value) (u : World) : Prop where
  x : u.heap[A]? = some (.cells cs 47 (0, 0))
  r : u.heap[R]? = some (.cells ansZ 47 (0, 0))
  f : Fr [] w0 u
  ra : R < A
  rw : w0.heap.size ≤ R
theorem AnAt.call {w0 u v : World} {R A : Nat} {cs : Array Value} {M : List Nat} (h : AnAt w0 R A cs u) (hf : Fr M u v) (hM : ∀ i ∈ M, A < i) : AnAt w0 R A cs v := by
  have h1 := h.ra
  have h2 := h.rw
  refine ⟨hf.blockAs h.x (fun e => ?_), hf.blockAs h.r (fun e => ?_), h.f.trans hf (fun i hi hlt => ?_), h1, h2⟩
  · have := hM _ e; omega
  · have := hM _ e; omega
  · have := hM _ hi; omega
theorem AnAt.store {w0 u : World} {R A : Nat} {cs : Array Value} (h : AnAt w0 R A cs u) (i : Nat) (z : Value) : AnAt w0 R A (cs.setIfInBounds i z) (u.setCell ⟨A, i, none⟩ z) := by
  have h1 := h.ra
  have h2 := h.rw
  have hf : Fr [A] u (u.setCell ⟨A, i, none⟩ z) := (Fr.refl _ _).setCell (by simp) _
  refine ⟨setCell_block h.x _, hf.blockAs h.r (by simp; omega), h.f.trans hf (fun j hj hlt => ?_), h1, h2⟩
  have := List.mem_singleton.1 hj
  omega
/-- What Answer hands back where the lines are none. -/
theorem rans_no {l : List (List UInt8)} (h : (aR l).2 = false) : aR l = (AAns.zero, false) := by
  unfold aR at h ⊢
  cases e : parR l with
  | none => rfl
  | some a =>
    rw [e] at h
    by_cases h2 : toldP a = l
    · have h3 : (if toldP a = l then (a, true) else (AAns.zero, false)).2 = false := h
      rw [if_pos h2] at h3
      cases h3
    · show (if _ then _ else _) = _
      rw [if_neg h2]
def RAnsPost (l : List (List UInt8)) (w : World) (e : Ending) (w' : World) : Prop :=
  ∃ iv, e = .returned (.tuple #[.agg (ansCells (aR l).1 iv), .int .i64 (if (aR l).2 then 0 else 310)]) ∧ (∃ b, ItemsIn w' b iv (aR l).1.items) ∧ Fr [] w w'
theorem end_at {x : List UInt8} {r : List (List UInt8)} {kx n : Nat} (_hk : kx ≤ r.length) (hn : kx + 1 + (itsR (r.drop kx)).length = n) : endR (r.drop kx) = decide (((x :: r).drop n).head? = some moreL) := by
  unfold endR
  have e : (x :: r).drop n = (r.drop kx).drop (itsR (r.drop kx)).length := by
    rw [List.drop_drop, ← hn, show kx + 1 + (itsR (r.drop kx)).length = kx + (itsR (r.drop kx)).length + 1 by omega, List.drop_succ_cons]
  rw [e]
theorem told_few {a : AAns} (h : a.Wf) : (toldP a).length ≤ 1099511627776 := by
  have h1 := toldT_length a
  have h2 := h.few
  unfold toldP
  rw [List.length_append, List.length_append, List.length_map]
  split <;> simp <;> omega
theorem ownI_in2 {B : Nat} {w : World} {v : Value} {l : List AItem} (h : OwnI B w v l) : ∃ b, ItemsIn w b v l ∧ (l.length = 0 ∨ B ≤ b) := by
  have hh := h
  rcases h.2 with ⟨hv, h0⟩ | ⟨g, cap, cur, hv, hg, hh2, hn, hc, hs, ht⟩
  · exact ⟨0, ⟨none, 0, 0, by rw [hv, h0], fun i hi => absurd hi (by omega)⟩, .inl h0⟩
  · refine ⟨g, ⟨_, cap, 0, hv, fun i hi => ⟨rfl, ?_⟩⟩, .inr hg⟩
    subst hv
    have hat : ∀ j, j < 4 → w.cell? ⟨g, 0 + i * 4 + j, none⟩ = (itemCells l[i])[j]? := fun j hj => by
      rw [Nat.zero_add, World.ownsRow.cellAt hh (i * 4 + j) (by omega), itemsC_at l i hi j hj]
    exact ⟨hat 0 (by omega), hat 1 (by omega), hat 2 (by omega), hat 3 (by omega)⟩
theorem post_no {l : List (List UInt8)} (h : parR l = none) : aR l = (AAns.zero, false) := by unfold aR; rw [h]

set_option maxHeartbeats 8000000 in
set_option maxRecDepth 100000 in
theorem rans_calls (b0 : Nat) (v : Value) (l : List (List UInt8)) (w : World) (hin : StrsIn w b0 v l) (hb0 : b0 < w.heap.size) (hn : l.length ≤ 1048576) (hl : ∀ x ∈ l, x.length ≤ 1048576) :
    Calls Tryz.prog 22 #[v] w fun e w' => RAnsPost l w e w' := by
  obtain ⟨lp, lc, lo, rfl, hcl⟩ := hin.form
  have HIN := Lib.hid hin
  have HL := Lib.hid hl
  clear hin hl
  go_enter Tryz.func22, Tryz.ntmps22
  go_upto_region 2 with fail
  generalize hw1 : (w.alloc (.cells #[.int .i64 0, .int .u64 0, .string ⟨#[]⟩, .slice none 0 0, .bool false] 47)).alloc (.cells #[.int .i64 0, .int .u64 0, .string ⟨#[]⟩, .slice none 0 0, .bool false] 47) = w1
  have hf1 : Fr [] w w1 := by subst hw1; exact ((Fr.refl _ _).alloc _).alloc _
  have h1 : AnAt w w.heap.size (w.heap.size + 1) ansZ w1 := by
    subst hw1
    refine ⟨?_, ?_, hf1, by omega, Nat.le_refl _⟩
    · have := (MapKept.heap_alloc (w.alloc (.cells ansZ 47)) (.cells ansZ 47)).1
      have e : (w.alloc (.cells ansZ 47)).heap.size = w.heap.size + 1 := by simp
      rw [e] at this
      exact this
    · rw [Lib.alloc_old _ _ _ (by simp)]
      exact (MapKept.heap_alloc w _).1
  have hs1 : w1.heap.size = w.heap.size + 2 := by subst hw1; simp
  clear hw1
  cases l with
  | nil =>
    have HR := Lib.hid (post_no (l := []) rfl)
    go_wp2_with (first
      | (refine wpList_load_row (by rfl) 47 (.tmp 4) (by rfl) (w.heap.size + 1) (by rfl) 47 _ _ _ h1.x Tryz.underlying47 rfl infoAns ?_)
      | (refine wpList_store_row (by rfl) 47 (.tmp 2) (.tmp 15) (by rfl) w.heap.size (ansCells AAns.zero (.slice none 0 0)) (by rfl) (by rfl) 47 _ h1.r infoAns rfl (ansCells_one _ _ _ _) ?_))
    refine bodyPost_ret (v := .tuple #[.agg (ansCells AAns.zero (.slice none 0 0)), .int .i64 310]) (results_two rfl _ _ w.heap.size 47 (ansCells AAns.zero (.slice none 0 0)) (0, 0) _ (by rfl) (setRow_heap _ _ _ _ _ _ h1.r) Tryz.underlying47 rfl infoAns _ (by rfl)) rfl ?_
    refine ⟨_, by rw [HR.out]; rfl, ?_, h1.f.setRow (fun h => absurd h (by simp)) _⟩
    rw [HR.out]
    exact ⟨0, none, 0, 0, rfl, fun i hi => absurd hi (by simp [AAns.zero])⟩
  | cons x r =>
    obtain ⟨hlp, hx⟩ := hcl 0 (by simp)
    subst hlp
    have hx1 : w1.cell? ⟨b0, lo, none⟩ = some (.string (bs x)) := hf1.cellAs hx (by simp)
    have hxl := HL.out x (by simp)
    have hwl : (wordsP x).length ≤ 1048577 := by have := wordsP_length x; omega
    have hws : ∀ y ∈ wordsP x, y ≠ [] ∧ y.length ≤ 1048576 := fun y hy => by have := words_ok x y hy; exact ⟨this.1, by omega⟩
    have HHD : Hid (hdC x = tiV (nextL (wordsP x) false) (nextB (wordsP x) false) ∧ hdN x = unV m64 (tiL (nextL (wordsP x) false) (nextB (wordsP x) false)) (tiB (nextL (wordsP x) false) (nextB (wordsP x) false)) ∧ hdOk x = (!unB m64 (tiL (nextL (wordsP x) false) (nextB (wordsP x) false)) (tiB (nextL (wordsP x) false) (nextB (wordsP x) false)) && nextW (wordsP x) false == w_code)) := ⟨rfl, rfl, rfl⟩
    have i1 : (0 : Int) < ((x :: r).length : Int) := by simp
    go_wp2_with fail
    refine (rwords_calls x hxl w1).mono ?_
    rintro e w2 ⟨v, rfl, hown, hf2⟩
    have h2 := h1.call hf2 (by simp)
    have hs2 := hf2.size
    obtain ⟨tb, hin, htb, htb2⟩ := own_strs2 hown (by omega)
    have hin0 := hin
    obtain ⟨tp, tc, tof, rfl, _⟩ := hin0.form
    clear hin0 hown hf2 h1 hf1 hx1
    go_upto_region 5 with fail
    generalize hw3 : w2.alloc (.cells #[.slice tp (wordsP x).length tc, .bool false] 99) = w3
    have hf3 : Fr [] w2 w3 := by subst hw3; exact (Fr.refl _ _).alloc _
    have hT3 : RTk w2.heap.size tb w3 (wordsP x) false := ⟨_, by subst hw3; exact (MapKept.heap_alloc w2 _).1, hin.fr hf3 (by simp), by omega⟩
    have h3 := h2.call hf3 (by simp)
    have hTA : w.heap.size + 1 < w2.heap.size := by omega
    have htbA : ¬ tb = w.heap.size + 1 := by omega
    clear hw3 hin h2 hf3 hs2 hs1 htb2
    generalize w2.heap.size = T at *
    go_wp2_with fail
    refine (tnext_calls T tb w3 (wordsP x) false (by omega) hT3).mono ?_
    rintro e w4 ⟨rfl, hT4, hf4⟩
    have h4 := h3.call hf4 (by simp; omega)
    have hws1 : ∀ y ∈ nextL (wordsP x) false, y ≠ [] ∧ y.length ≤ 1048576 := fun y hy => hws y (nextL_sub.1 y hy)
    have hwl1 : (nextL (wordsP x) false).length ≤ 1048577 := by have := nextL_sub (l := wordsP x) (bad := false); omega
    clear hT3 h3 hf4 hws hwl
    generalize nextL (wordsP x) false = l1 at *
    generalize nextB (wordsP x) false = b1 at *
    generalize nextW (wordsP x) false = W at *
    go_wp2_with fail
    refine (tnum_calls T tb w4 l1 b1 (by omega) hws1 hT4).mono ?_
    rintro e w5 ⟨rfl, hT5, hf5⟩
    have h5 := h4.call hf5 (by simp; omega)
    have q5 := Lib.frozen_of_heap h5.x 0
    have p5 : w5.cell? ⟨w.heap.size + 1, 0, none⟩ = some (.int .i64 0) := by rw [Lib.cell_of_heap h5.x]; rfl
    have hT5S : RTk T tb (w5.setCell ⟨w.heap.size + 1, 0, none⟩ (.int .i64 (tiV l1 b1))) (tiL l1 b1) (tiB l1 b1) := hT5.fr ((Fr.refl [w.heap.size + 1] _).setCell (by simp) _) (by simp; omega) (by simp; omega)
    have H5S := Lib.hid (h5.store 0 (.int .i64 (tiV l1 b1)))
    have hws2 : ∀ y ∈ tiL l1 b1, y ≠ [] ∧ y.length ≤ 1048576 := fun y hy => hws1 y (tiL_sub.1 y hy)
    have hwl2 : (tiL l1 b1).length ≤ 1048577 := by have := tiL_sub (l := l1) (bad := b1); omega
    clear hT4 h4 hT5 hf5 h5 hws1 hwl1
    generalize tiL l1 b1 = l2 at *
    generalize tiB l1 b1 = b2 at *
    generalize tiV l1 b1 = code at *
    go_wp2_with fail
    refine (tunum_calls T tb m64 _ l2 b2 (by unfold m64; omega) (by unfold m64; omega) (by omega) hws2 hT5S).mono ?_
    rintro e w6 ⟨rfl, hT6, hf6⟩
    have h6 := H5S.out.call hf6 (by simp; omega)
    have q6 := Lib.frozen_of_heap h6.x 1
    have p6 : w6.cell? ⟨w.heap.size + 1, 1, none⟩ = some (.int .u64 0) := by rw [Lib.cell_of_heap h6.x]; rfl
    have h6s := h6.store 1 (.int .u64 (unV m64 l2 b2 : Nat))
    have hT6S : RTk T tb (w6.setCell ⟨w.heap.size + 1, 1, none⟩ (.int .u64 (unV m64 l2 b2 : Nat))) (nextL l2 b2) (unB m64 l2 b2) := hT6.fr ((Fr.refl [w.heap.size + 1] _).setCell (by simp) _) (by simp; omega) (by simp; omega)
    obtain ⟨c1, _, _⟩ := hT6S.bad
    have H6S := Lib.hid h6s
    clear hT6 h6 hf6 H5S q5 p5 hT5S hT6S hws2 hwl2 h6s
    generalize unV m64 l2 b2 = num at *
    generalize unB m64 l2 b2 = b3 at *
    go_upto_region 8 with fail
    generalize hw7 : w6.setCell ⟨w.heap.size + 1, 1, none⟩ (.int .u64 (num : Nat)) = w7
    rw [hw7] at c1 H6S
    have h7 : AnAt w w.heap.size (w.heap.size + 1) #[.int .i64 code, .int .u64 (num : Nat), .string ⟨#[]⟩, .slice none 0 0, .bool false] w7 := H6S.out
    clear hw7 H6S q6 p6
    by_cases hok : b3 = false ∧ W = w_code
    · obtain ⟨rfl, rfl⟩ := hok
      have HOK : Hid (hdOk x = true) := by show _ = _; rw [HHD.out.2.2]; decide
      have HS7 : Hid (∀ i (hi : i < (x :: r).length), w7.cell? ⟨b0, lo + i, none⟩ = some (strV (x :: r)[i])) := fun i hi => h7.f.cellAs (hcl i hi).2 (by simp)
      have hwc : (w_code == [99, 111, 100, 101]) = true := by decide
      have HPAR : Hid (parR (x :: r) = (txR r).map fun p => ⟨code, num, p.1, itsR (r.drop p.2), endR (r.drop p.2)⟩) := by
        show _ = _
        rw [parR, HOK.out, HHD.out.1, HHD.out.2.1]
        rfl
      have HCW : Hid (∀ i (hi : i < (x :: r).length), w.cell? ⟨b0, lo + i, none⟩ = some (strV (x :: r)[i])) := fun i hi => (hcl i hi).2
      clear hcl hx HHD HOK
      go_upto_region 10 with fail
      clear hwc
      obtain ⟨wa, hwa⟩ : ∃ u : World, u = w7 := ⟨_, rfl⟩
      go_cut [7] (fun s7 wx => s7 = .int .i64 1 ∧ wa = wx)
      case first =>
        go_wp2_with fail
        go_meet
        exact ⟨rfl, hwa⟩
      obtain ⟨rfl, hwc⟩ := hcut
      obtain rfl : w7 = wc := hwa.symm.trans hwc
      clear hwa hwc
      rename_i hKK
      refine hKK _ _ ?_
      apply wp_seq_k
      intro K2 hK2
      clear hKK
      go_cut [7] (fun s7 wx => ∃ (s : List UInt8) (k : Nat), Hid (txR r = some (s, k)) ∧ k ≤ r.length ∧ s7 = .int .i64 ((k + 1 : Nat) : Int) ∧ AnAt w w.heap.size (w.heap.size + 1) #[.int .i64 code, .int .u64 (num : Nat), .string (bs s), .slice none 0 0, .bool false] wx)
      case first =>
        have hcs : (r = []) ∨ (∃ y r2, r = y :: r2 ∧ ¬ 5 < y.length) ∨ (∃ y r2, r = y :: r2 ∧ 5 < y.length ∧ (y.take 5 == t5) = false) ∨ (∃ y r2, r = y :: r2 ∧ 5 < y.length ∧ (y.take 5 == t5) = true) := by
          cases r with
          | nil => exact .inl rfl
          | cons y r2 =>
            refine .inr ?_
            by_cases h5 : 5 < y.length
            · cases hq : (y.take 5 == t5) with
              | false => exact .inr (.inl ⟨y, r2, rfl, h5, hq⟩)
              | true => exact .inr (.inr ⟨y, r2, rfl, h5, hq⟩)
            · exact .inl ⟨y, r2, rfl, h5⟩
        rcases hcs with rfl | ⟨y, r2, rfl, h5⟩ | ⟨y, r2, rfl, h5, hq⟩ | ⟨y, r2, rfl, h5, hq⟩
        · go_wp2_with fail
          go_meet
          exact ⟨[], 0, rfl, Nat.zero_le _, rfl, h7⟩
        · have e1 : w7.cell? ⟨b0, lo + 1, none⟩ = some (.string (bs y)) := HS7.out 1 (by simp)
          have hTX : Hid (txR (y :: r2) = some ([], 0)) := by show _ = _; rw [txR, if_neg (fun h => h5 h.1)]
          have i2 : (1 : Int) < ((x :: y :: r2).length : Int) := by simp; omega
          go_wp2_with fail
          go_meet
          exact ⟨[], 0, hTX, Nat.zero_le _, rfl, h7⟩
        · have e1 : w7.cell? ⟨b0, lo + 1, none⟩ = some (.string (bs y)) := HS7.out 1 (by simp)
          have hTX : Hid (txR (y :: r2) = some ([], 0)) := by show _ = _; rw [txR, if_neg (fun h => by rw [h.2] at hq; cases hq)]
          have i2 : (1 : Int) < ((x :: y :: r2).length : Int) := by simp; omega
          have hys : (bs y).size = y.length := bs_size y
          have hex0 : (bs y).extract 0 5 = bs (y.take 5) := by rw [extract_bs]; simp
          have hq' : (y.take 5 == [116, 101, 120, 116, 32]) = false := hq
          clear hq
          generalize y.take 5 = y5 at *
          go_wp2_with fail
          go_meet
          exact ⟨[], 0, hTX, Nat.zero_le _, rfl, h7⟩
        · have e1 : w7.cell? ⟨b0, lo + 1, none⟩ = some (.string (bs y)) := HS7.out 1 (by simp)
          have hyl := HL.out y (by simp)
          have hTX : Hid (txR (y :: r2) = (hText (y.drop 5)).map fun s => (s, 1)) := by show _ = _; rw [txR, if_pos ⟨h5, by simpa using hq⟩]
          have i2 : (1 : Int) < ((x :: y :: r2).length : Int) := by simp; omega
          have hys : (bs y).size = y.length := bs_size y
          have hex0 : (bs y).extract 0 5 = bs (y.take 5) := by rw [extract_bs]; simp
          have hex5 : (bs y).extract 5 y.length = bs (y.drop 5) := by
            rw [extract_bs, List.take_of_length_le (by rw [List.length_drop]; omega)]
          have hdl : (y.drop 5).length ≤ 1048576 := by rw [List.length_drop]; omega
          have hq' : (y.take 5 == [116, 101, 120, 116, 32]) = true := hq
          clear hq
          generalize y.take 5 = y5 at *
          generalize y.drop 5 = yd at *
          go_wp2_with fail
          refine (rtext_calls yd hdl w7).mono ?_
          rintro e w8 ⟨rfl, hf8⟩
          have h8 := h7.call hf8 (by simp)
          cases ht : hText yd with
          | none =>
            rw [show ResT none = .tuple #[.string (bs []), .bool false] from rfl]
            have HR := Lib.hid (post_no (l := x :: y :: r2) (by rw [HPAR.out, hTX.out, ht]; rfl))
            go_wp2_with (refine wpList_store_row (by rfl) 47 (.tmp 2) (.tmp 70) (by rfl) w.heap.size (ansCells AAns.zero (.slice none 0 0)) (by rfl) (by rfl) 47 _ h8.r infoAns rfl (ansCells_one _ _ _ _) ?_)
            refine bodyPost_ret (v := .tuple #[.agg (ansCells AAns.zero (.slice none 0 0)), .int .i64 310]) (results_two rfl _ _ w.heap.size 47 (ansCells AAns.zero (.slice none 0 0)) (0, 0) _ (by rfl) (setRow_heap _ _ _ _ _ _ h8.r) Tryz.underlying47 rfl infoAns _ (by rfl)) rfl ?_
            refine ⟨_, by rw [HR.out]; rfl, ?_, h8.f.setRow (fun h => absurd h (by simp)) _⟩
            rw [HR.out]
            exact ⟨0, none, 0, 0, rfl, fun i hi => absurd hi (by simp [AAns.zero])⟩
          | some s =>
            rw [show ResT (some s) = .tuple #[.string (bs s), .bool true] from rfl]
            have q8 := Lib.frozen_of_heap h8.x 2
            have p8 : w8.cell? ⟨w.heap.size + 1, 2, none⟩ = some (.string ⟨#[]⟩) := by rw [Lib.cell_of_heap h8.x]; rfl
            have H8S := Lib.hid (h8.store 2 (.string (bs s)))
            go_wp2_with fail
            go_meet
            exact ⟨s, 1, by show _ = _; rw [hTX.out, ht]; rfl, by simp, rfl, H8S.out⟩
      obtain ⟨s, kx, HTX, hkx, rfl, h9⟩ := hcut
      have HPA : Hid (parR (x :: r) = some ⟨code, num, s, itsR (r.drop kx), endR (r.drop kx)⟩) := by show _ = _; rw [HPAR.out, HTX.out]; rfl
      clear HPAR HTX
      have hlr : (r.drop kx).length = r.length - kx := List.length_drop ..
      refine hK2 _ _ ?_
      clear hK2
      apply wp_seq_k
      intro K3 hK3
      go_cut [7] (fun s7 wx => ∃ iv : Value, s7 = .int .i64 ((kx + 1 + (itsR (r.drop kx)).length : Nat) : Int) ∧ OwnI (w.heap.size + 2) wx iv (itsR (r.drop kx)) ∧ AnAt w w.heap.size (w.heap.size + 1) #[.int .i64 code, .int .u64 (num : Nat), .string (bs s), iv, .bool false] wx)
      case first =>
        go_wp2_with fail
        go_loopg [7] (r.length - kx) (fun g i wr => ∃ (k : Nat) (iv : Value) (acc : List AItem), k + g = (x :: r).length ∧ i = .int .i64 k ∧ OwnI (w.heap.size + 2) wr iv acc ∧ AnAt w w.heap.size (w.heap.size + 1) #[.int .i64 code, .int .u64 (num : Nat), .string (bs s), iv, .bool false] wr ∧ k = kx + 1 + acc.length ∧ Hid (itsR (r.drop kx) = acc ++ itsR ((x :: r).drop k)))
        case atStart =>
          have h2 := hlr
          refine ⟨kx + 1, .slice none 0 0, [], by simp; omega, rfl, ⟨rfl, .inl ⟨rfl, rfl⟩⟩, h9, by simp, ?_⟩
          show _ = _
          rw [List.nil_append, List.drop_succ_cons]
        case round =>
          obtain ⟨k, iv, acc, hkg, rfl, hown, hA, hka, HIT⟩ := hrel
          have hfew : acc.length ≤ 1048576 := by simp at hkg hn; omega
          have HKA := Lib.hid hka
          clear hka
          by_cases hlt : k < (x :: r).length
          · have ek : wr.cell? ⟨b0, lo + k, none⟩ = some (strV (x :: r)[k]) := hA.f.cellAs (HCW.out k hlt) (by simp)
            have hyl := HL.out (x :: r)[k] (List.getElem_mem hlt)
            have HDR : Hid (itsR ((x :: r).drop k) = if (itP (x :: r)[k]).2 then (itP (x :: r)[k]).1 :: itsR ((x :: r).drop (k + 1)) else []) := by
              show _ = _
              rw [List.drop_eq_getElem_cons hlt, itsR]
            generalize (x :: r)[k] = y at *
            unfold strV at ek
            have j0 : (0 : Int) ≤ (k : Int) := by omega
            have j1 : (k : Int) < (r.length : Int) + 1 := by rw [List.length_cons] at hlt; omega
            go_wp2_with fail
            refine (ritem_calls y hyl wr).mono ?_
            rintro e wi ⟨rfl, hfi⟩
            have hAi := hA.call hfi (by simp)
            have hoi : wi.ownsRow (w.heap.size + 2) 104 4 iv acc.length (itemsC acc) := ownsRow_fr hown hfi (by simp)
            generalize (itP y).1 = it at *
            generalize (itP y).2 = ii at *
            have hic : itemCells it = #[.string (bs it.name), .int .u64 (it.n : Nat), .int .i64 it.len, .bool it.gone] := rfl
            rw [hic]
            cases ii
            · go_wp2_with fail
              go_meet
              have hI : itsR (r.drop kx) = acc := by
                rw [HIT.out, HDR.out]
                simp
              rw [hI]
              refine ⟨iv, by rw [HKA.out], ?_, hAi.call ((Fr.refl [] wi).alloc _) (by simp)⟩
              exact ownsRow_fr hoi ((Fr.refl [] wi).alloc _) (by simp)
            · go_upto_region 20 with fail
              generalize hwj : wi.alloc (.cells #[.string (bs it.name), .int .u64 (it.n : Nat), .int .i64 it.len, .bool it.gone] 104) = wj
              have HZ : Hid (wj.heap[wi.heap.size]? = some (.cells #[.string (bs it.name), .int .u64 (it.n : Nat), .int .i64 it.len, .bool it.gone] 104 (0, 0))) := by show _ = _; subst hwj; exact (MapKept.heap_alloc wi _).1
              have hfj : Fr [] wi wj := by subst hwj; exact (Fr.refl _ _).alloc _
              have hAj := hAi.call hfj (by simp)
              have hoj : wj.ownsRow (w.heap.size + 2) 104 4 iv acc.length (itemsC acc) := ownsRow_fr hoi hfj (by simp)
              have hZlt : wi.heap.size < wj.heap.size := lt_of_block HZ.out
              have hsz : w.heap.size + 2 ≤ wj.heap.size := by have h1 := lt_of_block hAj.x; omega
              have r3 : wj.cell? ⟨w.heap.size + 1, 3, none⟩ = some iv := by rw [Lib.cell_of_heap hAj.x]; rfl
              have HAJ := Lib.hid hAj
              clear hwj hfj hAj hAi hoi hA hown
              generalize wi.heap.size = Z at *
              obtain ⟨t0, ti, tz0, tz1, tz2⟩ := info_parts infoItem
              go_wp2_with (first
                | (refine wpList_load_row (by rfl) 104 (.tmp 10) (by rfl) Z (by rfl) 104 _ _ _ HZ.out Tryz.underlying104 rfl (by rw [ti]; simp [tz1]) ?_)
                | (at_builtin; refine wpList_append_own _ rfl _ _ 43 rfl (w.heap.size + 2) 104 t0 (.agg #[.string ⟨#[]⟩, .int .u64 0, .int .i64 0, .bool false]) 4 40 Tryz.underlying43 ti tz0 tz1 tz2 rfl (by decide) _ _ _ rfl (hoj.alloc _) ⟨wj.heap.size, 0, none⟩ 1 1 [.string (bs it.name), .int .u64 (it.n : Nat), .int .i64 it.len, .bool it.gone] rfl rfl ?c1 ?c2 ?c3 ?c4 ?c5 ?_))
              case c1 =>
                intro j u hj
                match j, hj with
                | 0, hj => simp at hj; subst hj; simp [Addr.add]
                | 1, hj => simp at hj; subst hj; simp [Addr.add]
                | 2, hj => simp at hj; subst hj; simp [Addr.add]
                | 3, hj => simp at hj; subst hj; simp [Addr.add]
              case c2 =>
                intro u hu
                simp only [List.mem_cons, List.not_mem_nil, or_false] at hu
                rcases hu with rfl | rfl | rfl | rfl <;> rfl
              case c3 => unfold maxLen; omega
              case c4 => omega
              case c5 => simp; omega
              intro v' w13 hown13 hgrow _
              obtain ⟨gg, cap, rfl⟩ : ∃ g cap, v' = .slice (some ⟨g, 0, none⟩) (acc.length + 1) cap := by
                rcases hown13.2 with ⟨_, h0⟩ | ⟨g, cap, cur, hv, _⟩
                · omega
                · exact ⟨g, cap, hv⟩
              have hlo : ∀ i ∈ iv.ownBlock.toList, w.heap.size + 1 < i := fun i hi => by
                have h1 := (hoj.lt i (by simpa using hi)).1
                omega
              have hA13 := (HAJ.out.call ((Fr.refl [] wj).alloc _) (by simp)).call (Fr.of_grown hgrow) hlo
              have r3' : w13.cell? ⟨w.heap.size + 1, 3, none⟩ = some iv := by rw [Lib.cell_of_heap hA13.x]; rfl
              have f3' : w13.frozen? ⟨w.heap.size + 1, 3, none⟩ = false := Lib.frozen_of_heap hA13.x 3
              have HA14 := Lib.hid (hA13.store 3 (.slice (some ⟨gg, 0, none⟩) (acc.length + 1) cap))
              have hown14 : (w13.setCell ⟨w.heap.size + 1, 3, none⟩ (.slice (some ⟨gg, 0, none⟩) (acc.length + 1) cap)).ownsRow (w.heap.size + 2) 104 4 (.slice (some ⟨gg, 0, none⟩) (acc.length + 1) cap) (acc.length + 1) (itemsC acc ++ [.string (bs it.name), .int .u64 (it.n : Nat), .int .i64 it.len, .bool it.gone]) :=
                ownsRow_fr (M := [w.heap.size + 1]) hown13 ((Fr.refl _ _).setCell (by simp) _) (fun m hm e => by
                  have h1 := (hown13.lt _ e).1
                  simp at hm
                  omega)
              have HOWN14 := Lib.hid hown14
              clear hown13 hown14 hA13 hgrow hlo
              go_wp2_with fail
              go_roundg (gk - 1)
              case measure => omega
              case rel =>
                refine ⟨k + 1, .slice (some ⟨gg, 0, none⟩) (acc.length + 1) cap, acc ++ [it], by omega, by go_num, ?_, HA14.out, ?_, ?_⟩
                · show World.ownsRow _ _ _ _ _ _ _
                  rw [itemsC_snoc, List.length_append]
                  exact HOWN14.out
                · rw [List.length_append, HKA.out]; simp; omega
                · show _ = _
                  rw [HIT.out, HDR.out]
                  simp
          · have hI : itsR (r.drop kx) = acc := by
              rw [HIT.out, List.drop_eq_nil_of_le (by omega)]
              simp [itsR]
            have j2 : ¬ (k : Int) < (r.length : Int) + 1 := by rw [List.length_cons] at hlt; omega
            have HII := Lib.hid hI
            clear hI
            go_wp2_with fail
            all_goals
              go_meet
              rw [HII.out]
              exact ⟨iv, by rw [HKA.out], hown, hA⟩
      obtain ⟨iv, rfl, hown, hA⟩ := hcut
      refine hK3 _ _ ?_
      clear hK3
      apply wp_seq_k
      intro K4 hK4
      have hend := end_at (x := x) hkx rfl
      have HPA2 := Lib.hid HPA.out
      clear HPA
      have hwf := par_wf HL.out hn HPA2.out
      have HWF := Lib.hid hwf
      clear hwf
      generalize itsR (r.drop kx) = its at *
      generalize endR (r.drop kx) = m at *
      generalize hne : kx + 1 + its.length = n at *
      clear hne
      have HEND := Lib.hid hend
      clear hend
      go_cut [] (fun wx => OwnI (w.heap.size + 2) wx iv its ∧ AnAt w w.heap.size (w.heap.size + 1) #[.int .i64 code, .int .u64 (num : Nat), .string (bs s), iv, .bool m] wx)
      case first =>
        have f4 := Lib.frozen_of_heap hA.x 4
        have q4 : wc.cell? ⟨w.heap.size + 1, 4, none⟩ = some (.bool false) := by rw [Lib.cell_of_heap hA.x]; rfl
        have HA := Lib.hid hA
        have HAS := Lib.hid (hA.store 4 (.bool true))
        have HOWN := Lib.hid hown
        have HOWNS : Hid (OwnI (w.heap.size + 2) (wc.setCell ⟨w.heap.size + 1, 4, none⟩ (.bool true)) iv its) := ownsRow_fr (M := [w.heap.size + 1]) hown ((Fr.refl _ _).setCell (by simp) _) (fun m hm e => by
          have h1 := (hown.lt _ e).1
          simp at hm
          omega)
        clear hA hown
        by_cases hlt : n < (x :: r).length
        · have ek : wc.cell? ⟨b0, lo + n, none⟩ = some (strV (x :: r)[n]) := HA.out.f.cellAs (HCW.out n hlt) (by simp)
          have HM : Hid (m = decide ((x :: r)[n] = moreL)) := by
            show _ = _
            rw [HEND.out, List.drop_eq_getElem_cons hlt]
            simp
          generalize (x :: r)[n] = y at *
          unfold strV at ek
          have j0 : (0 : Int) ≤ (n : Int) := by omega
          have j1 : (n : Int) < (r.length : Int) + 1 := by rw [List.length_cons] at hlt; omega
          by_cases hy : y = moreL
          · have HMT : Hid (m = true) := by show _ = _; rw [HM.out, hy]; simp
            subst hy
            unfold moreL at ek
            clear HM
            go_wp2_with fail
            go_meet
            rw [HMT.out]
            exact ⟨HOWNS.out, HAS.out⟩
          · have hy' : (y == [109, 111, 114, 101]) = false := by simpa [moreL] using hy
            have HMF : Hid (m = false) := by show _ = _; rw [HM.out]; simp [hy]
            clear HM hy
            go_wp2_with fail
            go_meet
            rw [HMF.out]
            exact ⟨HOWN.out, HA.out⟩
        · have j2 : ¬ (n : Int) < (r.length : Int) + 1 := by rw [List.length_cons] at hlt; omega
          have HMF : Hid (m = false) := by
            show _ = _
            rw [HEND.out, List.drop_eq_nil_of_le (by omega)]
            simp
          go_wp2_with fail
          go_meet
          rw [HMF.out]
          exact ⟨HOWN.out, HA.out⟩
      obtain ⟨hown5, hA5⟩ := hcut
      clear hown hA
      refine hK4 _ _ ?_
      clear hK4
      obtain ⟨ib, hib, hibR⟩ := ownI_in2 hown5
      obtain ⟨ip, ic, hiv⟩ := ownI_form hown5
      subst hiv
      have HIB := Lib.hid hib
      have HA5 := Lib.hid hA5
      clear hib hown5 hA5
      have hac : #[.int .i64 code, .int .u64 (num : Nat), .string (bs s), .slice ip its.length ic, .bool m] = ansCells ⟨code, num, s, its, m⟩ (.slice ip its.length ic) := rfl
      rw [hac] at HA5
      clear hac
      have HYES : Hid (toldP ⟨code, num, s, its, m⟩ = x :: r → aR (x :: r) = (⟨code, num, s, its, m⟩, true)) := fun h => by unfold aR; rw [HPA2.out]; show (if _ then _ else _) = _; rw [if_pos h]
      have HNO : Hid (toldP ⟨code, num, s, its, m⟩ ≠ x :: r → aR (x :: r) = (AAns.zero, false)) := fun h => by unfold aR; rw [HPA2.out]; show (if _ then _ else _) = _; rw [if_neg h]
      have hwk := Lib.hid (told_few HWF.out)
      go_wp2_with (refine wpList_load_row (by rfl) 47 (.tmp 4) (by rfl) (w.heap.size + 1) (by rfl) 47 _ _ _ HA5.out.x Tryz.underlying47 rfl infoAns ?_)
      refine (rtold_calls ⟨code, num, s, its, m⟩ (.slice ip its.length ic) ib HWF.out _ HIB.out).mono ?_
      rintro e w20 ⟨tv, rfl, hown20, hf20⟩
      obtain ⟨tb, htb⟩ := strsIn_any (show w20.ownsRow _ _ _ _ _ _ from hown20)
      have hin20 := HIN.out.fr (HA5.out.f.andThen hf20) (by simp)
      have H20 := Lib.hid (HA5.out.call hf20 (by simp))
      have HIB20 := Lib.hid (HIB.out.fr hf20 (by simp))
      clear hown20 hf20 HA5 HIB
      go_wp2_with fail
      refine (same_calls tb b0 tv _ _ (x :: r) w20 htb hin20 hwk.out (by omega)).mono ?_
      rintro e w21 ⟨rfl, hf21⟩
      have H21 := Lib.hid (H20.out.call hf21 (by simp))
      have HIB21 := Lib.hid (HIB20.out.fr hf21 (by simp))
      have hR21s := lt_of_block H21.out.r
      clear htb hin20 H20 HIB20 hf21
      by_cases heq : toldP ⟨code, num, s, its, m⟩ = x :: r
      · have hdec : decide (toldP ⟨code, num, s, its, m⟩ = x :: r) = true := by simp [heq]
        have HE := Lib.hid (HYES.out heq)
        rw [hdec]
        clear hdec heq
        go_wp2_with (first
          | (refine wpList_load_row (by rfl) 47 (.tmp 4) (by rfl) (w.heap.size + 1) (by rfl) 47 _ _ _ H21.out.x Tryz.underlying47 rfl infoAns ?_)
          | (refine wpList_store_row (by rfl) 47 (.tmp 2) (.tmp 118) (by rfl) w.heap.size (ansCells ⟨code, num, s, its, m⟩ (.slice ip its.length ic)) (by rfl) (by rfl) 47 _ H21.out.r infoAns rfl (ansCells_one _ _ _ _) ?_))
        refine bodyPost_ret (v := .tuple #[.agg (ansCells ⟨code, num, s, its, m⟩ (.slice ip its.length ic)), .int .i64 0]) (results_two rfl _ _ w.heap.size 47 (ansCells ⟨code, num, s, its, m⟩ (.slice ip its.length ic)) (0, 0) _ (by rfl) (setRow_heap _ _ _ _ _ _ H21.out.r) Tryz.underlying47 rfl infoAns _ (by rfl)) rfl ?_
        refine ⟨_, by rw [HE.out]; rfl, ⟨ib, ?_⟩, H21.out.f.setRow (fun h => absurd h (by simp)) _⟩
        rw [HE.out]
        by_cases hi0 : its.length = 0
        · obtain rfl := List.length_eq_zero_iff.1 hi0
          exact ⟨ip, ic, 0, rfl, fun i hi => absurd hi (by simp)⟩
        · have hne : ib ≠ w.heap.size := by
            rcases hibR with h | h
            · exact absurd h hi0
            · omega
          exact HIB21.out.fr ((Fr.refl [w.heap.size] _).setRow (by simp) _) (by simpa using hne)
      · have hdec : decide (toldP ⟨code, num, s, its, m⟩ = x :: r) = false := by simp [heq]
        have HE := Lib.hid (HNO.out heq)
        rw [hdec]
        clear hdec heq
        go_wp2_with (refine wpList_store_row (by rfl) 47 (.tmp 2) (.tmp 117) (by rfl) w.heap.size (ansCells AAns.zero (.slice none 0 0)) (by rfl) (by rfl) 47 _ H21.out.r infoAns rfl (ansCells_one _ _ _ _) ?_)
        refine bodyPost_ret (v := .tuple #[.agg (ansCells AAns.zero (.slice none 0 0)), .int .i64 310]) (results_two rfl _ _ w.heap.size 47 (ansCells AAns.zero (.slice none 0 0)) (0, 0) _ (by rfl) (setRow_heap _ _ _ _ _ _ H21.out.r) Tryz.underlying47 rfl infoAns _ (by rfl)) rfl ?_
        refine ⟨_, by rw [HE.out]; rfl, ?_, H21.out.f.setRow (fun h => absurd h (by simp)) _⟩
        rw [HE.out]
        exact ⟨0, none, 0, 0, rfl, fun i hi => absurd hi (by simp [AAns.zero])⟩
    · have hpn : parR (x :: r) = none := by
        rw [parR, if_neg]
        rw [HHD.out.2.2]
        intro h
        simp only [Bool.and_eq_true, Bool.not_eq_true', beq_iff_eq] at h
        exact hok h
      have HR := Lib.hid (post_no hpn)
      have hcs : b3 = true ∨ (b3 = false ∧ (W == [99, 111, 100, 101]) = false) := by
        cases b3
        · exact .inr ⟨rfl, by rw [beq_eq_false_iff_ne]; exact fun e => hok ⟨rfl, e⟩⟩
        · exact .inl rfl
      clear hok hpn
      rcases hcs with rfl | ⟨rfl, hq⟩
      all_goals
        go_wp2_with (refine wpList_store_row (by rfl) 47 (.tmp 2) (.tmp 38) (by rfl) w.heap.size (ansCells AAns.zero (.slice none 0 0)) (by rfl) (by rfl) 47 _ h7.r infoAns rfl (ansCells_one _ _ _ _) ?_)
        refine bodyPost_ret (v := .tuple #[.agg (ansCells AAns.zero (.slice none 0 0)), .int .i64 310]) (results_two rfl _ _ w.heap.size 47 (ansCells AAns.zero (.slice none 0 0)) (0, 0) _ (by rfl) (setRow_heap _ _ _ _ _ _ h7.r) Tryz.underlying47 rfl infoAns _ (by rfl)) rfl ?_
        refine ⟨_, by rw [HR.out]; rfl, ?_, h7.f.setRow (fun h => absurd h (by simp)) _⟩
        rw [HR.out]
        exact ⟨0, none, 0, 0, rfl, fun i hi => absurd hi (by simp [AAns.zero])⟩
end Go.Proofs.YtcaeppncippknaaGreatDoor
