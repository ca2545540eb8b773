/- Which calls may be, and which call a line is, in plain: the document's answer is the program's. Conditions: none beyond the sizes (Wf). -/
import Derived.Test.YtcaeppncippknaaGreatDoorZRItemP
namespace Go.Proofs.YtcaeppncippknaaGreatDoor
open Go

/-- Part p of c, written and read back into d. -/
def setP (p : Nat) (c d : ACall) : ACall :=
  match p with
  | 1 => { d with bucket := c.bucket }
  | 2 => { d with name := c.name }
  | 3 => { d with num := c.num }
  | 4 => if c.ck = 2 then { d with ck := 2, cn := c.cn } else { d with ck := c.ck }
  | 5 => { d with text := c.text }
  | 6 => { d with most := c.most }
  | 7 => { d with pre := c.pre }
  | 8 => { d with aft := c.aft }
  | 9 => { d with part := c.part }
  | _ => d
def setAll (fs : List Nat) (c d : ACall) : ACall := fs.foldl (fun d f => setP (pn f) c d) d
/-- Part p of c, laid into d. -/
def putP (p : Nat) (c d : ACall) : ACall :=
  match p with
  | 1 => { d with bucket := c.bucket }
  | 2 => { d with name := c.name }
  | 3 => { d with num := c.num }
  | 4 => { d with ck := c.ck, cn := c.cn }
  | 5 => { d with text := c.text }
  | 6 => { d with most := c.most }
  | 7 => { d with pre := c.pre }
  | 8 => { d with aft := c.aft }
  | 9 => { d with part := c.part }
  | _ => d
def putAll (fs : List Nat) (c d : ACall) : ACall := fs.foldl (fun d f => putP (pn f) c d) d
def onlyP (c : ACall) : ACall := putAll (lineX c).2.2 c { ACall.zero with kind := c.kind }
def shortP (t : List UInt8) : Bool := decide ((hWord t).length ≤ 65536)
def mayP (c : ACall) : Bool := (lineK c).isSome && decide (c = onlyP c) && decide (c.ck ≤ 2) && (decide (c.ck = 2) || decide (c.cn = 0)) &&
  (shortP c.bucket && shortP c.name && shortP c.text && shortP c.pre && shortP c.aft)

theorem wrP_other {p : Nat} (c : ACall) (h : p = 0 ∨ 9 < p) : wrP p c = [] ∧ wrB p c = false ∧ ∀ s, rdP p s = s := by
  refine ⟨?_, ?_, fun s => ?_⟩
  · unfold wrP; split <;> first | rfl | omega
  · unfold wrB; split <;> first | rfl | omega
  · unfold rdP; split <;> first | rfl | omega
theorem part_cases (p : Nat) : p = 1 ∨ p = 2 ∨ p = 3 ∨ p = 4 ∨ p = 5 ∨ p = 6 ∨ p = 7 ∨ p = 8 ∨ p = 9 ∨ (p = 0 ∨ 9 < p) := by omega
theorem rd_wr {p : Nat} {c : ACall} (hw : c.Wf) (hb : wrB p c = false) (d : ACall) (r : List (List UInt8)) : rdP p ⟨d, wrP p c ++ r, false⟩ = ⟨setP p c d, r, false⟩ := by
  have ht : ∀ t : List UInt8, decide (65536 < (hWord t).length) = false → textB (hWord t :: r) false = false := fun t h => by
    show (false || !(hText (hWord t)).isSome || decide (65536 < (hWord t).length)) = false
    rw [hText_word, h]; rfl
  rcases part_cases p with rfl | rfl | rfl | rfl | rfl | rfl | rfl | rfl | rfl | h
  · show RS.mk { d with bucket := textV (hWord c.bucket :: r) false } r (textB (hWord c.bucket :: r) false) = RS.mk { d with bucket := c.bucket } r false
    rw [textV_word, ht _ hb]
  · show RS.mk { d with name := textV (hWord c.name :: r) false } r (textB (hWord c.name :: r) false) = RS.mk { d with name := c.name } r false
    rw [textV_word, ht _ hb]
  · show RS.mk { d with num := numV (Lib.decDigits c.num :: r) false } r (numB (Lib.decDigits c.num :: r) false) = RS.mk { d with num := c.num } r false
    rw [numV_dec hw.num, numB_dec hw.num]
  · have hk : c.ck ≤ 2 := by
      have h : decide (2 < c.ck) = false := hb
      simpa using h
    show _ = RS.mk (if c.ck = 2 then { d with ck := 2, cn := c.cn } else { d with ck := c.ck }) r false
    by_cases h2 : c.ck = 2
    · have e : wrP 4 c ++ r = w_is :: Lib.decDigits c.cn :: r := by
        show condOut c.ck c.cn ++ r = _
        unfold condOut
        rw [if_pos h2]; rfl
      rw [e, if_pos h2]
      show RS.mk { d with ck := 2, cn := numV (Lib.decDigits c.cn :: r) false } r (numB (Lib.decDigits c.cn :: r) false) = _
      rw [numV_dec hw.cn, numB_dec hw.cn]
    · have e : wrP 4 c ++ r = condW1 c.ck :: r := by
        show condOut c.ck c.cn ++ r = _
        unfold condOut
        rw [if_neg h2]; rfl
      rw [e, if_neg h2]
      have h3 : c.ck = 0 ∨ c.ck = 1 := by omega
      rcases h3 with h3 | h3
      · rw [h3]; rfl
      · rw [h3]; rfl
  · show RS.mk { d with text := textV (hWord c.text :: r) false } r (textB (hWord c.text :: r) false) = RS.mk { d with text := c.text } r false
    rw [textV_word, ht _ hb]
  · show RS.mk { d with most := intV (Lib.itoa c.most :: r) false } r (intB (Lib.itoa c.most :: r) false) = RS.mk { d with most := c.most } r false
    rw [intV_itoa hw.most, intB_itoa hw.most]
  · show RS.mk { d with pre := textV (hWord c.pre :: r) false } r (textB (hWord c.pre :: r) false) = RS.mk { d with pre := c.pre } r false
    rw [textV_word, ht _ hb]
  · show RS.mk { d with aft := textV (hWord c.aft :: r) false } r (textB (hWord c.aft :: r) false) = RS.mk { d with aft := c.aft } r false
    rw [textV_word, ht _ hb]
  · show RS.mk { d with part := intV (Lib.itoa c.part :: r) false } r (intB (Lib.itoa c.part :: r) false) = RS.mk { d with part := c.part } r false
    rw [intV_itoa hw.part, intB_itoa hw.part]
  · obtain ⟨h1, _, h3⟩ := wrP_other c h
    rw [h1, h3]
    have e : setP p c d = d := by unfold setP; split <;> first | rfl | omega
    rw [e]; rfl
theorem rdAll_wr {c : ACall} (hw : c.Wf) : ∀ (fs : List Nat) (d : ACall) (r : List (List UInt8)), wrBad fs c = false → rdAll fs ⟨d, wrAll fs c ++ r, false⟩ = ⟨setAll fs c d, r, false⟩
  | [], d, r, _ => rfl
  | f :: fs, d, r, h => by
    have h' : (wrB (pn f) c || fs.any fun f => wrB (pn f) c) = false := h
    rw [Bool.or_eq_false_iff] at h'
    have e : wrAll (f :: fs) c ++ r = wrP (pn f) c ++ (wrAll fs c ++ r) := by unfold wrAll; rw [List.flatMap_cons, List.append_assoc]
    show rdAll fs (rdP (pn f) ⟨d, wrAll (f :: fs) c ++ r, false⟩) = _
    rw [e, rd_wr hw h'.1, rdAll_wr hw fs _ r h'.2]
    rfl
theorem lineX_row {c : ACall} {r : KRow} (h : lineK c = some r) : lineX c = r ∧ r ∈ kindRows ∧ r.1 = c.kind := by
  refine ⟨by unfold lineX; rw [h]; rfl, List.mem_of_find?_eq_some h, ?_⟩
  have := List.find?_some h
  simpa using this
theorem rowOf_row {r : KRow} (h : r ∈ kindRows) : rowOf r.2.1 = some r := by
  obtain ⟨i, hi, rfl⟩ := List.getElem_of_mem h
  exact rowOf_some hi rfl
theorem read_wr {c : ACall} (hw : c.Wf) {r : KRow} (h : lineK c = some r) (hb : wrBad r.2.2 c = false) : readC (lineOut c) = (setAll r.2.2 c { ACall.zero with kind := c.kind }, true) := by
  obtain ⟨h1, h2, h3⟩ := lineX_row h
  have e : lineOut c = r.2.1 :: wrAll r.2.2 c := by unfold lineOut; rw [h1]
  have h4 := rowOf_row h2
  unfold readC
  rw [e]
  show (match rowOf r.2.1 with | none => (ACall.zero, false) | some r' => ((readS r' (r.2.1 :: wrAll r.2.2 c)).c, !(readS r' (r.2.1 :: wrAll r.2.2 c)).bad && (readS r' (r.2.1 :: wrAll r.2.2 c)).l.isEmpty)) = _
  rw [h4]
  have h5 : readS r (r.2.1 :: wrAll r.2.2 c) = ⟨setAll r.2.2 c { ACall.zero with kind := c.kind }, [], false⟩ := by
    show rdAll r.2.2 ⟨{ ACall.zero with kind := r.1 }, wrAll r.2.2 c, false⟩ = _
    have h6 := rdAll_wr hw r.2.2 { ACall.zero with kind := r.1 } [] hb
    rw [List.append_nil] at h6
    rw [h6, h3]
  show ((readS r (r.2.1 :: wrAll r.2.2 c)).c, _) = _
  rw [h5]; rfl
theorem lineOk_form {c : ACall} (hw : c.Wf) {r : KRow} (h : lineK c = some r) : lineOk c = (!wrBad r.2.2 c && decide (setAll r.2.2 c { ACall.zero with kind := c.kind } = c)) := by
  obtain ⟨h1, h2, h3⟩ := lineX_row h
  unfold lineOk
  rw [h1, h]
  cases hb : wrBad r.2.2 c with
  | true => rfl
  | false =>
    rw [read_wr hw h hb]; rfl
theorem short_nil : shortP [] = true := by decide
theorem short_neg (t : List UInt8) : (!decide (65536 < (hWord t).length)) = shortP t := by
  unfold shortP
  rw [Bool.eq_iff_iff]
  simp

theorem may_row (c : ACall) {r : KRow} (hr : r ∈ kindRows) (hk : r.1 = c.kind) :
    (!wrBad r.2.2 c && decide (setAll r.2.2 c { ACall.zero with kind := c.kind } = c)) = (decide (c = putAll r.2.2 c { ACall.zero with kind := c.kind }) && decide (c.ck ≤ 2) && (decide (c.ck = 2) || decide (c.cn = 0)) &&
      (shortP c.bucket && shortP c.name && shortP c.text && shortP c.pre && shortP c.aft)) := by
  have p1 : pn 64 = 1 := by decide
  have p2 : pn 66 = 2 := by decide
  have p3 : pn 67 = 3 := by decide
  have p4 : pn 68 = 4 := by decide
  have p5 : pn 70 = 5 := by decide
  have p6 : pn 71 = 6 := by decide
  have p7 : pn 72 = 7 := by decide
  have p8 : pn 73 = 8 := by decide
  have p9 : pn 74 = 9 := by decide
  have hn := short_nil
  have hs := short_neg
  obtain ⟨kind, bucket, name, num, part, text, ck, cn, pre, aft, most⟩ := c
  simp only at hk
  subst hk
  simp only [kindRows, List.mem_cons, List.not_mem_nil, or_false] at hr
  rcases hr with rfl | rfl | rfl | rfl | rfl | rfl | rfl | rfl | rfl | rfl | rfl | rfl | rfl | rfl
  all_goals
    simp only [wrBad, List.any_cons, List.any_nil, setAll, putAll, List.foldl_cons, List.foldl_nil, p1, p2, p3, p4, p5, p6, p7, p8, p9, wrB, setP, putP, ACall.zero, Bool.or_false, Bool.not_or, hs]
    rw [Bool.eq_iff_iff]
    by_cases h2 : ck = 2
    · subst h2
      simp only [if_true, ACall.mk.injEq, true_and, and_true, Bool.and_eq_true, decide_eq_true_eq, Bool.or_eq_true, Bool.not_false, Nat.lt_irrefl, decide_false, Nat.le_refl, true_or]
      constructor
      · intro h
        simp_all <;> omega
      · intro h
        simp_all <;> omega
    · simp only [h2, if_false, ACall.mk.injEq, true_and, and_true, Bool.and_eq_true, decide_eq_true_eq, Bool.or_eq_true, Bool.not_eq_true', Bool.not_false, decide_eq_false_iff_not, false_or]
      constructor
      · intro h
        simp_all <;> omega
      · intro h
        simp_all <;> omega
end Go.Proofs.YtcaeppncippknaaGreatDoor
/- Words that are read as a call are the call's own words, in plain: house.read and the document's Take answer the same. Conditions: no word is empty, or longer than 2^20. -/
namespace Go.Proofs.YtcaeppncippknaaGreatDoor
open Go

theorem nextB_no {l : List (List UInt8)} {bad : Bool} (h : nextB l bad = false) : bad = false ∧ ∃ x r, l = x :: r := by
  unfold nextB at h
  rw [Bool.or_eq_false_iff] at h
  refine ⟨h.1, ?_⟩
  cases l with
  | nil => cases h.2
  | cons x r => exact ⟨x, r, rfl⟩
structure Reads1 (st : Nat → RS → RS) (B : Nat → ACall → Bool) : Prop where
  sub : ∀ p s x, x ∈ (st p s).l → x ∈ s.l
  exact : ∀ p s, (∀ x ∈ s.l, x ≠ []) → (st p s).bad = false → s.bad = false ∧ s.l = wrP p (st p s).c ++ (st p s).l ∧ B p (st p s).c = false
  frame : ∀ p q s, p ≠ q → wrP p (st q s).c = wrP p s.c ∧ B p (st q s).c = B p s.c
  kind : ∀ p s, (st p s).c.kind = s.c.kind
def allS (st : Nat → RS → RS) (fs : List Nat) (s : RS) : RS := fs.foldl (fun s f => st (pn f) s) s
section
variable {st : Nat → RS → RS} {B : Nat → ACall → Bool}
theorem all_frame (h : Reads1 st B) : ∀ (fs : List Nat) (s : RS) (p : Nat), p ∉ fs.map pn → wrP p (allS st fs s).c = wrP p s.c ∧ B p (allS st fs s).c = B p s.c
  | [], _, _, _ => ⟨rfl, rfl⟩
  | f :: fs, s, p, hp => by
    have h1 := all_frame h fs (st (pn f) s) p (fun hm => hp (by simp only [List.map_cons, List.mem_cons]; exact .inr hm))
    have h2 := h.frame p (pn f) s (fun e => hp (by simp [e]))
    exact ⟨h1.1.trans h2.1, h1.2.trans h2.2⟩
theorem all_kind (h : Reads1 st B) : ∀ (fs : List Nat) (s : RS), (allS st fs s).c.kind = s.c.kind
  | [], _ => rfl
  | f :: fs, s => (all_kind h fs (st (pn f) s)).trans (h.kind (pn f) s)
theorem all_exact (h : Reads1 st B) : ∀ (fs : List Nat) (s : RS), (∀ x ∈ s.l, x ≠ []) → (fs.map pn).Nodup → (allS st fs s).bad = false →
    s.bad = false ∧ s.l = wrAll fs (allS st fs s).c ++ (allS st fs s).l ∧ ∀ f ∈ fs, B (pn f) (allS st fs s).c = false
  | [], s, _, _, hb => ⟨hb, rfl, fun f hf => by cases hf⟩
  | f :: fs, s, hl, hn, hb => by
    rw [List.map_cons, List.nodup_cons] at hn
    obtain ⟨h1, h2, h3⟩ := all_exact h fs (st (pn f) s) (fun x hx => hl x (h.sub _ _ _ hx)) hn.2 hb
    obtain ⟨h4, h5, h6⟩ := h.exact (pn f) s hl h1
    obtain ⟨h7, h8⟩ := all_frame h fs (st (pn f) s) (pn f) hn.1
    have e : allS st (f :: fs) s = allS st fs (st (pn f) s) := rfl
    rw [e]
    refine ⟨h4, ?_, ?_⟩
    · unfold wrAll at h2 ⊢
      rw [List.flatMap_cons, h7, List.append_assoc, ← h2]
      exact h5
    · intro g hg
      rcases List.mem_cons.1 hg with rfl | hg
      · exact h8.trans h6
      · exact h3 g hg
end

/-! house.read. -/
theorem condI_is {x : List UInt8} (h : condI x = 2) : x = w_is := by
  unfold condI at h
  split at h
  · cases h
  · split at h
    · cases h
    · split at h
      · assumption
      · cases h
theorem condI_01 {x : List UInt8} (h0 : ¬ condI x < 0) (h2 : (condI x).toNat ≠ 2) : condW1 (condI x).toNat = x ∧ (condI x).toNat ≤ 2 := by
  unfold condI at h0 h2 ⊢
  split
  · rename_i h; subst h; exact ⟨rfl, by decide⟩
  · split
    · rename_i h; subst h; exact ⟨rfl, by decide⟩
    · split
      · rename_i e1 e2 e3
        rw [if_neg e1, if_neg e2, if_pos e3] at h2
        exact absurd rfl h2
      · rename_i e1 e2 e3
        rw [if_neg e1, if_neg e2, if_neg e3] at h0
        exact absurd (by decide) h0
theorem text_exact {l : List (List UInt8)} {bad : Bool} (h : textB l bad = false) : bad = false ∧ l = hWord (textV l bad) :: nextL l bad ∧ decide (65536 < (hWord (textV l bad)).length) = false := by
  unfold textB at h
  rw [Bool.or_eq_false_iff, Bool.or_eq_false_iff] at h
  obtain ⟨⟨h1, h2⟩, h3⟩ := h
  obtain ⟨rfl, x, r, rfl⟩ := nextB_no h1
  have h2' : (!(hText x).isSome) = false := h2
  have h3' : decide (65536 < x.length) = false := h3
  obtain ⟨t, ht⟩ := Option.isSome_iff_exists.1 (by simpa using h2')
  have e : textV (x :: r) false = t := by show (hText x).getD [] = t; rw [ht]; rfl
  rw [e, hText_eq ht]
  exact ⟨rfl, rfl, h3'⟩
theorem num_exact {l : List (List UInt8)} {bad : Bool} (h : numB l bad = false) : bad = false ∧ l = Lib.decDigits (numV l bad) :: nextL l bad := by
  unfold numB at h
  rw [Bool.or_eq_false_iff, Bool.or_eq_false_iff] at h
  obtain ⟨⟨h1, _⟩, h3⟩ := h
  obtain ⟨rfl, x, r, rfl⟩ := nextB_no h1
  have h3' : (!(Lib.decDigits (pU x) == x)) = false := h3
  have e : Lib.decDigits (pU x) = x := by simpa using h3'
  refine ⟨rfl, ?_⟩
  show x :: r = Lib.decDigits (pU x) :: r
  rw [e]
theorem int_exact {l : List (List UInt8)} {bad : Bool} (h : intB l bad = false) : bad = false ∧ l = Lib.itoa (intV l bad) :: nextL l bad := by
  unfold intB at h
  rw [Bool.or_eq_false_iff, Bool.or_eq_false_iff] at h
  obtain ⟨⟨h1, _⟩, h3⟩ := h
  obtain ⟨rfl, x, r, rfl⟩ := nextB_no h1
  have h3' : (!(Lib.itoa (pI x) == x)) = false := h3
  have e : Lib.itoa (pI x) = x := by simpa using h3'
  refine ⟨rfl, ?_⟩
  show x :: r = Lib.itoa (pI x) :: r
  rw [e]
theorem cond_exact {s : RS} (h : (rdP 4 s).bad = false) : s.bad = false ∧ s.l = wrP 4 (rdP 4 s).c ++ (rdP 4 s).l ∧ wrB 4 (rdP 4 s).c = false := by
  obtain ⟨c, l, bad⟩ := s
  have hb : condB l bad = false := h
  have hB1 : condB1 l bad = false := by
    unfold condB at hb
    split at hb
    · exact (num_exact hb).1
    · exact hb
  have hB1' := hB1
  unfold condB1 at hB1'
  rw [Bool.or_eq_false_iff] at hB1'
  obtain ⟨h1, h2⟩ := hB1'
  obtain ⟨rfl, x, r, rfl⟩ := nextB_no h1
  have h2' : ¬ condI x < 0 := by
    have e : decide (condI x < 0) = false := h2
    simpa using e
  by_cases hk : condK (x :: r) false = 2
  · have hx : x = w_is := by
      have e : (condI x).toNat = 2 := hk
      exact condI_is (by omega)
    subst hx
    unfold condB at hb
    rw [if_pos hk] at hb
    obtain ⟨_, h5⟩ := num_exact hb
    have e1 : (rdP 4 ⟨c, w_is :: r, false⟩).c = { c with ck := 2, cn := numV (nextL (w_is :: r) false) (condB1 (w_is :: r) false) } := by
      have e0 : (rdP 4 ⟨c, w_is :: r, false⟩).c = if condK (w_is :: r) false = 2 then { c with ck := 2, cn := numV (nextL (w_is :: r) false) (condB1 (w_is :: r) false) } else { c with ck := condK (w_is :: r) false } := rfl
      rw [e0, if_pos hk]
    have e2 : (rdP 4 ⟨c, w_is :: r, false⟩).l = nextL (nextL (w_is :: r) false) (condB1 (w_is :: r) false) := by
      show condL (w_is :: r) false = _
      unfold condL
      rw [if_pos hk]
    rw [e1, e2]
    refine ⟨rfl, ?_, rfl⟩
    have h6 : r = Lib.decDigits (numV (nextL (w_is :: r) false) (condB1 (w_is :: r) false)) :: nextL (nextL (w_is :: r) false) (condB1 (w_is :: r) false) := h5
    exact congrArg (w_is :: ·) h6
  · have hc := condI_01 h2' hk
    have e1 : (rdP 4 ⟨c, x :: r, false⟩).c = { c with ck := condK (x :: r) false } := by
      have e0 : (rdP 4 ⟨c, x :: r, false⟩).c = if condK (x :: r) false = 2 then { c with ck := 2, cn := numV (nextL (x :: r) false) (condB1 (x :: r) false) } else { c with ck := condK (x :: r) false } := rfl
      rw [e0, if_neg hk]
    have e2 : (rdP 4 ⟨c, x :: r, false⟩).l = r := by
      show condL (x :: r) false = _
      unfold condL
      rw [if_neg hk]; rfl
    rw [e1, e2]
    refine ⟨rfl, ?_, ?_⟩
    · show x :: r = condOut (condK (x :: r) false) c.cn ++ r
      unfold condOut
      rw [if_neg hk]
      show x :: r = condW1 (condI x).toNat :: r
      rw [hc.1]
    · show decide (2 < (condI x).toNat) = false
      simpa using hc.2
theorem reads_house : Reads1 rdP wrB where
  sub := fun p s x h => rdP_mem h
  kind := fun p s => by
    rcases part_cases p with rfl | rfl | rfl | rfl | rfl | rfl | rfl | rfl | rfl | h
    case inr.inr.inr.inl =>
      show ACall.kind (if condK s.l s.bad = 2 then { s.c with ck := 2, cn := numV (nextL s.l s.bad) (condB1 s.l s.bad) } else { s.c with ck := condK s.l s.bad }) = _
      split <;> rfl
    case inr.inr.inr.inr.inr.inr.inr.inr.inr => rw [(wrP_other s.c h).2.2]
    all_goals rfl
  frame := fun p q s hpq => by
    rcases part_cases q with rfl | rfl | rfl | rfl | rfl | rfl | rfl | rfl | rfl | h
    case inr.inr.inr.inl =>
      have e : (rdP 4 s).c = { s.c with ck := (rdP 4 s).c.ck, cn := (rdP 4 s).c.cn } := by
        have e0 : (rdP 4 s).c = if condK s.l s.bad = 2 then { s.c with ck := 2, cn := numV (nextL s.l s.bad) (condB1 s.l s.bad) } else { s.c with ck := condK s.l s.bad } := rfl
        rw [e0]
        split <;> rfl
      rw [e]
      rcases part_cases p with rfl | rfl | rfl | rfl | rfl | rfl | rfl | rfl | rfl | h
      case inr.inr.inr.inl => exact absurd rfl hpq
      case inr.inr.inr.inr.inr.inr.inr.inr.inr => rw [(wrP_other _ h).1, (wrP_other _ h).2.1, (wrP_other s.c h).1, (wrP_other s.c h).2.1]; exact ⟨rfl, rfl⟩
      all_goals exact ⟨rfl, rfl⟩
    case inr.inr.inr.inr.inr.inr.inr.inr.inr => rw [(wrP_other s.c h).2.2]; exact ⟨rfl, rfl⟩
    all_goals
      rcases part_cases p with rfl | rfl | rfl | rfl | rfl | rfl | rfl | rfl | rfl | h
      case inr.inr.inr.inr.inr.inr.inr.inr.inr => rw [(wrP_other _ h).1, (wrP_other _ h).2.1, (wrP_other s.c h).1, (wrP_other s.c h).2.1]; exact ⟨rfl, rfl⟩
      all_goals first | exact ⟨rfl, rfl⟩ | exact absurd rfl hpq
  exact := fun p s _ hb => by
    rcases part_cases p with rfl | rfl | rfl | rfl | rfl | rfl | rfl | rfl | rfl | h
    · exact text_exact hb
    · exact text_exact hb
    · obtain ⟨h1, h2⟩ := num_exact hb
      exact ⟨h1, h2, rfl⟩
    · exact cond_exact hb
    · exact text_exact hb
    · obtain ⟨h1, h2⟩ := int_exact hb
      exact ⟨h1, h2, rfl⟩
    · exact text_exact hb
    · exact text_exact hb
    · obtain ⟨h1, h2⟩ := int_exact hb
      exact ⟨h1, h2, rfl⟩
    · obtain ⟨h1, h2, h3⟩ := wrP_other s.c h
      rw [h3] at hb ⊢
      rw [h1, h2]
      exact ⟨hb, rfl, rfl⟩

/-! The document's Take. -/
def tcR (l : List (List UInt8)) (bad : Bool) : (Nat × Nat) × List (List UInt8) × Bool :=
  if nextW l bad = w_any then ((0, 0), nextL l bad, nextB l bad)
  else if nextW l bad = w_absent then ((1, 0), nextL l bad, nextB l bad)
  else if nextW l bad = w_is then ((2, unV m64 (nextL l bad) (nextB l bad)), nextL (nextL l bad) (nextB l bad), unB m64 (nextL l bad) (nextB l bad))
  else ((0, 0), nextL l bad, true)
def rdT (p : Nat) (s : RS) : RS :=
  match p with
  | 1 => ⟨{ s.c with bucket := textV s.l s.bad }, nextL s.l s.bad, rtxB s.l s.bad⟩
  | 2 => ⟨{ s.c with name := textV s.l s.bad }, nextL s.l s.bad, rtxB s.l s.bad⟩
  | 3 => ⟨{ s.c with num := unV m64 s.l s.bad }, nextL s.l s.bad, unB m64 s.l s.bad⟩
  | 4 => ⟨{ s.c with ck := (tcR s.l s.bad).1.1, cn := (tcR s.l s.bad).1.2 }, (tcR s.l s.bad).2.1, (tcR s.l s.bad).2.2⟩
  | 5 => ⟨{ s.c with text := textV s.l s.bad }, nextL s.l s.bad, rtxB s.l s.bad⟩
  | 6 => ⟨{ s.c with most := tiV s.l s.bad }, tiL s.l s.bad, tiB s.l s.bad⟩
  | 7 => ⟨{ s.c with pre := textV s.l s.bad }, nextL s.l s.bad, rtxB s.l s.bad⟩
  | 8 => ⟨{ s.c with aft := textV s.l s.bad }, nextL s.l s.bad, rtxB s.l s.bad⟩
  | 9 => ⟨{ s.c with part := tiV s.l s.bad }, tiL s.l s.bad, tiB s.l s.bad⟩
  | _ => s
theorem rdT_other {p : Nat} (h : p = 0 ∨ 9 < p) (s : RS) : rdT p s = s := by unfold rdT; split <;> first | rfl | omega
theorem rtext_exact {l : List (List UInt8)} {bad : Bool} (h : rtxB l bad = false) : bad = false ∧ l = hWord (textV l bad) :: nextL l bad := by
  unfold rtxB at h
  rw [Bool.or_eq_false_iff] at h
  obtain ⟨h1, h2⟩ := h
  obtain ⟨rfl, x, r, rfl⟩ := nextB_no h1
  have h2' : (!(hText x).isSome) = false := h2
  obtain ⟨t, ht⟩ := Option.isSome_iff_exists.1 (by simpa using h2')
  have e : textV (x :: r) false = t := by show (hText x).getD [] = t; rw [ht]; rfl
  rw [e, hText_eq ht]
  exact ⟨rfl, rfl⟩
theorem un_exact {most : Nat} {l : List (List UInt8)} {bad : Bool} (hl : ∀ x ∈ l, x ≠ []) (h : unB most l bad = false) : bad = false ∧ l = Lib.decDigits (unV most l bad) :: nextL l bad := by
  unfold unB at h
  cases ho : unO most l bad with
  | none => rw [ho] at h; cases h
  | some v =>
    have hv := (un_some ho).1
    unfold unO at ho
    split at ho
    · cases ho
    · rename_i hb
      obtain ⟨rfl, x, r, rfl⟩ := nextB_no (by simpa using hb)
      have ho' : uP most x = some v := ho
      rw [hv]
      refine ⟨rfl, ?_⟩
      show x :: r = _ :: r
      rw [← (uP_some (hl x (by simp)) ho').1]
theorem iP_exact {x : List UInt8} {v : Int} (hx : x ≠ []) (h : iP x = some v) : x = Lib.itoa v := by
  by_cases h45 : x.head? = some 45
  · cases x with
    | nil => exact absurd rfl hx
    | cons c y =>
      obtain rfl : c = 45 := by simpa using h45
      have h2 : (if y = [] ∨ y = [48] then none else Option.map (fun v : Nat => -(v : Int)) (uP 9223372036854775808 y)) = some v := h
      split at h2
      · cases h2
      · rename_i hy
        rw [Option.map_eq_some_iff] at h2
        obtain ⟨u, h3, rfl⟩ := h2
        have h4 := (uP_some (fun e => hy (.inl e)) h3).1
        have h5 := uP_pos (fun e => hy (.inl e)) (fun e => hy (.inr e)) h3
        unfold Lib.itoa
        rw [if_pos (by omega), h4, show (-(u : Int)).natAbs = u by omega]
  · rw [iP_other h45, Option.map_eq_some_iff] at h
    obtain ⟨u, h3, rfl⟩ := h
    have h4 := (uP_some hx h3).1
    unfold Lib.itoa
    rw [if_neg (by omega), h4]
    rfl
theorem ti_exact {l : List (List UInt8)} {bad : Bool} (hl : ∀ x ∈ l, x ≠ []) (h : tiB l bad = false) : bad = false ∧ l = Lib.itoa (tiV l bad) :: tiL l bad := by
  unfold tiB at h
  cases ho : tiO l bad with
  | none => rw [ho] at h; cases h
  | some v =>
    have hv := (ti_some ho).1
    unfold tiO at ho
    split at ho
    · cases ho
    · rename_i hb
      obtain ⟨rfl, x, r, rfl⟩ := nextB_no (by simpa using hb)
      have ho' : iP x = some v := ho
      have e : tiL (x :: r) false = r := by
        unfold tiL
        rw [if_neg]
        · rfl
        · rintro ⟨_, h3 | h3⟩
          · obtain rfl : x = [45] := Option.some.inj h3
            cases ho'
          · obtain rfl : x = [45, 48] := Option.some.inj h3
            cases ho'
      rw [hv, e, ← iP_exact (hl x (by simp)) ho']
      exact ⟨rfl, rfl⟩
theorem tc_exact {c : ACall} {l : List (List UInt8)} {bad : Bool} (hl : ∀ x ∈ l, x ≠ []) (h : (rdT 4 ⟨c, l, bad⟩).bad = false) : bad = false ∧ l = wrP 4 (rdT 4 ⟨c, l, bad⟩).c ++ (rdT 4 ⟨c, l, bad⟩).l := by
  have h' : (tcR l bad).2.2 = false := h
  show bad = false ∧ l = condOut (tcR l bad).1.1 (tcR l bad).1.2 ++ (tcR l bad).2.1
  unfold tcR at h' ⊢
  split
  · rename_i e
    rw [if_pos e] at h'
    obtain ⟨rfl, x, r, rfl⟩ := nextB_no h'
    have e' : x = w_any := e
    subst e'
    exact ⟨rfl, rfl⟩
  · rename_i e1
    rw [if_neg e1] at h'
    split
    · rename_i e
      rw [if_pos e] at h'
      obtain ⟨rfl, x, r, rfl⟩ := nextB_no h'
      have e' : x = w_absent := e
      subst e'
      exact ⟨rfl, rfl⟩
    · rename_i e2
      rw [if_neg e2] at h'
      split
      · rename_i e
        rw [if_pos e] at h'
        obtain ⟨h1, h2⟩ := un_exact (fun x hx => hl x (nextL_mem hx)) h'
        obtain ⟨rfl, x, r, rfl⟩ := nextB_no h1
        have e' : x = w_is := e
        subst e'
        refine ⟨rfl, ?_⟩
        show w_is :: r = w_is :: (Lib.decDigits _ :: _)
        have h3 : r = Lib.decDigits (unV m64 (nextL (w_is :: r) false) (nextB (w_is :: r) false)) :: nextL (nextL (w_is :: r) false) (nextB (w_is :: r) false) := h2
        exact congrArg (w_is :: ·) h3
      · rename_i e
        rw [if_neg e] at h'
        cases h'
def noB (_ : Nat) (_ : ACall) : Bool := false
theorem reads_ref : Reads1 rdT noB where
  sub := fun p s x h => by
    rcases part_cases p with rfl | rfl | rfl | rfl | rfl | rfl | rfl | rfl | rfl | hp
    case inr.inr.inr.inl =>
      have h' : x ∈ (tcR s.l s.bad).2.1 := h
      unfold tcR at h'
      split at h'
      · exact nextL_mem h'
      · split at h'
        · exact nextL_mem h'
        · split at h'
          · exact nextL_mem (nextL_mem h')
          · exact nextL_mem h'
    case inr.inr.inr.inr.inr.inr.inr.inr.inr => rwa [rdT_other hp] at h
    all_goals first | exact nextL_mem h | exact tiL_sub.1 x h
  kind := fun p s => by
    rcases part_cases p with rfl | rfl | rfl | rfl | rfl | rfl | rfl | rfl | rfl | h
    case inr.inr.inr.inr.inr.inr.inr.inr.inr => rw [rdT_other h]
    all_goals rfl
  frame := fun p q s hpq => by
    refine ⟨?_, rfl⟩
    rcases part_cases q with rfl | rfl | rfl | rfl | rfl | rfl | rfl | rfl | rfl | h
    case inr.inr.inr.inr.inr.inr.inr.inr.inr => rw [rdT_other h]
    all_goals
      rcases part_cases p with rfl | rfl | rfl | rfl | rfl | rfl | rfl | rfl | rfl | h
      case inr.inr.inr.inr.inr.inr.inr.inr.inr => rw [(wrP_other _ h).1, (wrP_other s.c h).1]
      all_goals first | rfl | exact absurd rfl hpq
  exact := fun p s hl hb => by
    suffices h : s.bad = false ∧ s.l = wrP p (rdT p s).c ++ (rdT p s).l from ⟨h.1, h.2, rfl⟩
    rcases part_cases p with rfl | rfl | rfl | rfl | rfl | rfl | rfl | rfl | rfl | h
    · exact rtext_exact hb
    · exact rtext_exact hb
    · exact un_exact hl hb
    · exact tc_exact hl hb
    · exact rtext_exact hb
    · exact ti_exact hl hb
    · exact rtext_exact hb
    · exact rtext_exact hb
    · exact ti_exact hl hb
    · rw [rdT_other h] at hb ⊢
      rw [(wrP_other s.c h).1]
      exact ⟨hb, rfl⟩
theorem rdT_wr {p : Nat} {c : ACall} (hw : c.Wf) (hk : c.ck ≤ 2) (hn : c.ck = 2 ∨ c.cn = 0) (d : ACall) (r : List (List UInt8)) : rdT p ⟨d, wrP p c ++ r, false⟩ = ⟨putP p c d, r, false⟩ := by
  rcases part_cases p with rfl | rfl | rfl | rfl | rfl | rfl | rfl | rfl | rfl | h
  · have h := tx_word c.bucket r
    show RS.mk { d with bucket := textV (hWord c.bucket :: r) false } r (rtxB (hWord c.bucket :: r) false) = _
    rw [h.1, h.2]; rfl
  · have h := tx_word c.name r
    show RS.mk { d with name := textV (hWord c.name :: r) false } r (rtxB (hWord c.name :: r) false) = _
    rw [h.1, h.2]; rfl
  · have h := un_dec (most := m64) (n := c.num) (by have := hw.num; unfold m64; omega) (by unfold m64; omega) r
    show RS.mk { d with num := unV m64 (Lib.decDigits c.num :: r) false } r (unB m64 (Lib.decDigits c.num :: r) false) = _
    rw [h.1, h.2]; rfl
  · by_cases h2 : c.ck = 2
    · have e : wrP 4 c ++ r = w_is :: Lib.decDigits c.cn :: r := by
        show condOut c.ck c.cn ++ r = _
        unfold condOut
        rw [if_pos h2]; rfl
      have h := un_dec (most := m64) (n := c.cn) (by have := hw.cn; unfold m64; omega) (by unfold m64; omega) r
      rw [e]
      show RS.mk { d with ck := 2, cn := unV m64 (Lib.decDigits c.cn :: r) false } r (unB m64 (Lib.decDigits c.cn :: r) false) = RS.mk { d with ck := c.ck, cn := c.cn } r false
      rw [h.1, h.2, h2]
    · have h0 : c.cn = 0 := by omega
      have e : wrP 4 c ++ r = condW1 c.ck :: r := by
        show condOut c.ck c.cn ++ r = _
        unfold condOut
        rw [if_neg h2]; rfl
      rw [e]
      show _ = RS.mk { d with ck := c.ck, cn := c.cn } r false
      have h3 : c.ck = 0 ∨ c.ck = 1 := by omega
      rcases h3 with h3 | h3
      · rw [h3, h0]; rfl
      · rw [h3, h0]; rfl
  · have h := tx_word c.text r
    show RS.mk { d with text := textV (hWord c.text :: r) false } r (rtxB (hWord c.text :: r) false) = _
    rw [h.1, h.2]; rfl
  · have h := ti_itoa hw.most r
    show RS.mk { d with most := tiV (Lib.itoa c.most :: r) false } (tiL (Lib.itoa c.most :: r) false) (tiB (Lib.itoa c.most :: r) false) = _
    rw [h.1, h.2.1, h.2.2]; rfl
  · have h := tx_word c.pre r
    show RS.mk { d with pre := textV (hWord c.pre :: r) false } r (rtxB (hWord c.pre :: r) false) = _
    rw [h.1, h.2]; rfl
  · have h := tx_word c.aft r
    show RS.mk { d with aft := textV (hWord c.aft :: r) false } r (rtxB (hWord c.aft :: r) false) = _
    rw [h.1, h.2]; rfl
  · have h := ti_itoa hw.part r
    show RS.mk { d with part := tiV (Lib.itoa c.part :: r) false } (tiL (Lib.itoa c.part :: r) false) (tiB (Lib.itoa c.part :: r) false) = _
    rw [h.1, h.2.1, h.2.2]; rfl
  · rw [rdT_other h, (wrP_other c h).1]
    have e : putP p c d = d := by unfold putP; split <;> first | rfl | omega
    rw [e]; rfl
theorem allT_wr {c : ACall} (hw : c.Wf) (hk : c.ck ≤ 2) (hn : c.ck = 2 ∨ c.cn = 0) : ∀ (fs : List Nat) (d : ACall) (r : List (List UInt8)), allS rdT fs ⟨d, wrAll fs c ++ r, false⟩ = ⟨putAll fs c d, r, false⟩
  | [], _, _ => rfl
  | f :: fs, d, r => by
    have e : wrAll (f :: fs) c ++ r = wrP (pn f) c ++ (wrAll fs c ++ r) := by unfold wrAll; rw [List.flatMap_cons, List.append_assoc]
    show allS rdT fs (rdT (pn f) ⟨d, wrAll (f :: fs) c ++ r, false⟩) = _
    rw [e, rdT_wr hw hk hn, allT_wr hw hk hn fs _ r]
    rfl
/-- What Take reads of words. -/
def takeS (l : List (List UInt8)) : RS :=
  match rowOf (nextW l false) with
  | none => ⟨ACall.zero, nextL l false, true⟩
  | some r => allS rdT r.2.2 ⟨{ ACall.zero with kind := r.1 }, nextL l false, nextB l false⟩
def takeOk (l : List (List UInt8)) : Bool := !(takeS l).bad && (takeS l).l.isEmpty && mayP (takeS l).c
def callR (l : List (List UInt8)) : ACall × Bool := if takeOk l then ((takeS l).c, true) else (ACall.zero, false)
def callN (l : List (List UInt8)) : ACall × Bool := if (readC l).2 then ((readC l).1, true) else (ACall.zero, false)

theorem wf_zero (k : Nat) (hk : k ≤ 255) : ({ ACall.zero with kind := k } : ACall).Wf :=
  have h0 : (-9223372036854775808 : Int) ≤ 0 ∧ (0 : Int) ≤ 9223372036854775807 := by decide
  ⟨hk, Nat.zero_le _, Nat.zero_le _, Nat.zero_lt_succ _, h0, Nat.zero_le _, Nat.zero_le _, Nat.zero_lt_succ _, Nat.zero_le _, Nat.zero_le _, h0⟩
theorem rdP_wf (p : Nat) {s : RS} (hl : ∀ x ∈ s.l, x.length ≤ 1048576) (h : s.c.Wf) : (rdP p s).c.Wf := by
  have ht := textV_length hl s.bad
  rcases part_cases p with rfl | rfl | rfl | rfl | rfl | rfl | rfl | rfl | rfl | hp
  · exact ⟨h.kind, ht, h.name, h.num, h.part, h.text, h.ck, h.cn, h.pre, h.aft, h.most⟩
  · exact ⟨h.kind, h.bucket, ht, h.num, h.part, h.text, h.ck, h.cn, h.pre, h.aft, h.most⟩
  · exact ⟨h.kind, h.bucket, h.name, pU_lt _, h.part, h.text, h.ck, h.cn, h.pre, h.aft, h.most⟩
  · show ACall.Wf (if condK s.l s.bad = 2 then { s.c with ck := 2, cn := numV (nextL s.l s.bad) (condB1 s.l s.bad) } else { s.c with ck := condK s.l s.bad })
    split
    · exact ⟨h.kind, h.bucket, h.name, h.num, h.part, h.text, Nat.le_of_ble_eq_true rfl, pU_lt _, h.pre, h.aft, h.most⟩
    · refine ⟨h.kind, h.bucket, h.name, h.num, h.part, h.text, ?_, h.cn, h.pre, h.aft, h.most⟩
      show (condI _).toNat ≤ 255
      have := condI_cases (nextW s.l s.bad)
      omega
  · exact ⟨h.kind, h.bucket, h.name, h.num, h.part, ht, h.ck, h.cn, h.pre, h.aft, h.most⟩
  · exact ⟨h.kind, h.bucket, h.name, h.num, h.part, h.text, h.ck, h.cn, h.pre, h.aft, ⟨pI_ge _, pI_le _⟩⟩
  · exact ⟨h.kind, h.bucket, h.name, h.num, h.part, h.text, h.ck, h.cn, ht, h.aft, h.most⟩
  · exact ⟨h.kind, h.bucket, h.name, h.num, h.part, h.text, h.ck, h.cn, h.pre, ht, h.most⟩
  · exact ⟨h.kind, h.bucket, h.name, h.num, ⟨pI_ge _, pI_le _⟩, h.text, h.ck, h.cn, h.pre, h.aft, h.most⟩
  · rw [(wrP_other s.c hp).2.2]; exact h
theorem rdT_wf (p : Nat) {s : RS} (hl : ∀ x ∈ s.l, x ≠ [] ∧ x.length ≤ 1048576) (h : s.c.Wf) : (rdT p s).c.Wf := by
  have ht := textV_length (fun x hx => (hl x hx).2) s.bad
  have hne : ∀ x ∈ s.l, x ≠ [] := fun x hx => (hl x hx).1
  have hu : ∀ (l : List (List UInt8)) (bad : Bool), (∀ x ∈ l, x ≠ []) → unV m64 l bad < 18446744073709551616 := fun l bad h => by
    have := unV_le (most := m64) (bad := bad) h
    unfold m64 at this ⊢
    omega
  have hi := tiV_range (bad := s.bad) hne
  rcases part_cases p with rfl | rfl | rfl | rfl | rfl | rfl | rfl | rfl | rfl | hp
  · exact ⟨h.kind, ht, h.name, h.num, h.part, h.text, h.ck, h.cn, h.pre, h.aft, h.most⟩
  · exact ⟨h.kind, h.bucket, ht, h.num, h.part, h.text, h.ck, h.cn, h.pre, h.aft, h.most⟩
  · exact ⟨h.kind, h.bucket, h.name, hu _ _ hne, h.part, h.text, h.ck, h.cn, h.pre, h.aft, h.most⟩
  · refine ⟨h.kind, h.bucket, h.name, h.num, h.part, h.text, ?_, ?_, h.pre, h.aft, h.most⟩
    · show (tcR s.l s.bad).1.1 ≤ 255
      unfold tcR
      split
      · exact Nat.le_of_ble_eq_true rfl
      · split
        · exact Nat.le_of_ble_eq_true rfl
        · split <;> exact Nat.le_of_ble_eq_true rfl
    · show (tcR s.l s.bad).1.2 < _
      unfold tcR
      split
      · exact Nat.le_of_ble_eq_true rfl
      · split
        · exact Nat.le_of_ble_eq_true rfl
        · split
          · exact hu _ _ fun x hx => hne x (nextL_mem hx)
          · exact Nat.le_of_ble_eq_true rfl
  · exact ⟨h.kind, h.bucket, h.name, h.num, h.part, ht, h.ck, h.cn, h.pre, h.aft, h.most⟩
  · exact ⟨h.kind, h.bucket, h.name, h.num, h.part, h.text, h.ck, h.cn, h.pre, h.aft, hi⟩
  · exact ⟨h.kind, h.bucket, h.name, h.num, h.part, h.text, h.ck, h.cn, ht, h.aft, h.most⟩
  · exact ⟨h.kind, h.bucket, h.name, h.num, h.part, h.text, h.ck, h.cn, h.pre, ht, h.most⟩
  · exact ⟨h.kind, h.bucket, h.name, h.num, hi, h.text, h.ck, h.cn, h.pre, h.aft, h.most⟩
  · rw [rdT_other hp]; exact h
theorem allP_wf : ∀ (fs : List Nat) {s : RS}, (∀ x ∈ s.l, x.length ≤ 1048576) → s.c.Wf → (allS rdP fs s).c.Wf
  | [], _, _, h => h
  | f :: fs, _, hl, h => allP_wf fs (fun x hx => hl x (rdP_mem hx)) (rdP_wf (pn f) hl h)
theorem allT_wf : ∀ (fs : List Nat) {s : RS}, (∀ x ∈ s.l, x ≠ [] ∧ x.length ≤ 1048576) → s.c.Wf → (allS rdT fs s).c.Wf
  | [], _, _, h => h
  | f :: fs, _, hl, h => allT_wf fs (fun x hx => hl x (reads_ref.sub _ _ _ hx)) (rdT_wf (pn f) hl h)
theorem rows_ok : ∀ r ∈ kindRows, (r.2.2.map pn).Nodup ∧ r.1 ≤ 255 ∧ (kindRows.find? (·.1 == r.1)) = some r := by decide
theorem rowOf_mem {x : List UInt8} {r : KRow} (h : rowOf x = some r) : r ∈ kindRows ∧ r.2.1 = x := by
  refine ⟨List.mem_of_find?_eq_some h, ?_⟩
  have := List.find?_some h
  simpa using this
theorem words_rowOf {l : List (List UInt8)} {r : KRow} (h : rowOf (nextW l false) = some r) : ∃ l', l = r.2.1 :: l' := by
  obtain ⟨h1, h2⟩ := rowOf_mem h
  have hne : ∀ r ∈ kindRows, r.2.1 ≠ [] := by decide
  cases l with
  | nil => exact absurd h2 (hne r h1)
  | cons x l' => exact ⟨l', by rw [h2]; rfl⟩
/-- Words that house.read takes are a call's that may be. -/
theorem read_exact {l : List (List UInt8)} (hl : ∀ x ∈ l, x ≠ [] ∧ x.length ≤ 1048576) (h : (readC l).2 = true) : l = lineOut (readC l).1 ∧ lineOk (readC l).1 = true ∧ (readC l).1.Wf := by
  have h0 := h
  unfold readC at h ⊢
  split at h
  · cases h
  · rename_i r hr
    obtain ⟨l', rfl⟩ := words_rowOf hr
    obtain ⟨h1, h2, h3⟩ := rows_ok r (rowOf_mem hr).1
    simp only [Bool.and_eq_true, Bool.not_eq_true', List.isEmpty_iff] at h
    have hl' : ∀ x ∈ l', x ≠ [] ∧ x.length ≤ 1048576 := fun x hx => hl x (by simp [hx])
    have e : readS r (r.2.1 :: l') = allS rdP r.2.2 ⟨{ ACall.zero with kind := r.1 }, l', false⟩ := rfl
    show r.2.1 :: l' = lineOut (readS r (r.2.1 :: l')).c ∧ lineOk (readS r (r.2.1 :: l')).c = true ∧ (readS r (r.2.1 :: l')).c.Wf
    rw [e] at h ⊢
    have hk := all_kind reads_house r.2.2 ⟨{ ACall.zero with kind := r.1 }, l', false⟩
    obtain ⟨_, h5, h6⟩ := all_exact reads_house r.2.2 ⟨{ ACall.zero with kind := r.1 }, l', false⟩ (fun x hx => (hl' x hx).1) h1 h.1
    have hwf := allP_wf r.2.2 (s := ⟨{ ACall.zero with kind := r.1 }, l', false⟩) (fun x hx => (hl' x hx).2) (wf_zero r.1 h2)
    rw [h.2, List.append_nil] at h5
    have hR : readC (r.2.1 :: l') = ((allS rdP r.2.2 ⟨{ ACall.zero with kind := r.1 }, l', false⟩).c, true) := by
      refine Prod.ext ?_ h0
      unfold readC
      rw [hr]
      rfl
    generalize (allS rdP r.2.2 ⟨{ ACall.zero with kind := r.1 }, l', false⟩).c = c at *
    have hK : lineK c = some r := by
      unfold lineK
      rw [hk]
      exact h3
    have hX := (lineX_row hK).1
    have hout : r.2.1 :: l' = lineOut c := by
      unfold lineOut
      rw [hX]
      exact congrArg (r.2.1 :: ·) h5
    refine ⟨hout, ?_, hwf⟩
    unfold lineOk
    rw [← hout, hR, hK, hX]
    have hwb : wrBad r.2.2 c = false := by
      unfold wrBad
      rw [List.any_eq_false]
      intro f hf
      rw [h6 f hf]; simp
    rw [hwb]
    simp
theorem may_line {c : ACall} (hw : c.Wf) : lineOk c = mayP c := by
  cases h : lineK c with
  | none =>
    unfold lineOk mayP
    rw [h]; rfl
  | some r =>
    obtain ⟨h1, h2, h3⟩ := lineX_row h
    rw [lineOk_form hw h, may_row c h2 h3]
    unfold mayP onlyP
    rw [h1, h]; rfl
theorem take_exact {l : List (List UInt8)} (hl : ∀ x ∈ l, x ≠ [] ∧ x.length ≤ 1048576) (h : takeOk l = true) : l = lineOut (takeS l).c ∧ lineOk (takeS l).c = true := by
  unfold takeOk at h
  simp only [Bool.and_eq_true, Bool.not_eq_true', List.isEmpty_iff] at h
  obtain ⟨⟨hb, he⟩, hm⟩ := h
  unfold takeS at hb he hm ⊢
  split at hb
  · cases hb
  · rename_i r hr
    obtain ⟨l', rfl⟩ := words_rowOf hr
    obtain ⟨h1, h2, h3⟩ := rows_ok r (rowOf_mem hr).1
    rw [hr] at he hm
    have hl' : ∀ x ∈ l', x ≠ [] ∧ x.length ≤ 1048576 := fun x hx => hl x (by simp [hx])
    show r.2.1 :: l' = lineOut (allS rdT r.2.2 ⟨{ ACall.zero with kind := r.1 }, l', false⟩).c ∧ lineOk (allS rdT r.2.2 ⟨{ ACall.zero with kind := r.1 }, l', false⟩).c = true
    have hb' : (allS rdT r.2.2 ⟨{ ACall.zero with kind := r.1 }, l', false⟩).bad = false := hb
    have he' : (allS rdT r.2.2 ⟨{ ACall.zero with kind := r.1 }, l', false⟩).l = [] := he
    have hm' : mayP (allS rdT r.2.2 ⟨{ ACall.zero with kind := r.1 }, l', false⟩).c = true := hm
    have hk := all_kind reads_ref r.2.2 ⟨{ ACall.zero with kind := r.1 }, l', false⟩
    obtain ⟨_, h5, _⟩ := all_exact reads_ref r.2.2 ⟨{ ACall.zero with kind := r.1 }, l', false⟩ (fun x hx => (hl' x hx).1) h1 hb'
    have hwf := allT_wf r.2.2 (s := ⟨{ ACall.zero with kind := r.1 }, l', false⟩) hl' (wf_zero r.1 h2)
    rw [he', List.append_nil] at h5
    generalize (allS rdT r.2.2 ⟨{ ACall.zero with kind := r.1 }, l', false⟩).c = c at *
    have hK : lineK c = some r := by
      unfold lineK
      rw [hk]
      exact h3
    refine ⟨?_, by rw [may_line hwf]; exact hm'⟩
    unfold lineOut
    rw [(lineX_row hK).1]
    exact congrArg (r.2.1 :: ·) h5
theorem take_line {c : ACall} (hw : c.Wf) (h : lineOk c = true) : takeS (lineOut c) = ⟨c, [], false⟩ ∧ takeOk (lineOut c) = true := by
  have hm := h
  rw [may_line hw] at hm
  have hm2 := hm
  unfold mayP at hm2
  simp only [Bool.and_eq_true, decide_eq_true_eq, Bool.or_eq_true] at hm2
  obtain ⟨⟨⟨⟨h1, h2⟩, h3⟩, h4⟩, _⟩ := hm2
  obtain ⟨r, hr⟩ := Option.isSome_iff_exists.1 h1
  obtain ⟨e1, e2, e3⟩ := lineX_row hr
  have e : lineOut c = r.2.1 :: wrAll r.2.2 c := by unfold lineOut; rw [e1]
  have hS : takeS (lineOut c) = ⟨c, [], false⟩ := by
    rw [e]
    unfold takeS
    have h6 := allT_wr hw h3 h4 r.2.2 { ACall.zero with kind := r.1 } []
    rw [List.append_nil] at h6
    show (match rowOf r.2.1 with | none => _ | some r' => allS rdT r'.2.2 ⟨{ ACall.zero with kind := r'.1 }, wrAll r.2.2 c, false⟩) = _
    rw [rowOf_row e2]
    show allS rdT r.2.2 ⟨{ ACall.zero with kind := r.1 }, wrAll r.2.2 c, false⟩ = _
    rw [h6]
    unfold onlyP at h2
    rw [e1, ← e3] at h2
    rw [← h2]
  refine ⟨hS, ?_⟩
  unfold takeOk
  rw [hS, hm]; rfl
/-- THE DOCUMENT'S CALL OF A LINE IS THE PROGRAM'S. -/
theorem call_same {l : List (List UInt8)} (hl : ∀ x ∈ l, x ≠ [] ∧ x.length ≤ 1048576) : callR l = callN l := by
  unfold callR callN
  cases h : (readC l).2 with
  | true =>
    obtain ⟨h1, h2, h3⟩ := read_exact hl h
    obtain ⟨h4, h5⟩ := take_line h3 h2
    rw [← h1] at h4 h5
    rw [h5, h4]
  | false =>
    cases h2 : takeOk l with
    | false => rfl
    | true =>
      obtain ⟨h3, h4⟩ := take_exact hl h2
      have h5 := lineOk_read h4
      rw [← h3] at h5
      rw [h5] at h
      cases h
end Go.Proofs.YtcaeppncippknaaGreatDoor
