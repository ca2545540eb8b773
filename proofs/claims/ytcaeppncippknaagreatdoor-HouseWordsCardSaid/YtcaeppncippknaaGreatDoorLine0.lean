/- house.Line in plain: a call's words, and whether the line may be. Conditions: none. -/
import Derived.Test.YtcaeppncippknaaGreatDoorCallEq
import Derived.Test.YtcaeppncippknaaGreatDoorRead0
namespace Go.Proofs.YtcaeppncippknaaGreatDoor
open Go Go.RowKit

/-- The contract of house.read (Read1). -/
def ReadAt : Prop := ∀ (b0 : Nat) (v : Value) (l : List (List UInt8)) (w : World), Env w → StrsIn w b0 v l → l.length ≤ 1099511627776 → (∀ x ∈ l, x.length ≤ 1048576) →
    Calls Tryz.prog 35 #[v] w fun e w' => e = .returned (ResC (readC l)) ∧ Fr [] w w'
/-- The contract of house.Line (Line). -/
def LineAt (res : ACall → Value) (short : ACall → Prop) : Prop := ∀ (c : ACall), c.Wf → short c → ∀ w : World, Env w → Calls Tryz.prog 13 #[.agg (callCells c)] w fun e w' => e = .returned (res c) ∧ Fr [] w w'

def lineK (c : ACall) : Option KRow := kindRows.find? (·.1 == c.kind)
def lineX (c : ACall) : KRow := (lineK c).getD (0, [], [])
def wrAll (fs : List Nat) (c : ACall) : List (List UInt8) := fs.flatMap fun f => wrP (pn f) c
def wrBad (fs : List Nat) (c : ACall) : Bool := fs.any fun f => wrB (pn f) c
def lineOut (c : ACall) : List (List UInt8) := (lineX c).2.1 :: wrAll (lineX c).2.2 c
def lineOk (c : ACall) : Bool := (lineK c).isSome && !wrBad (lineX c).2.2 c && (readC (lineOut c)).2 && decide ((readC (lineOut c)).1 = c)
def joinSp (l : List (List UInt8)) : List UInt8 := Lib.join l [32]
def ResL (c : ACall) : Value := if lineOk c then .tuple #[.string (bs (joinSp (lineOut c))), .int .i64 0] else .tuple #[.string (bs []), .int .i64 2]
theorem resL_no {c : ACall} (h : lineOk c = false) : ResL c = .tuple #[.string (bs []), .int .i64 2] := by unfold ResL; rw [h]; rfl
theorem resL_yes {c : ACall} (h : lineOk c = true) : ResL c = .tuple #[.string (bs (joinSp (lineOut c))), .int .i64 0] := by unfold ResL; rw [h]; rfl
theorem wrAll_succ (fs : List Nat) (c : ACall) {k : Nat} (hk : k < fs.length) : wrAll (fs.take (k + 1)) c = wrAll (fs.take k) c ++ wrP (pn fs[k]) c := by
  unfold wrAll
  rw [List.take_add_one, List.getElem?_eq_getElem hk, List.flatMap_append]
  simp
theorem wrBad_succ (fs : List Nat) (c : ACall) {k : Nat} (hk : k < fs.length) : wrBad (fs.take (k + 1)) c = (wrBad (fs.take k) c || wrB (pn fs[k]) c) := by
  unfold wrBad
  rw [List.take_add_one, List.getElem?_eq_getElem hk, List.any_append]
  simp
theorem wrP_length (p : Nat) (c : ACall) : (wrP p c).length ≤ 2 := by
  unfold wrP
  split
  all_goals first | (simp; done) | skip
  unfold condOut
  split
  · simp
  · simp
theorem wrAll_length (c : ACall) : ∀ fs : List Nat, (wrAll fs c).length ≤ 2 * fs.length
  | [] => by simp [wrAll]
  | f :: fs => by
    have h := wrAll_length c fs
    have h2 := wrP_length (pn f) c
    unfold wrAll at h ⊢
    rw [List.flatMap_cons, List.length_append, List.length_cons]
    omega
theorem lineX_parts (c : ACall) : ∀ f ∈ (lineX c).2.2, isPart f := by
  unfold lineX lineK
  cases h : kindRows.find? (·.1 == c.kind) with
  | none => intro f hf; simp at hf
  | some r =>
    have hm := List.mem_of_find?_eq_some h
    obtain ⟨i, hi, rfl⟩ := List.getElem_of_mem hm
    exact kindParts hi
theorem lineX_few (c : ACall) : (lineX c).2.2.length ≤ 4 := by
  unfold lineX lineK
  cases h : kindRows.find? (·.1 == c.kind) with
  | none => simp
  | some r =>
    have hm := List.mem_of_find?_eq_some h
    obtain ⟨i, hi, rfl⟩ := List.getElem_of_mem hm
    exact kindFew hi
/-- All of a call's words are below 2^20 bytes where its texts are below 300000. -/
structure ACall.Short (c : ACall) : Prop where
  bucket : c.bucket.length ≤ 300000
  name : c.name.length ≤ 300000
  text : c.text.length ≤ 300000
  pre : c.pre.length ≤ 300000
  aft : c.aft.length ≤ 300000
theorem decDigits_le : ∀ (k n : Nat), n < 10 ^ (k + 1) → (Lib.decDigits n).length ≤ k + 1
  | 0, n, h => by rw [Lib.decDigits, dif_pos (by omega)]; simp
  | k + 1, n, h => by
    rw [Lib.decDigits]
    split
    · simp
    · have h1 : n / 10 < 10 ^ (k + 1) := by rw [Nat.pow_succ] at h; omega
      have := decDigits_le k (n / 10) h1
      simp only [List.length_append, List.length_cons, List.length_nil]
      omega
theorem decDigits_small {n : Nat} (hn : n < 18446744073709551616) : (Lib.decDigits n).length ≤ 20 := decDigits_le 19 n (Nat.lt_of_lt_of_le hn (by decide))
theorem itoa_small {n : Int} (h : -9223372036854775808 ≤ n ∧ n ≤ 9223372036854775807) : (Lib.itoa n).length ≤ 21 := by
  unfold Lib.itoa
  split
  · rw [List.length_cons]
    have := decDigits_small (n := n.natAbs) (by omega)
    omega
  · have := decDigits_small (n := n.toNat) (by omega)
    omega
theorem wrP_small {c : ACall} (hw : c.Wf) (hs : c.Short) (p : Nat) : ∀ x ∈ wrP p c, x.length ≤ 1048576 := by
  have ht : ∀ t : List UInt8, t.length ≤ 300000 → (hWord t).length ≤ 1048576 := fun t h => by have := hWord_length t; omega
  have h1 := decDigits_small hw.num
  have h2 := decDigits_small hw.cn
  have h3 := itoa_small hw.most
  have h4 := itoa_small hw.part
  intro x hx
  unfold wrP at hx
  split at hx
  case h_4 =>
    unfold condOut at hx
    split at hx
    · simp only [List.mem_cons, List.not_mem_nil, or_false] at hx
      rcases hx with rfl | rfl
      · decide
      · omega
    · simp only [List.mem_cons, List.not_mem_nil, or_false] at hx
      subst hx
      unfold condW1
      split
      · decide
      · split
        · decide
        · decide
  all_goals
    simp only [List.mem_cons, List.not_mem_nil, or_false] at hx
    try subst hx
  all_goals first | exact ht _ hs.bucket | exact ht _ hs.name | exact ht _ hs.text | exact ht _ hs.pre | exact ht _ hs.aft | omega | exact hx.elim
theorem wrAll_small {c : ACall} (hw : c.Wf) (hs : c.Short) (fs : List Nat) : ∀ x ∈ wrAll fs c, x.length ≤ 1048576 := by
  intro x hx
  unfold wrAll at hx
  obtain ⟨f, _, h⟩ := List.mem_flatMap.1 hx
  exact wrP_small hw hs _ x h
theorem lineX_word (c : ACall) : (lineX c).2.1.length ≤ 8 := by
  unfold lineX lineK
  cases h : kindRows.find? (·.1 == c.kind) with
  | none => simp
  | some r =>
    have hm := List.mem_of_find?_eq_some h
    have hall : ∀ r ∈ kindRows, r.2.1.length ≤ 8 := by decide
    exact hall _ hm
theorem lineOut_small {c : ACall} (hw : c.Wf) (hs : c.Short) : ∀ x ∈ lineOut c, x.length ≤ 1048576 := by
  intro x hx
  rcases List.mem_cons.1 hx with rfl | hx
  · have := lineX_word c; omega
  · exact wrAll_small hw hs _ x hx
theorem lineOut_length (c : ACall) : (lineOut c).length ≤ 9 := by
  have h1 := wrAll_length c (lineX c).2.2
  have h2 := lineX_few c
  show ((lineX c).2.1 :: wrAll (lineX c).2.2 c).length ≤ 9
  rw [List.length_cons]
  omega
end Go.Proofs.YtcaeppncippknaaGreatDoor
