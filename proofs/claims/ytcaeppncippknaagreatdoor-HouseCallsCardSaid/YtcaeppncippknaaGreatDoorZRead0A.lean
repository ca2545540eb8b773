/- Two calls held against each other by the program's own comparison of structs. Conditions: none. -/
import Derived.Test.YtcaeppncippknaaGreatDoorZParts
import Derived.Laws.StructEq
import Derived.Test.YtcaeppncippknaaGreatDoorZKinds
import Derived.Laws.Rows
namespace Go.Proofs.YtcaeppncippknaaGreatDoor
open Go Go.RowKit

set_option maxHeartbeats 4000000 in
set_option maxRecDepth 10000 in
theorem eqCond (d : Nat) (a b a' b' : Int) (w : World) : (Op.equalIn (d + 2) 29 (.agg #[.int .u8 a, .int .u64 b]) (.agg #[.int .u8 a', .int .u64 b'])).run Tryz.prog w = .ok (a == a' && b == b') w := by
  have hS : Tryz.prog.underlying 29 = some (.struct (Tryz.prog.fieldsOf 29)) := by kernel_rfl
  have hp : Tryz.prog.stoodInHeld 29 = false := by kernel_rfl
  rw [show d + 2 = (d + 1) + 1 from rfl, run_equalIn_agg w (d + 1) 29 _ _ hS hp]
  clear hS hp
  have u1 := Tryz.underlying5
  have u2 := Tryz.underlying27
  simp only [Program.fieldsOf, Tryz.underlying29]
  go_simp
  by_cases h1 : a = a' <;> by_cases h2 : b = b' <;> simp [h1, h2]
theorem isAggCond (w : World) : (isAgg 29).run Tryz.prog w = .ok true w := by
  unfold isAgg
  rw [Sem.run_bind, run_underlying (show Tryz.prog.underlying 29 = _ from Tryz.underlying29) w]
  rfl

set_option maxHeartbeats 4000000 in
set_option maxRecDepth 10000 in
theorem neqCall (a b : ACall) (w : World) : (binOp .neq 31 (.agg (callCells a)) (.agg (callCells b))).run Tryz.prog w = .ok (.bool (!decide (a = b))) w := by
  have hS : Tryz.prog.underlying 31 = some (.struct (Tryz.prog.fieldsOf 31)) := by kernel_rfl
  have hp : Tryz.prog.stoodInHeld 31 = false := by kernel_rfl
  rw [run_neq_struct, show (10000 : Nat) = 9999 + 1 from rfl, run_equalIn_agg w 9999 31 _ _ hS hp]
  clear hS hp
  have u1 := Tryz.underlying5
  have u2 := Tryz.underlying27
  have u3 := Tryz.underlying9
  have u4 := Tryz.underlying3
  have hi := isAggCond
  have he := eqCond
  simp only [callCells, strV, Program.fieldsOf, Tryz.underlying31]
  go_simp
  cases a; cases b
  simp only [ACall.mk.injEq, Int.ofNat_inj]
  repeat' split
  all_goals simp_all
  rename_i h
  exact (Decidable.em _).elim (fun hc => .inr (.inl (h hc))) (fun hc => .inl hc)
end Go.Proofs.YtcaeppncippknaaGreatDoor
/- What call words are, in plain: readC. Conditions: none. -/
namespace Go.Proofs.YtcaeppncippknaaGreatDoor
open Go Go.RowKit

def rdAll (fs : List Nat) (s : RS) : RS := fs.foldl (fun s f => rdP (pn f) s) s
theorem rdAll_succ (fs : List Nat) (s : RS) {k : Nat} (hk : k < fs.length) : rdAll (fs.take (k + 1)) s = rdP (pn fs[k]) (rdAll (fs.take k) s) := by
  unfold rdAll
  rw [List.take_add_one, List.getElem?_eq_getElem hk, List.foldl_append]
  rfl
def rowOf (x : List UInt8) : Option KRow := kindRows.find? (·.2.1 == x)
def readS (r : KRow) (l : List (List UInt8)) : RS := rdAll r.2.2 ⟨{ ACall.zero with kind := r.1 }, nextL l false, nextB l false⟩
def readC (l : List (List UInt8)) : ACall × Bool :=
  match rowOf (nextW l false) with
  | none => (ACall.zero, false)
  | some r => ((readS r l).c, !(readS r l).bad && (readS r l).l.isEmpty)
def ResC (x : ACall × Bool) : Value := .tuple #[.agg (callCells x.1), .bool x.2]
theorem rdP_mem {p : Nat} {s : RS} {x : List UInt8} (h : x ∈ (rdP p s).l) : x ∈ s.l := by
  unfold rdP at h
  split at h
  all_goals first | exact nextL_mem h | exact h | skip
  simp only [condL] at h
  split at h
  · exact nextL_mem (nextL_mem h)
  · exact nextL_mem h
theorem rdP_length (p : Nat) (s : RS) : (rdP p s).l.length ≤ s.l.length := by
  unfold rdP
  split
  all_goals first | exact nextL_length _ _ | exact Nat.le_refl _ | skip
  simp only [condL]
  split
  · exact Nat.le_trans (nextL_length _ _) (nextL_length _ _)
  · exact nextL_length _ _
theorem rdAll_mem {x : List UInt8} : ∀ {fs : List Nat} {s : RS}, x ∈ (rdAll fs s).l → x ∈ s.l
  | [], _, h => h
  | _ :: fs, _, h => rdP_mem (rdAll_mem (fs := fs) h)
theorem rdAll_length : ∀ (fs : List Nat) (s : RS), (rdAll fs s).l.length ≤ s.l.length
  | [], _ => Nat.le_refl _
  | _ :: fs, _ => Nat.le_trans (rdAll_length fs _) (rdP_length _ _)
theorem StrsIn.some {w : World} {b : Nat} {v : Value} {l : List (List UInt8)} (h : StrsIn w b v l) (hw : 0 < w.heap.size) : ∃ b, b < w.heap.size ∧ StrsIn w b v l := by
  rcases h with ⟨h1, p, c, h2⟩ | ⟨off, cap, h1, h2, h3⟩
  · exact ⟨0, hw, .inl ⟨h1, p, c, h2⟩⟩
  · by_cases hl : l.length = 0
    · obtain rfl := List.length_eq_zero_iff.1 hl
      exact ⟨0, hw, .inl ⟨rfl, _, cap, h1⟩⟩
    · exact ⟨b, by simpa using lt_of_cell (h3 0 (by omega)), .inr ⟨off, cap, h1, h2, h3⟩⟩

theorem heap_alloc2 (w : World) (a b : Obj) : ((w.alloc a).alloc b).heap[w.heap.size + 1]? = some b := by
  have h := (MapKept.heap_alloc (w.alloc a) b).1
  rwa [show (w.alloc a).heap.size = w.heap.size + 1 by simp] at h
theorem rowOf_none {x : List UInt8} (h : ∀ i (hi : i < kindRows.length), kindRows[i].2.1 ≠ x) : rowOf x = none := by
  unfold rowOf
  rw [List.find?_eq_none]
  intro r hr
  obtain ⟨i, hi, rfl⟩ := List.getElem_of_mem hr
  simpa using h i hi
theorem kindWords_nodup : (kindRows.map (·.2.1)).Nodup := by decide
theorem rowOf_some {x : List UInt8} {i : Nat} (hi : i < kindRows.length) (h : kindRows[i].2.1 = x) : rowOf x = some kindRows[i] := by
  unfold rowOf
  rw [List.find?_eq_some_iff_getElem]
  refine ⟨by simp [h], i, hi, rfl, fun k hki => ?_⟩
  have hne := (List.nodup_iff_pairwise_ne.1 kindWords_nodup |> List.pairwise_iff_getElem.1) k i (by simp; omega) (by simpa using hi) hki
  simp only [List.getElem_map] at hne
  rw [h] at hne
  simpa using hne
theorem infoCall : (Tryz.prog.info? 31).map (·.size) = some 11 := by kernel_rfl
theorem callCells_one (c : ACall) : (callCells c).all (·.oneCell') = true := by simp [callCells, strV, Value.oneCell']
theorem kindFew {i : Nat} (hi : i < kindRows.length) : kindRows[i].2.2.length ≤ 4 := by
  have h : ∀ r ∈ kindRows, r.2.2.length ≤ 4 := by decide
  exact h _ (List.getElem_mem hi)
theorem results_two {P : Program} {fn : Func} {p q : Tmp} {ty : TypeId} (h : fn.results = #[.cell p ty, .tmp q]) (tmps : Array Value) (w : World) (g : Nat) (t : TypeId) (cs : Array Value) (fr : Nat × Nat) (d : TypeDesc)
    (hp : tmps.getD p undef = .pointer (some ⟨g, 0, none⟩)) (hg : w.heap[g]? = some (.cells cs t fr)) 
    (hu : P.underlying ty = some d) (hd : (match d with | .struct _ | .array _ _ => true | _ => false) = true) (hi : (P.info? ty).map (·.size) = some cs.size) (x : Value) (hx : tmps.getD q undef = x) :
    (results fn tmps).run P w = .ok (.tuple #[.agg cs, x]) w := by
  subst hx
  have hp' : tmps[p]?.getD undef = .pointer (some ⟨g, 0, none⟩) := by simpa using hp
  have hl := run_loadVar_row (P := P) w g t ty cs fr d hg hu hd hi
  simp [results, h, hp', asAddr, hl]

theorem hasAt_slice {B : Nat} {w : World} {v : Value} {fs : List Nat} (h : HasAt B w v fs) :
    ∃ p, v = .slice p fs.length fs.length ∧ ∃ g, B < g ∧ ∀ k (hk : k < fs.length), p = some ⟨g, 0, none⟩ ∧ w.cell? ⟨g, k, none⟩ = some (fnV fs[k]) := by
  rcases h with ⟨h1, h2⟩ | ⟨g, hg, h1, h2⟩
  · subst h1
    exact ⟨none, h2, B + 1, by omega, fun k hk => by simp at hk⟩
  · refine ⟨_, h1, g, hg, fun k hk => ⟨rfl, ?_⟩⟩
    rw [Lib.cell_of_heap h2]
    simp [hk]
instance (f : Nat) : Decidable (isPart f) := by unfold isPart; infer_instance
theorem kindParts {i : Nat} (hi : i < kindRows.length) : ∀ f ∈ kindRows[i].2.2, isPart f := by
  have h : ∀ r ∈ kindRows, ∀ f ∈ r.2.2, isPart f := by decide
  exact h _ (List.getElem_mem hi)
end Go.Proofs.YtcaeppncippknaaGreatDoor
/- house.Line in plain: a call's words, and whether the line may be. Conditions: none. -/
namespace Go.Proofs.YtcaeppncippknaaGreatDoor
open Go Go.RowKit

/-- The contract of house.read (Read1). -/
def ReadAt : Prop := ∀ (b0 : Nat) (v : Value) (l : List (List UInt8)) (w : World), Env w → StrsIn w b0 v l → l.length ≤ 1099511627776 → (∀ x ∈ l, x.length ≤ 1048576) →
    Calls Tryz.prog 35 #[v] w fun e w' => e = .returned (ResC (readC l)) ∧ Fr [] w w'
/-- The contract of house.Line (Line). -/
def LineAt (res : ACall → Value) (short : ACall → Prop) : Prop := ∀ (c : ACall), c.Wf → short c → ∀ w : World, Env w → Calls Tryz.prog 13 #[.agg (callCells c)] w fun e w' => e = .returned (res c) ∧ Fr [] w w'

def lineK (c : ACall) : Option KRow := kindRows.find? (·.1 == c.kind)
def lineX (c : ACall) : KRow := (lineK c).getD (0, [], [])
def wrAll (fs : List Nat) (c : ACall) : List (List UInt8) := fs.flatMap fun f => wrP (pn f) c
def wrBad (fs : List Nat) (c : ACall) : Bool := fs.any fun f => wrB (pn f) c
def lineOut (c : ACall) : List (List UInt8) := (lineX c).2.1 :: wrAll (lineX c).2.2 c
def lineOk (c : ACall) : Bool := (lineK c).isSome && !wrBad (lineX c).2.2 c && (readC (lineOut c)).2 && decide ((readC (lineOut c)).1 = c)
def joinSp (l : List (List UInt8)) : List UInt8 := Lib.join l [32]
def ResL (c : ACall) : Value := if lineOk c then .tuple #[.string (bs (joinSp (lineOut c))), .int .i64 0] else .tuple #[.string (bs []), .int .i64 2]
theorem resL_no {c : ACall} (h : lineOk c = false) : ResL c = .tuple #[.string (bs []), .int .i64 2] := by unfold ResL; rw [h]; rfl
theorem resL_yes {c : ACall} (h : lineOk c = true) : ResL c = .tuple #[.string (bs (joinSp (lineOut c))), .int .i64 0] := by unfold ResL; rw [h]; rfl
theorem wrAll_succ (fs : List Nat) (c : ACall) {k : Nat} (hk : k < fs.length) : wrAll (fs.take (k + 1)) c = wrAll (fs.take k) c ++ wrP (pn fs[k]) c := by
  unfold wrAll
  rw [List.take_add_one, List.getElem?_eq_getElem hk, List.flatMap_append]
  simp
theorem wrBad_succ (fs : List Nat) (c : ACall) {k : Nat} (hk : k < fs.length) : wrBad (fs.take (k + 1)) c = (wrBad (fs.take k) c || wrB (pn fs[k]) c) := by
  unfold wrBad
  rw [List.take_add_one, List.getElem?_eq_getElem hk, List.any_append]
  simp
theorem wrP_length (p : Nat) (c : ACall) : (wrP p c).length ≤ 2 := by
  unfold wrP
  split
  all_goals first | (simp; done) | skip
  unfold condOut
  split
  · simp
  · simp
theorem wrAll_length (c : ACall) : ∀ fs : List Nat, (wrAll fs c).length ≤ 2 * fs.length
  | [] => by simp [wrAll]
  | f :: fs => by
    have h := wrAll_length c fs
    have h2 := wrP_length (pn f) c
    unfold wrAll at h ⊢
    rw [List.flatMap_cons, List.length_append, List.length_cons]
    omega
theorem lineX_parts (c : ACall) : ∀ f ∈ (lineX c).2.2, isPart f := by
  unfold lineX lineK
  cases h : kindRows.find? (·.1 == c.kind) with
  | none => intro f hf; simp at hf
  | some r =>
    have hm := List.mem_of_find?_eq_some h
    obtain ⟨i, hi, rfl⟩ := List.getElem_of_mem hm
    exact kindParts hi
theorem lineX_few (c : ACall) : (lineX c).2.2.length ≤ 4 := by
  unfold lineX lineK
  cases h : kindRows.find? (·.1 == c.kind) with
  | none => simp
  | some r =>
    have hm := List.mem_of_find?_eq_some h
    obtain ⟨i, hi, rfl⟩ := List.getElem_of_mem hm
    exact kindFew hi
/-- All of a call's words are below 2^20 bytes where its texts are below 300000. -/
structure ACall.Short (c : ACall) : Prop where
  bucket : c.bucket.length ≤ 300000
  name : c.name.length ≤ 300000
  text : c.text.length ≤ 300000
  pre : c.pre.length ≤ 300000
  aft : c.aft.length ≤ 300000
theorem decDigits_le : ∀ (k n : Nat), n < 10 ^ (k + 1) → (Lib.decDigits n).length ≤ k + 1
  | 0, n, h => by rw [Lib.decDigits, dif_pos (by omega)]; simp
  | k + 1, n, h => by
    rw [Lib.decDigits]
    split
    · simp
    · have h1 : n / 10 < 10 ^ (k + 1) := by rw [Nat.pow_succ] at h; omega
      have := decDigits_le k (n / 10) h1
      simp only [List.length_append, List.length_cons, List.length_nil]
      omega
theorem decDigits_small {n : Nat} (hn : n < 18446744073709551616) : (Lib.decDigits n).length ≤ 20 := decDigits_le 19 n (Nat.lt_of_lt_of_le hn (by decide))
theorem itoa_small {n : Int} (h : -9223372036854775808 ≤ n ∧ n ≤ 9223372036854775807) : (Lib.itoa n).length ≤ 21 := by
  unfold Lib.itoa
  split
  · rw [List.length_cons]
    have := decDigits_small (n := n.natAbs) (by omega)
    omega
  · have := decDigits_small (n := n.toNat) (by omega)
    omega
theorem wrP_small {c : ACall} (hw : c.Wf) (hs : c.Short) (p : Nat) : ∀ x ∈ wrP p c, x.length ≤ 1048576 := by
  have ht : ∀ t : List UInt8, t.length ≤ 300000 → (hWord t).length ≤ 1048576 := fun t h => by have := hWord_length t; omega
  have h1 := decDigits_small hw.num
  have h2 := decDigits_small hw.cn
  have h3 := itoa_small hw.most
  have h4 := itoa_small hw.part
  intro x hx
  unfold wrP at hx
  split at hx
  case h_4 =>
    unfold condOut at hx
    split at hx
    · simp only [List.mem_cons, List.not_mem_nil, or_false] at hx
      rcases hx with rfl | rfl
      · decide
      · omega
    · simp only [List.mem_cons, List.not_mem_nil, or_false] at hx
      subst hx
      unfold condW1
      split
      · decide
      · split
        · decide
        · decide
  all_goals
    simp only [List.mem_cons, List.not_mem_nil, or_false] at hx
    try subst hx
  all_goals first | exact ht _ hs.bucket | exact ht _ hs.name | exact ht _ hs.text | exact ht _ hs.pre | exact ht _ hs.aft | omega | exact hx.elim
theorem wrAll_small {c : ACall} (hw : c.Wf) (hs : c.Short) (fs : List Nat) : ∀ x ∈ wrAll fs c, x.length ≤ 1048576 := by
  intro x hx
  unfold wrAll at hx
  obtain ⟨f, _, h⟩ := List.mem_flatMap.1 hx
  exact wrP_small hw hs _ x h
theorem lineX_word (c : ACall) : (lineX c).2.1.length ≤ 8 := by
  unfold lineX lineK
  cases h : kindRows.find? (·.1 == c.kind) with
  | none => simp
  | some r =>
    have hm := List.mem_of_find?_eq_some h
    have hall : ∀ r ∈ kindRows, r.2.1.length ≤ 8 := by decide
    exact hall _ hm
theorem lineOut_small {c : ACall} (hw : c.Wf) (hs : c.Short) : ∀ x ∈ lineOut c, x.length ≤ 1048576 := by
  intro x hx
  rcases List.mem_cons.1 hx with rfl | hx
  · have := lineX_word c; omega
  · exact wrAll_small hw hs _ x hx
theorem lineOut_length (c : ACall) : (lineOut c).length ≤ 9 := by
  have h1 := wrAll_length c (lineX c).2.2
  have h2 := lineX_few c
  show ((lineX c).2.1 :: wrAll (lineX c).2.2 c).length ≤ 9
  rw [List.length_cons]
  omega
end Go.Proofs.YtcaeppncippknaaGreatDoor
