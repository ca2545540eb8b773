/- What the statement's reading of the arguments says of calls, answers and texts in memory. Conditions: none. -/
import Derived.Test.YtcaeppncippknaaGreatDoorZTold0
import Derived.Test.YtcaeppncippknaaGreatDoorZParts
import Derived.ProofKit
import Derived.OpenShut
import Derived.SizedLaws
import Derived.Carry
import Derived.Deep.Slices
import Derived.Deep.Fields
import Derived.ChangeSame
import Derived.SliceStrings
import Derived.Lib.SmallJoins
namespace Go.Proofs.YtcaeppncippknaaGreatDoor
open Go Go.ChangeShapes Go.WideShapes Go.ChangeAt Go.RowKit Go.Deep Go.Joins

section
variable {H : Type} {enc : TypeId × Value → H} {w : World} {base : Nat} {spare : Nat → Bool} {held : Bool}
theorem trodAll_stays {P : Program} (hl : laidOutB P = true) {W W' : World} (hb : Below W.heap.size W W') : ∀ {ts : List TypeId} {vs : List Value} {ds : List (DataW H)} {ps : List MemPlace},
    (∀ t ∈ ts, P.readableRec t = true ∧ t < P.types.size) → DataW.TrodAll enc P W 0 (fun _ => true) true ts vs ds ps → (∀ x ∈ ps, x.block < W.heap.size) → DataW.TrodAll enc P W' 0 (fun b => decide (b < W.heap.size)) true ts vs ds ps
  | [], vs, ds, ps, _, h, _ => by
    obtain ⟨rfl, rfl, rfl⟩ := trodAll_nil h
    exact trodAll_mk0
  | t :: ts, vs, ds, ps, hr, h, hlt => by
    obtain ⟨v0, vs0, d0, ds0, p0, q0, rfl, rfl, rfl, h0, r0⟩ := trodAll_cons h
    exact trodAll_cons_mk (Below.trod hl (hr t (by simp)).1 (hr t (by simp)).2 h0 hb fun x hx => hlt x (by simp [hx])) (trodAll_stays hl hb (fun u hu => hr u (by simp [hu])) r0 fun x hx => hlt x (by simp [hx]))

theorem wf_u8 {z : Int} (h : (Lit.int .u8 z).wf = true) : ∃ n : Nat, z = (n : Int) ∧ n ≤ 255 := by
  have : 0 ≤ z ∧ z ≤ 255 := by simpa [Lit.wf, IntKind.min, IntKind.max, IntKind.signed, IntKind.bits] using h
  exact ⟨z.toNat, by omega, by omega⟩
theorem wf_u64 {z : Int} (h : (Lit.int .u64 z).wf = true) : ∃ n : Nat, z = (n : Int) ∧ n < 18446744073709551616 := by
  have : 0 ≤ z ∧ z ≤ 18446744073709551615 := by simpa [Lit.wf, IntKind.min, IntKind.max, IntKind.signed, IntKind.bits] using h
  exact ⟨z.toNat, by omega, by omega⟩
theorem wf_i64 {z : Int} (h : (Lit.int .i64 z).wf = true) : -9223372036854775808 ≤ z ∧ z ≤ 9223372036854775807 := by
  simpa [Lit.wf, IntKind.min, IntKind.max, IntKind.signed, IntKind.bits] using h
theorem str_val (s : ByteArray) : Value.string s = strV s.data.toList := by
  show _ = Value.string (bs s.data.toList)
  rw [bs_of]

/-- An answer whose sizes the model's memory bears. -/
structure AAns.Mem (a : AAns) : Prop where
  code : -9223372036854775808 ≤ a.code ∧ a.code ≤ 9223372036854775807
  n : a.n < 18446744073709551616
  text : a.text.length ≤ 140737488355328
  few : a.items.length ≤ 140737488355328
  items : ∀ x ∈ a.items, x.name.length ≤ 140737488355328 ∧ x.n < 18446744073709551616 ∧ -9223372036854775808 ≤ x.len ∧ x.len ≤ 9223372036854775807
structure ACall.Mem (c : ACall) : Prop where
  kind : c.kind ≤ 255
  num : c.num < 18446744073709551616
  part : -9223372036854775808 ≤ c.part ∧ c.part ≤ 9223372036854775807
  ck : c.ck ≤ 255
  cn : c.cn < 18446744073709551616
  most : -9223372036854775808 ≤ c.most ∧ c.most ≤ 9223372036854775807

theorem k_u8 : Tryz.prog.cellsOf 5 = 1 := by kernel_rfl
theorem k_str : Tryz.prog.cellsOf 9 = 1 := by kernel_rfl
theorem k_u64 : Tryz.prog.cellsOf 27 = 1 := by kernel_rfl
theorem k_int : Tryz.prog.cellsOf 3 = 1 := by kernel_rfl
theorem k_bool : Tryz.prog.cellsOf 4 = 1 := by kernel_rfl
theorem k_cond : Tryz.prog.cellsOf 29 = 2 := by kernel_rfl
theorem k_call : Tryz.prog.cellsOf 31 = 11 := by kernel_rfl
theorem k_ans : Tryz.prog.cellsOf 47 = 5 := by kernel_rfl
theorem k_page : Tryz.prog.cellsOf 45 = 2 := by kernel_rfl
theorem k_items : Tryz.prog.cellsOf 43 = 1 := by kernel_rfl
theorem k_item : Tryz.prog.cellsOf 104 = 4 := by kernel_rfl
theorem k_errno : Tryz.prog.cellsOf 33 = 1 := by kernel_rfl

set_option maxRecDepth 100000 in
theorem open_call {r : Reach} {b0 : Nat} {v : Value} {d : DataW H} {p : List MemPlace} (hv : Value.okWide Tryz.prog w r b0 31 v) (h : DataW.Trod enc Tryz.prog w base spare held 31 v d p) :
    ∃ c : ACall, v = .agg (callCells c) ∧ c.Mem := by
  obtain ⟨cs, rfl, hsz⟩ := okWide_struct Tryz.underlying31 hv
  obtain ⟨l⟩ := cs
  obtain ⟨fuel, hf⟩ := h
  obtain ⟨xs, n, _, _, _, hlen, hg⟩ := DataW.trod_struct Tryz.underlying31 hf
  match l, hsz.trans k_call with
  | [c0, c1, c2, c3, c4, c5, c6, c7, c8, c9, c10], _ =>
    have gx : ∀ i, i < 10 → ∃ y, xs[i]? = some y := fun i hi => ⟨_, List.getElem?_eq_getElem (by rw [hlen]; exact hi)⟩
    have g0 := hg 0 ⟨_, 5, 0, _, _, _, _⟩ rfl
    have g1 := hg 1 ⟨_, 9, 1, _, _, _, _⟩ rfl
    have g2 := hg 2 ⟨_, 9, 2, _, _, _, _⟩ rfl
    have g3 := hg 3 ⟨_, 27, 3, _, _, _, _⟩ rfl
    have g4 := hg 4 ⟨_, 3, 4, _, _, _, _⟩ rfl
    have g5 := hg 5 ⟨_, 9, 5, _, _, _, _⟩ rfl
    have g6 := hg 6 ⟨_, 29, 6, _, _, _, _⟩ rfl
    have g7 := hg 7 ⟨_, 9, 8, _, _, _, _⟩ rfl
    have g8 := hg 8 ⟨_, 9, 9, _, _, _, _⟩ rfl
    have g9 := hg 9 ⟨_, 3, 10, _, _, _, _⟩ rfl
    obtain ⟨y0, e0⟩ := gx 0 (by omega)
    obtain ⟨y1, e1⟩ := gx 1 (by omega)
    obtain ⟨y2, e2⟩ := gx 2 (by omega)
    obtain ⟨y3, e3⟩ := gx 3 (by omega)
    obtain ⟨y4, e4⟩ := gx 4 (by omega)
    obtain ⟨y5, e5⟩ := gx 5 (by omega)
    obtain ⟨y6, e6⟩ := gx 6 (by omega)
    obtain ⟨y7, e7⟩ := gx 7 (by omega)
    obtain ⟨y8, e8⟩ := gx 8 (by omega)
    obtain ⟨y9, e9⟩ := gx 9 (by omega)
    simp only [k_u8, k_str, k_u64, k_int, k_cond, e0, e1, e2, e3, e4, e5, e6, e7, e8, e9, Value.cells, List.drop_zero, List.drop_succ_cons, List.take_succ_cons, List.take_zero] at g0 g1 g2 g3 g4 g5 g6 g7 g8 g9
    obtain ⟨z0, q0, _, w0⟩ := DataW.trod_int Tryz.underlying5 g0
    obtain ⟨z1, q1, _, _⟩ := DataW.trod_string Tryz.underlying9 g1
    obtain ⟨z2, q2, _, _⟩ := DataW.trod_string Tryz.underlying9 g2
    obtain ⟨z3, q3, _, w3⟩ := DataW.trod_int Tryz.underlying27 g3
    obtain ⟨z4, q4, _, w4⟩ := DataW.trod_int Tryz.underlying3 g4
    obtain ⟨z5, q5, _, _⟩ := DataW.trod_string Tryz.underlying9 g5
    obtain ⟨us, m, _, _, _, hulen, hug⟩ := DataW.trod_struct Tryz.underlying29 g6
    obtain ⟨z7, q7, _, _⟩ := DataW.trod_string Tryz.underlying9 g7
    obtain ⟨z8, q8, _, _⟩ := DataW.trod_string Tryz.underlying9 g8
    obtain ⟨z9, q9, _, w9⟩ := DataW.trod_int Tryz.underlying3 g9
    have ux : ∀ i, i < 2 → ∃ y, us[i]? = some y := fun i hi => ⟨_, List.getElem?_eq_getElem (by rw [hulen]; exact hi)⟩
    have u0 := hug 0 ⟨_, 5, 0, _, _, _, _⟩ rfl
    have u1 := hug 1 ⟨_, 27, 1, _, _, _, _⟩ rfl
    obtain ⟨a0, f0⟩ := ux 0 (by omega)
    obtain ⟨a1, f1⟩ := ux 1 (by omega)
    simp only [k_u8, k_u64, f0, f1, List.drop_zero, List.drop_succ_cons, List.take_succ_cons, List.take_zero] at u0 u1
    obtain ⟨z60, q60, _, w60⟩ := DataW.trod_int Tryz.underlying5 u0
    obtain ⟨z61, q61, _, w61⟩ := DataW.trod_int Tryz.underlying27 u1
    simp only [List.cons.injEq, and_true] at q0 q1 q2 q3 q4 q5 q60 q61 q7 q8 q9
    subst q0 q1 q2 q3 q4 q5 q60 q61 q7 q8 q9
    obtain ⟨n0, rfl, b0⟩ := wf_u8 w0
    obtain ⟨n3, rfl, b3⟩ := wf_u64 w3
    obtain ⟨n60, rfl, b60⟩ := wf_u8 w60
    obtain ⟨n61, rfl, b61⟩ := wf_u64 w61
    refine ⟨⟨n0, z1.data.toList, z2.data.toList, n3, z4, z5.data.toList, n60, n61, z7.data.toList, z8.data.toList, z9⟩, ?_, ⟨b0, b3, wf_i64 w4, b60, b61, wf_i64 w9⟩⟩
    rw [str_val z1, str_val z2, str_val z5, str_val z7, str_val z8]
    rfl

theorem all_weights {P : Program} {e : TypeId} : ∀ {ds : List (DataW H)}, (DataW.weightsAll P e ds).all (· ≤ reachBytes) = true → ∀ d ∈ ds, (d.weights P e).all (· ≤ reachBytes) = true
  | [], _, d, hd => by cases hd
  | y :: ys, h, d, hd => by
    simp only [DataW.weightsAll, List.all_append, Bool.and_eq_true] at h
    rcases List.mem_cons.1 hd with rfl | hd
    · exact h.1
    · exact all_weights h.2 d hd

/-- One item, as the reading finds it. -/
def ItemAt (w : World) (a : Addr) (i : Nat) (x : AItem) (d : DataW H) : Prop :=
  w.cell? (a.add (i * 4 + 0)) = some (strV x.name) ∧ w.cell? (a.add (i * 4 + 1)) = some (.int .u64 (x.n : Nat)) ∧ w.cell? (a.add (i * 4 + 2)) = some (.int .i64 x.len) ∧ w.cell? (a.add (i * 4 + 3)) = some (.bool x.gone) ∧
    x.n < 18446744073709551616 ∧ (-9223372036854775808 ≤ x.len ∧ x.len ≤ 9223372036854775807) ∧ ∃ d1 d2 d3, d = .agg [.lit (.string x.name), d1, d2, d3]

set_option maxRecDepth 100000 in
theorem item_at {a : Addr} {i n : Nat} {cs : List Value} {y : DataW H × List MemPlace} (hc : w.cells? base (a.add (i * 4)) 4 = some cs) (h : DataW.trod enc Tryz.prog w base spare held n 104 cs = some y) : ∃ x : AItem, ItemAt w a i x y.1 := by
  obtain ⟨ys, n', _, hy, _, hlen, hg⟩ := DataW.trod_struct Tryz.underlying104 h
  obtain ⟨_, hcl, hat⟩ := World.cells?_some hc
  subst hy
  match cs, hcl with
  | [c0, c1, c2, c3], _ =>
    match ys, hlen with
    | [y0, y1, y2, y3], _ =>
      have g0 := hg 0 ⟨_, 9, 0, _, _, _, _⟩ rfl
      have g1 := hg 1 ⟨_, 27, 1, _, _, _, _⟩ rfl
      have g2 := hg 2 ⟨_, 3, 2, _, _, _, _⟩ rfl
      have g3 := hg 3 ⟨_, 4, 3, _, _, _, _⟩ rfl
      simp only [k_u64, k_str, k_int, k_bool, List.drop_zero, List.drop_succ_cons, List.take_succ_cons, List.take_zero, List.getElem?_cons_zero, List.getElem?_cons_succ] at g0 g1 g2 g3
      obtain ⟨z0, q0, e0, _⟩ := DataW.trod_string Tryz.underlying9 g0
      obtain ⟨z1, q1, e1, w1⟩ := DataW.trod_int Tryz.underlying27 g1
      obtain ⟨z2, q2, e2, w2⟩ := DataW.trod_int Tryz.underlying3 g2
      obtain ⟨z3, q3, e3⟩ := DataW.trod_bool Tryz.underlying4 g3
      simp only [List.cons.injEq, and_true] at q0 q1 q2 q3
      subst q0 q1 q2 q3
      obtain ⟨n1, rfl, b1⟩ := wf_u64 w1
      have h0 := hat 0 (by omega)
      have h1 := hat 1 (by omega)
      have h2 := hat 2 (by omega)
      have h3 := hat 3 (by omega)
      rw [Go.Deep.add_add] at h0 h1 h2 h3
      refine ⟨⟨z0.data.toList, n1, z2, z3⟩, ?_, h1, h2, h3, b1, wf_i64 w2, y1.1, y2.1, y3.1, ?_⟩
      · rw [h0]
        show some (Value.string z0) = _
        rw [str_val z0]
      · subst e0
        rfl

theorem items_of {t : TypeId} (ht : t = 43) {fuel : Nat} {v : Value} {x : DataW H × List MemPlace} (h : DataW.trod enc Tryz.prog w 0 spare true fuel t [v] = some x) (hwt : (x.1.weights Tryz.prog t).all (· ≤ reachBytes) = true) :
    ∃ (b : Nat) (l : List AItem), ItemsIn w b v l ∧ l.length ≤ 140737488355328 ∧ ∀ y ∈ l, y.name.length ≤ 140737488355328 ∧ y.n < 18446744073709551616 ∧ -9223372036854775808 ≤ y.len ∧ y.len ≤ 9223372036854775807 := by
  subst ht
  rcases open_slice Tryz.underlying43 h with ⟨e, _⟩ | ⟨a, len, cap, m, n, D, Pl, e, _, hl, _, hm, rfl, hi⟩
  · simp only [List.cons.injEq, and_true] at e
    subst e
    exact ⟨0, [], ⟨none, 0, 0, rfl, fun i hi => by cases hi⟩, Nat.zero_le _, fun y hy => by cases hy⟩
  · simp only [List.cons.injEq, and_true] at e
    subst e
    have hlm : len ≤ m := by rw [hm]; split <;> omega
    have hx : ∀ i, ∃ x : AItem, i < m → ItemAt w a i x (D i) := fun i => by
      by_cases him : i < m
      · obtain ⟨cs, hc, ht⟩ := hi i him
        rw [k_item] at hc
        obtain ⟨x, hx⟩ := item_at hc ht
        exact ⟨x, fun _ => hx⟩
      · exact ⟨⟨[], 0, 0, false⟩, fun h => absurd h him⟩
    obtain ⟨f, hf⟩ := Classical.axiomOfChoice hx
    simp only [DataW.weights, Tryz.underlying43, List.all_cons, List.all_append, Bool.and_eq_true, List.length_map, List.length_range, decide_eq_true_eq] at hwt
    obtain ⟨w0, w1, _⟩ := hwt
    have hb : Tryz.prog.bytesOf 104 = 40 := by kernel_rfl
    rw [hb] at w0
    simp only [reachBytes] at w0
    have hlen : len ≤ 140737488355328 := by
      have : len * 40 ≤ (len + (m - len)) * 40 := Nat.mul_le_mul_right _ (by omega)
      omega
    refine ⟨a.block, (List.range len).map f, ?_, by simpa using hlen, ?_⟩
    · refine ⟨some a, cap, a.off, by simp, fun i hi' => ?_⟩
      have hil : i < len := by simpa using hi'
      obtain ⟨h0, h1, h2, h3, _⟩ := hf i (by omega)
      have hsp : a.spot = none := by simpa [Addr.add] using World.cell?_spot (hf 0 (by omega)).1
      obtain ⟨bk, off, sp⟩ := a
      simp only at hsp
      subst hsp
      rw [List.getElem_map, List.getElem_range]
      have hz : (⟨bk, off, none⟩ : Addr).add (i * 4 + 0) = ⟨bk, off + i * 4, none⟩ := by
        unfold Addr.add
        split
        · next h => rw [show i * 4 = 0 by omega, Nat.add_zero]
        · rfl
      rw [hz] at h0
      exact ⟨rfl, h0, h1, h2, h3⟩
    · intro y hy
      obtain ⟨i, hi', rfl⟩ := List.mem_map.1 hy
      have hil : i < len := List.mem_range.1 hi'
      obtain ⟨_, _, _, _, h4, h5, d1, d2, d3, h6⟩ := hf i (by omega)
      have hn := all_weights w1 (D i) (List.mem_map.2 ⟨i, hi', rfl⟩)
      rw [h6] at hn
      refine ⟨?_, h4, h5⟩
      simp only [DataW.weights, DataW.weightsEach, Tryz.underlying104, List.map_cons, List.map_nil, List.all_append, List.all_cons, List.all_nil, Bool.and_eq_true, reachBytes] at hn
      exact Nat.le_trans (of_decide_eq_true hn.1.1) (by decide)

set_option maxRecDepth 100000 in
theorem open_answer {r : Reach} {b0 : Nat} {v : Value} {d : DataW H} {p : List MemPlace} (hv : Value.okWide Tryz.prog w r b0 47 v) (h : DataW.Trod enc Tryz.prog w 0 spare true 47 v d p) (hwt : (d.weights Tryz.prog 47).all (· ≤ reachBytes) = true) :
    ∃ (a : AAns) (iv : Value) (b : Nat), v = .agg (ansCells a iv) ∧ ItemsIn w b iv a.items ∧ a.Mem := by
  obtain ⟨cs, rfl, hsz⟩ := okWide_struct Tryz.underlying47 hv
  obtain ⟨l⟩ := cs
  obtain ⟨fuel, hf⟩ := h
  obtain ⟨xs, n, _, hxs, _, hlen, hg⟩ := DataW.trod_struct Tryz.underlying47 hf
  match l, hsz.trans k_ans with
  | [c0, c1, c2, c3, c4], _ =>
    match xs, hlen with
    | [y0, y1, y2, y3], _ =>
      have g0 := hg 0 ⟨_, 33, 0, _, _, _, _⟩ rfl
      have g1 := hg 1 ⟨_, 27, 1, _, _, _, _⟩ rfl
      have g2 := hg 2 ⟨_, 9, 2, _, _, _, _⟩ rfl
      have g3 := hg 3 ⟨_, 45, 3, _, _, _, _⟩ rfl
      simp only [k_errno, k_u64, k_str, k_page, Value.cells, List.drop_zero, List.drop_succ_cons, List.take_succ_cons, List.take_zero, List.getElem?_cons_zero, List.getElem?_cons_succ] at g0 g1 g2 g3
      obtain ⟨z0, q0, _, w0⟩ := DataW.trod_int Tryz.underlying33 g0
      obtain ⟨z1, q1, _, w1⟩ := DataW.trod_int Tryz.underlying27 g1
      obtain ⟨z2, q2, e2, _⟩ := DataW.trod_string Tryz.underlying9 g2
      obtain ⟨us, m, _, hus, _, hulen, hug⟩ := DataW.trod_struct Tryz.underlying45 g3
      match us, hulen with
      | [u0, u1], _ =>
        have k0 := hug 0 ⟨_, 43, 0, _, _, _, _⟩ rfl
        have k1 := hug 1 ⟨_, 4, 1, _, _, _, _⟩ rfl
        simp only [k_items, k_bool, List.drop_zero, List.drop_succ_cons, List.take_succ_cons, List.take_zero, List.getElem?_cons_zero, List.getElem?_cons_succ] at k0 k1
        obtain ⟨z4, q4, _⟩ := DataW.trod_bool Tryz.underlying4 k1
        simp only [List.cons.injEq, and_true] at q0 q1 q2 q4
        subst q0 q1 q2 q4 hus e2
        obtain ⟨n1, rfl, b1⟩ := wf_u64 w1
        simp only [Prod.mk.injEq] at hxs
        obtain ⟨rfl, _⟩ := hxs
        simp only [DataW.weights, DataW.weightsEach, Tryz.underlying47, Tryz.underlying45, List.map_cons, List.map_nil, List.all_append, List.all_cons, List.all_nil, Bool.and_eq_true, reachBytes] at hwt
        obtain ⟨_, _, ⟨t1, _⟩, ⟨t2, _⟩, _⟩ := hwt
        obtain ⟨b, li, hin, hl1, hl2⟩ := items_of rfl k0 t2
        refine ⟨⟨z0, n1, z2.data.toList, li, z4⟩, c3, b, ?_, hin, ⟨wf_i64 w0, b1, Nat.le_trans (of_decide_eq_true t1) (by decide), hl1, hl2⟩⟩
        rw [str_val z2]
        rfl
end
end Go.Proofs.YtcaeppncippknaaGreatDoor
