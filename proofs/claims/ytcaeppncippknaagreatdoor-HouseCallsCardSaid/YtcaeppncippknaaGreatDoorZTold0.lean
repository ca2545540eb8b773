/- An answer's lines, in plain, and how an answer lies in memory. Conditions: none. -/
import Derived.Test.YtcaeppncippknaaGreatDoorZCoder
import Derived.Test.YtcaeppncippknaaGreatDoorZPlainA
import Derived.Lib.ItoaNum
import Derived.Lib.ItoaLen
import Derived.Laws.Concat
namespace Go.Proofs.YtcaeppncippknaaGreatDoor
open Go Go.RowKit

structure AItem where
  name : List UInt8
  n : Nat
  len : Int
  gone : Bool
  deriving DecidableEq
structure AAns where
  code : Int
  n : Nat
  text : List UInt8
  items : List AItem
  more : Bool
  deriving DecidableEq
structure AItem.Wf (x : AItem) : Prop where
  name : x.name.length ≤ 1048576
  n : x.n < 18446744073709551616
  len : -9223372036854775808 ≤ x.len ∧ x.len ≤ 9223372036854775807
structure AAns.Wf (a : AAns) : Prop where
  code : -9223372036854775808 ≤ a.code ∧ a.code ≤ 9223372036854775807
  n : a.n < 18446744073709551616
  text : a.text.length ≤ 1048576
  few : a.items.length ≤ 1048576
  items : ∀ x ∈ a.items, x.Wf
def AAns.zero : AAns := ⟨0, 0, [], [], false⟩

def stW (b : Bool) : List UInt8 := if b then [103, 111, 110, 101] else [108, 105, 118, 101]
def codeL (c : Int) (n : Nat) : List UInt8 := [99, 111, 100, 101, 32] ++ Lib.itoa c ++ [32] ++ Lib.decDigits n
def textL (t : List UInt8) : List UInt8 := [116, 101, 120, 116, 32] ++ hWord t
def itemL (x : AItem) : List UInt8 := [105, 116, 101, 109, 32] ++ hWord x.name ++ [32] ++ Lib.decDigits x.n ++ [32] ++ Lib.itoa x.len ++ [32] ++ stW x.gone
def moreL : List UInt8 := [109, 111, 114, 101]
def toldT (a : AAns) : List (List UInt8) := codeL a.code a.n :: (if a.text = [] then [] else [textL a.text])
def toldP (a : AAns) : List (List UInt8) := toldT a ++ a.items.map itemL ++ (if a.more then [moreL] else [])

/-- An answer's cells: iv is the slice of its items. -/
def ansCells (a : AAns) (iv : Value) : Array Value := #[.int .i64 a.code, .int .u64 (a.n : Nat), strV a.text, iv, .bool a.more]
def itemCells (x : AItem) : Array Value := #[strV x.name, .int .u64 (x.n : Nat), .int .i64 x.len, .bool x.gone]
/-- The slice v holds the items l, in block b. -/
def ItemsIn (w : World) (b : Nat) (v : Value) (l : List AItem) : Prop :=
  ∃ p c off, v = .slice p l.length c ∧ ∀ i (hi : i < l.length), p = some ⟨b, off, none⟩ ∧ w.cell? ⟨b, off + i * 4, none⟩ = some (strV l[i].name) ∧ w.cell? ⟨b, off + i * 4 + 1, none⟩ = some (.int .u64 (l[i].n : Nat)) ∧
    w.cell? ⟨b, off + i * 4 + 2, none⟩ = some (.int .i64 l[i].len) ∧ w.cell? ⟨b, off + i * 4 + 3, none⟩ = some (.bool l[i].gone)
theorem ItemsIn.fr {M : List Nat} {w w' : World} {b : Nat} {v : Value} {l : List AItem} (h : ItemsIn w b v l) (hf : Fr M w w') (hn : b ∉ M) : ItemsIn w' b v l := by
  obtain ⟨p, c, off, hv, hc⟩ := h
  exact ⟨p, c, off, hv, fun i hi => ⟨(hc i hi).1, hf.cellAs (hc i hi).2.1 hn, hf.cellAs (hc i hi).2.2.1 hn, hf.cellAs (hc i hi).2.2.2.1 hn, hf.cellAs (hc i hi).2.2.2.2 hn⟩⟩
theorem bs_app (a b : List UInt8) : bs a ++ bs b = bs (a ++ b) := by
  apply ByteArray.ext; simp
theorem lit_bs (l : List UInt8) : (⟨l.toArray⟩ : ByteArray) = bs l := rfl
theorem toldT_length (a : AAns) : (toldT a).length ≤ 2 := by unfold toldT; split <;> simp
theorem map_succ (l : List AItem) {k : Nat} (hk : k < l.length) : (l.take (k + 1)).map itemL = (l.take k).map itemL ++ [itemL l[k]] := by
  rw [List.take_succ_eq_append_getElem hk, List.map_append]; rfl
theorem run_app (P : Program) (a b : List UInt8) (h : a.length + b.length ≤ 9223372036854775807) (w : World) : (Op.stringOp .add (bs a) (bs b)).run P w = .ok (.string (bs (a ++ b))) w := by
  rw [run_string_add_sum w (bs a) (bs b) (by rw [bs_size, bs_size]; exact h), bs_app]
/-- Two texts, one behind the other, under a name. -/
theorem app_ex (P : Program) (a b : List UInt8) (h : a.length + b.length ≤ 9223372036854775807) : ∃ s, Hid (s = a ++ b) ∧ s.length = a.length + b.length ∧ ∀ w, (Op.stringOp .add (bs a) (bs b)).run P w = .ok (.string (bs s)) w :=
  ⟨_, rfl, List.length_append, run_app P a b h⟩
end Go.Proofs.YtcaeppncippknaaGreatDoor
