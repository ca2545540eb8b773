/- What house.kinds makes: the map of the fourteen kinds, whatever world it is called in. Conditions: none. -/
import Derived.Test.YtcaeppncippknaaGreatDoorProg
import Derived.Test.YtcaeppncippknaaGreatDoorZKmA
namespace Go.Proofs.YtcaeppncippknaaGreatDoor
open Go Go.RowKit

def w_make : List UInt8 := [109, 97, 107, 101]
def w_drop : List UInt8 := [100, 114, 111, 112]
def w_put : List UInt8 := [112, 117, 116]
def w_get : List UInt8 := [103, 101, 116]
def w_delete : List UInt8 := [100, 101, 108, 101, 116, 101]
def w_erase : List UInt8 := [101, 114, 97, 115, 101]
def w_list : List UInt8 := [108, 105, 115, 116]
def w_versions : List UInt8 := [118, 101, 114, 115, 105, 111, 110, 115]
def w_start : List UInt8 := [115, 116, 97, 114, 116]
def w_part : List UInt8 := [112, 97, 114, 116]
def w_finish : List UInt8 := [102, 105, 110, 105, 115, 104]
def w_abort : List UInt8 := [97, 98, 111, 114, 116]
def w_pin : List UInt8 := [112, 105, 110]
def w_unpin : List UInt8 := [117, 110, 112, 105, 110]

def kindRows : List KRow := [(1, w_make, [64]), (2, w_drop, [64]), (3, w_put, [64, 66, 70, 68]), (4, w_get, [64, 66, 67]), (5, w_delete, [64, 66, 68]), (6, w_erase, [64, 66, 67]),
  (7, w_list, [64, 72, 73, 71]), (8, w_versions, [64, 66, 67, 71]), (9, w_start, [64, 66]), (10, w_part, [64, 67, 74, 70]), (11, w_finish, [64, 67, 68]), (12, w_abort, [64, 67]), (13, w_pin, []), (14, w_unpin, [67])]

/-- of(w, l...): the struct of the two. -/
theorem of_calls (s : ByteArray) (p : Option Addr) (n c : Nat) (w : World) :
    Calls Tryz.prog 75 #[.string s, .slice p n c] w fun e w' => e = .returned (.agg #[.string s, .slice p n c]) ∧ w.alloc (.cells #[.string s, .slice p n c] 77) = w' := by
  go_enter Tryz.func75, Tryz.ntmps75
  go_wp2
  refine bodyPost_ret (v := .agg #[.string s, .slice p n c]) (by simp [results, Tryz.results75, go_sem]) rfl ⟨rfl, rfl⟩

set_option maxHeartbeats 1000000 in
set_option maxRecDepth 100000 in
theorem kinds_calls (w : World) : Calls Tryz.prog 33 #[] w fun e w' => e = .returned (.map (some w.heap.size)) ∧ KMF w kindRows w' := by
  go_enter Tryz.func33, Tryz.ntmps33
  simp only [List.append_eq, List.cons_append, List.nil_append]
  go_wp2_with (refine wpList_makeMap_kmf (by rfl) 79 (by rfl) ?_; intro w00 H)
  refine (of_calls _ _ _ _ _).mono ?_; rintro e w' ⟨rfl, rfl⟩
  go_wp2_with (refine wpList_insert_kmf (by rfl) (.tmp 11) (.const (.int .u8 1)) (.tmp 15) 79 (by rfl) Tryz.underlying79 Tryz.underlying5 (by rfl) ((H.alloc _).alloc _) kindRows[0] (by rfl) _ (by rfl) (by decide) (HasAt.new _ H.1.lt _ (by rfl) _ (by rfl) _) (kindRows.take 1) rfl ?_; clear H; intro w0 H)
  refine (of_calls _ _ _ _ _).mono ?_; rintro e w' ⟨rfl, rfl⟩
  go_wp2_with (refine wpList_insert_kmf (by rfl) (.tmp 11) (.const (.int .u8 2)) (.tmp 19) 79 (by rfl) Tryz.underlying79 Tryz.underlying5 (by rfl) ((H.alloc _).alloc _) kindRows[1] (by rfl) _ (by rfl) (by decide) (HasAt.new _ H.1.lt _ (by rfl) _ (by rfl) _) (kindRows.take 2) rfl ?_; clear H; intro w1 H)
  refine (of_calls _ _ _ _ _).mono ?_; rintro e w' ⟨rfl, rfl⟩
  go_wp2_with (refine wpList_insert_kmf (by rfl) (.tmp 11) (.const (.int .u8 3)) (.tmp 26) 79 (by rfl) Tryz.underlying79 Tryz.underlying5 (by rfl) ((H.alloc _).alloc _) kindRows[2] (by rfl) _ (by rfl) (by decide) (HasAt.new _ H.1.lt _ (by rfl) _ (by rfl) _) (kindRows.take 3) rfl ?_; clear H; intro w2 H)
  refine (of_calls _ _ _ _ _).mono ?_; rintro e w' ⟨rfl, rfl⟩
  go_wp2_with (refine wpList_insert_kmf (by rfl) (.tmp 11) (.const (.int .u8 4)) (.tmp 32) 79 (by rfl) Tryz.underlying79 Tryz.underlying5 (by rfl) ((H.alloc _).alloc _) kindRows[3] (by rfl) _ (by rfl) (by decide) (HasAt.new _ H.1.lt _ (by rfl) _ (by rfl) _) (kindRows.take 4) rfl ?_; clear H; intro w3 H)
  refine (of_calls _ _ _ _ _).mono ?_; rintro e w' ⟨rfl, rfl⟩
  go_wp2_with (refine wpList_insert_kmf (by rfl) (.tmp 11) (.const (.int .u8 5)) (.tmp 38) 79 (by rfl) Tryz.underlying79 Tryz.underlying5 (by rfl) ((H.alloc _).alloc _) kindRows[4] (by rfl) _ (by rfl) (by decide) (HasAt.new _ H.1.lt _ (by rfl) _ (by rfl) _) (kindRows.take 5) rfl ?_; clear H; intro w4 H)
  refine (of_calls _ _ _ _ _).mono ?_; rintro e w' ⟨rfl, rfl⟩
  go_wp2_with (refine wpList_insert_kmf (by rfl) (.tmp 11) (.const (.int .u8 6)) (.tmp 44) 79 (by rfl) Tryz.underlying79 Tryz.underlying5 (by rfl) ((H.alloc _).alloc _) kindRows[5] (by rfl) _ (by rfl) (by decide) (HasAt.new _ H.1.lt _ (by rfl) _ (by rfl) _) (kindRows.take 6) rfl ?_; clear H; intro w5 H)
  refine (of_calls _ _ _ _ _).mono ?_; rintro e w' ⟨rfl, rfl⟩
  go_wp2_with (refine wpList_insert_kmf (by rfl) (.tmp 11) (.const (.int .u8 7)) (.tmp 51) 79 (by rfl) Tryz.underlying79 Tryz.underlying5 (by rfl) ((H.alloc _).alloc _) kindRows[6] (by rfl) _ (by rfl) (by decide) (HasAt.new _ H.1.lt _ (by rfl) _ (by rfl) _) (kindRows.take 7) rfl ?_; clear H; intro w6 H)
  refine (of_calls _ _ _ _ _).mono ?_; rintro e w' ⟨rfl, rfl⟩
  go_wp2_with (refine wpList_insert_kmf (by rfl) (.tmp 11) (.const (.int .u8 8)) (.tmp 58) 79 (by rfl) Tryz.underlying79 Tryz.underlying5 (by rfl) ((H.alloc _).alloc _) kindRows[7] (by rfl) _ (by rfl) (by decide) (HasAt.new _ H.1.lt _ (by rfl) _ (by rfl) _) (kindRows.take 8) rfl ?_; clear H; intro w7 H)
  refine (of_calls _ _ _ _ _).mono ?_; rintro e w' ⟨rfl, rfl⟩
  go_wp2_with (refine wpList_insert_kmf (by rfl) (.tmp 11) (.const (.int .u8 9)) (.tmp 63) 79 (by rfl) Tryz.underlying79 Tryz.underlying5 (by rfl) ((H.alloc _).alloc _) kindRows[8] (by rfl) _ (by rfl) (by decide) (HasAt.new _ H.1.lt _ (by rfl) _ (by rfl) _) (kindRows.take 9) rfl ?_; clear H; intro w8 H)
  refine (of_calls _ _ _ _ _).mono ?_; rintro e w' ⟨rfl, rfl⟩
  go_wp2_with (refine wpList_insert_kmf (by rfl) (.tmp 11) (.const (.int .u8 10)) (.tmp 70) 79 (by rfl) Tryz.underlying79 Tryz.underlying5 (by rfl) ((H.alloc _).alloc _) kindRows[9] (by rfl) _ (by rfl) (by decide) (HasAt.new _ H.1.lt _ (by rfl) _ (by rfl) _) (kindRows.take 10) rfl ?_; clear H; intro w9 H)
  refine (of_calls _ _ _ _ _).mono ?_; rintro e w' ⟨rfl, rfl⟩
  go_wp2_with (refine wpList_insert_kmf (by rfl) (.tmp 11) (.const (.int .u8 11)) (.tmp 76) 79 (by rfl) Tryz.underlying79 Tryz.underlying5 (by rfl) ((H.alloc _).alloc _) kindRows[10] (by rfl) _ (by rfl) (by decide) (HasAt.new _ H.1.lt _ (by rfl) _ (by rfl) _) (kindRows.take 11) rfl ?_; clear H; intro w10 H)
  refine (of_calls _ _ _ _ _).mono ?_; rintro e w' ⟨rfl, rfl⟩
  go_wp2_with (refine wpList_insert_kmf (by rfl) (.tmp 11) (.const (.int .u8 12)) (.tmp 81) 79 (by rfl) Tryz.underlying79 Tryz.underlying5 (by rfl) ((H.alloc _).alloc _) kindRows[11] (by rfl) _ (by rfl) (by decide) (HasAt.new _ H.1.lt _ (by rfl) _ (by rfl) _) (kindRows.take 12) rfl ?_; clear H; intro w11 H)
  refine (of_calls _ _ _ _ _).mono ?_; rintro e w' ⟨rfl, rfl⟩
  go_wp2_with (refine wpList_insert_kmf (by rfl) (.tmp 11) (.const (.int .u8 13)) (.tmp 83) 79 (by rfl) Tryz.underlying79 Tryz.underlying5 (by rfl) (H.alloc _) kindRows[12] (by rfl) _ (by rfl) (by decide) (HasAt.nil _ _) (kindRows.take 13) rfl ?_; clear H; intro w12 H)
  refine (of_calls _ _ _ _ _).mono ?_; rintro e w' ⟨rfl, rfl⟩
  go_wp2_with (refine wpList_insert_kmf (by rfl) (.tmp 11) (.const (.int .u8 14)) (.tmp 87) 79 (by rfl) Tryz.underlying79 Tryz.underlying5 (by rfl) ((H.alloc _).alloc _) kindRows[13] (by rfl) _ (by rfl) (by decide) (HasAt.new _ H.1.lt _ (by rfl) _ (by rfl) _) (kindRows.take 14) rfl ?_; clear H; intro w13 H)
  go_ret
  exact ⟨rfl, H⟩
end Go.Proofs.YtcaeppncippknaaGreatDoor
