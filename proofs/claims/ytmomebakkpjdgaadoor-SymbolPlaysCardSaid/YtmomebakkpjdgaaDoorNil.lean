/- awake; a table that there isn't -/
import Derived.Test.YtmomebakkpjdgaaDoorNew
namespace Go.Proofs.YtmomebakkpjdgaaDoor
open Go.RowKit Go.Maps

theorem number_right : numberOf [] [114, 105, 103, 104, 116] = (4, true, []) := by decide
theorem number_x : numberOf [] [120] = (1024, true, [[120]]) := by decide
theorem number_y : numberOf [[120]] [121] = (1025, true, [[120], [121]]) := by decide

set_option maxHeartbeats 1000000 in
theorem awake_any (w : World) (hL : Len w) : Calls Tryd.prog 7 #[] w fun e w' => e = .returned (.bool true) ∧ Below w.heap.size w w' := by
  go_enter Tryd.func7, Tryd.ntmps7
  go_wp2_with fail
  refine (new_any w hL).mono ?_
  rintro e w1 ⟨gt, bm, rfl, ht, hb⟩
  have hB : ∀ k, Foot gt bm (.slice none 0 0) k → w.heap.size ≤ k := fun k hk => (ht.foot_lt hk).1
  have H := Lib.hid ht
  have HB := Lib.hid hb
  clear ht hb
  go_wp2_with fail
  refine (number_any w1 w.heap.size gt bm _ [] { data := #[114, 105, 103, 104, 116] } H.out (by decide)).mono ?_
  rintro e w2 ⟨rfl, ht⟩
  rw [show numberOf [] ({ data := #[114, 105, 103, 104, 116] } : ByteArray).data.toList = (4, true, []) from number_right] at ht ⊢
  obtain ⟨v2, h2, k2, _⟩ := ht
  have H2 := Lib.hid h2
  have B2 := Lib.hid (HB.out.trans (k2.below HB.out.size hB))
  have hB2 : ∀ k, Foot gt bm v2 k → w.heap.size ≤ k := fun k hk => (h2.foot_lt hk).1
  clear h2 k2
  go_wp2_with fail
  refine (number_any w2 w.heap.size gt bm v2 [] { data := #[120] } H2.out (by decide)).mono ?_
  rintro e w3 ⟨rfl, ht⟩
  rw [show numberOf [] ({ data := #[120] } : ByteArray).data.toList = (1024, true, [[120]]) from number_x] at ht ⊢
  obtain ⟨v3, h3, k3, _⟩ := ht
  have H3 := Lib.hid h3
  have B3 := Lib.hid (B2.out.trans (k3.below B2.out.size hB2))
  have hB3 : ∀ k, Foot gt bm v3 k → w.heap.size ≤ k := fun k hk => (h3.foot_lt hk).1
  clear h3 k3
  go_wp2_with fail
  refine (number_any w3 w.heap.size gt bm v3 [[120]] { data := #[121] } H3.out (by decide)).mono ?_
  rintro e w4 ⟨rfl, ht⟩
  rw [show numberOf [[120]] ({ data := #[121] } : ByteArray).data.toList = (1025, true, [[120], [121]]) from number_y] at ht ⊢
  obtain ⟨v4, h4, k4, _⟩ := ht
  have B4 := Lib.hid (B3.out.trans (k4.below B3.out.size hB3))
  clear h4 k4 hB hB2 hB3
  go_wp2_with fail
  go_ret
  exact ⟨rfl, B4.out⟩

theorem number_nil (w : World) (s : ByteArray) : Calls Tryd.prog 9 #[.pointer none, .string s] w fun e w' => e = .returned (.tuple #[.int .i64 0, .bool false]) ∧ w' = w := by
  go_enter Tryd.func9, Tryd.ntmps9
  go_wp2_with fail
  go_ret2
  exact ⟨rfl, rfl⟩
theorem text_nil (w : World) (n : Int) : Calls Tryd.prog 12 #[.pointer none, .int .i64 n] w fun e w' => e = .returned (.tuple #[.string { data := #[] }, .bool false]) ∧ w' = w := by
  go_enter Tryd.func12, Tryd.ntmps12
  go_wp2_with fail
  go_ret2
  exact ⟨rfl, rfl⟩
theorem own_nil (w : World) : Calls Tryd.prog 10 #[.pointer none] w fun e w' => e = .returned (.slice none 0 0) ∧ w' = w := by
  go_enter Tryd.func10, Tryd.ntmps10
  go_wp2_with fail
  go_ret
  exact ⟨rfl, rfl⟩
theorem add_nil (w : World) (A : Option Addr) (n c : Nat) : Calls Tryd.prog 14 #[.pointer none, .slice A n c] w fun e w' => e = .returned (.bool false) ∧ w' = w := by
  go_enter Tryd.func14, Tryd.ntmps14
  go_wp2_with fail
  go_ret
  exact ⟨rfl, rfl⟩
theorem copy_nil (w : World) : Calls Tryd.prog 16 #[.pointer none] w fun e w' => e = .returned (.pointer none) ∧ w' = w := by
  go_enter Tryd.func16, Tryd.ntmps16
  go_wp2_with fail
  go_ret
  exact ⟨rfl, rfl⟩

set_option maxHeartbeats 1000000 in
theorem nil_any (w : World) (hL : Len w) (d n : Int) (s : ByteArray) (A : Option Addr) (m c : Nat) :
    Calls Tryd.prog 5 #[.agg #[.int .i64 d, .int .i64 n, .string s, .slice A m c]] w fun e w' => e = .returned (.bool true) ∧ Below w.heap.size w w' := by
  go_enter Tryd.func5, Tryd.ntmps5
  go_wp2_with fail
  refine (number_nil _ s).mono ?_
  rintro e w1 ⟨rfl, rfl⟩
  go_wp2_with fail
  refine (text_nil _ n).mono ?_
  rintro e w1 ⟨rfl, rfl⟩
  go_wp2_with fail
  refine (own_nil _).mono ?_
  rintro e w1 ⟨rfl, rfl⟩
  go_wp2_with fail
  refine (add_nil _ A m c).mono ?_
  rintro e w1 ⟨rfl, rfl⟩
  go_wp2_with fail
  refine (copy_nil _).mono ?_
  rintro e w1 ⟨rfl, rfl⟩
  go_wp2_with fail
  have hb : Below w.heap.size w (w.alloc (Obj.cells #[.int .i64 d, .int .i64 n, .string s, .slice A m c] 37)) := (Below.refl _ _).alloc (Nat.le_refl _) _
  refine (awake_any _ (hL.below hb hL.lt)).mono ?_
  rintro e w1 ⟨rfl, hb1⟩
  have hB := hb.trans (hb1.mono hb.size)
  clear hb1
  go_wp2_with fail
  go_ret
  exact ⟨rfl, hB⟩
end Go.Proofs.YtmomebakkpjdgaaDoor
