/- walk of ScopeForms -/
import Derived.Test.YtcpcohkfailmaaaAwake
namespace Go.Proofs.Ytcpcohkfailmaaa
open Go.RowKit

theorem forms_any (w : World) (A B K : Option Addr) (n m k c d f : Nat) (l r : List (Int × ByteArray)) (own : Int) (keys : List ByteArray)
    (hl : Scps w w.heap.size A n l) (hr : Scps w w.heap.size B m r) (hk : Strs w w.heap.size K k keys) :
    Calls Try.prog 3 #[.slice A n c, .slice B m d, .int .i64 own, .slice K k f] w fun e w' => e = .returned (.bool true) ∧ Below w.heap.size w w' := by
  by_cases h : n ≤ 50 ∧ m ≤ 50 ∧ k ≤ 50
  · obtain ⟨hn, hm, hkk⟩ := h
    go_enter Try.func3, Try.ntmps3
    go_wp2_with fail
    refine (few_yes _ _ _ _ _ _ _ _ _ _ hn hm hkk).mono ?_
    rintro e w' ⟨rfl, rfl⟩
    go_wp2_with fail
    refine (of_any w A n c l own K k f keys hl hk (by omega) (by omega)).mono ?_
    rintro e w1 ⟨rfl, hb1⟩
    go_wp2_with fail
    have s1 := hb1.size
    refine (rof_any w1 A n c l own K k f keys ((hl.below hb1).more s1) ((hk.below hb1).more s1) (by omega) (by omega)).mono ?_
    rintro e w2 ⟨rfl, hb2⟩
    have hb2 := hb1.trans (hb2.mono s1)
    clear hb1 s1
    go_wp2_with fail
    have s1 := hb2.size
    refine (tr_any w2 A B K n m k c d f l r own keys ((hl.below hb2).more s1) ((hr.below hb2).more s1) ((hk.below hb2).more s1) (by omega) (by omega) (by omega)).mono ?_
    rintro e w3 ⟨rfl, hb3⟩
    have hb3 := hb2.trans (hb3.mono s1)
    clear hb2 s1
    go_wp2_with fail
    have s1 := hb3.size
    refine (rtr_any w3 A B K n m k c d f l r own keys ((hl.below hb3).more s1) ((hr.below hb3).more s1) ((hk.below hb3).more s1) (by omega) (by omega) (by omega)).mono ?_
    rintro e w4 ⟨rfl, hb4⟩
    have hb4 := hb3.trans (hb4.mono s1)
    clear hb3 s1
    go_wp2_with fail
    refine (awake_any w4).mono ?_
    rintro e w5 ⟨rfl, hb5⟩
    have hb5 := hb4.trans (hb5.mono hb4.size)
    go_wp2_with fail
    go_ret
    exact ⟨rfl, hb5⟩
  · go_enter Try.func3, Try.ntmps3
    go_wp2_with fail
    refine (few_no _ _ _ _ _ _ _ _ _ _ h).mono ?_
    rintro e w' ⟨rfl, rfl⟩
    go_wp2_with fail
    refine (awake_any w).mono ?_
    rintro e w5 ⟨rfl, hb5⟩
    go_wp2_with fail
    go_ret
    exact ⟨rfl, hb5⟩
end Go.Proofs.Ytcpcohkfailmaaa
