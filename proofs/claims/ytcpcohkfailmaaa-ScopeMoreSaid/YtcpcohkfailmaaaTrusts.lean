/- walks of Trusted, of the reference's, of few and awake (under way) -/
import Derived.Test.YtcpcohkfailmaaaRefs
namespace Go.Proofs.Ytcpcohkfailmaaa
open Go.RowKit

theorem few_yes (w : World) (A B K : Option Addr) (n m k c d f : Nat) (hn : n ≤ 50) (hm : m ≤ 50) (hk : k ≤ 50) :
    Calls Try.prog 8 #[.slice A n c, .slice B m d, .slice K k f] w fun e w' => e = .returned (.bool true) ∧ w = w' := by
  go_enter Try.func8, Try.ntmps8
  go_wp2
  go_ret
  exact ⟨ret_bool (by simp; omega), rfl⟩

theorem few_no (w : World) (A B K : Option Addr) (n m k c d f : Nat) (h : ¬ (n ≤ 50 ∧ m ≤ 50 ∧ k ≤ 50)) :
    Calls Try.prog 8 #[.slice A n c, .slice B m d, .slice K k f] w fun e w' => e = .returned (.bool false) ∧ w = w' := by
  by_cases h1 : n ≤ 50
  · by_cases h2 : m ≤ 50
    · have h3 : ¬ k ≤ 50 := fun h3 => h ⟨h1, h2, h3⟩
      clear h
      go_enter Try.func8, Try.ntmps8
      go_wp2
      go_ret
      exact ⟨ret_bool (by simp; omega), rfl⟩
    · clear h
      go_enter Try.func8, Try.ntmps8
      go_wp2
      go_ret
      exact ⟨rfl, rfl⟩
  · clear h
    go_enter Try.func8, Try.ntmps8
    go_wp2
    go_ret
    exact ⟨rfl, rfl⟩

theorem own_ways (own : Int) : (0 ≤ own ∧ own < 8) ∨ own < 0 ∨ (8 ≤ own ∧ own ≠ 15) ∨ own = 15 := by omega

set_option maxHeartbeats 600000 in
theorem tr_any (w : World) (A B K : Option Addr) (n m k c d f : Nat) (rule block : List (Int × ByteArray)) (own : Int) (keys : List ByteArray)
    (hr : Scps w w.heap.size A n rule) (hbl : Scps w w.heap.size B m block) (hk : Strs w w.heap.size K k keys) (hn : n ≤ 1000000) (hm : m ≤ 1000000) (hkm : k ≤ 140737488351232) :
    Calls Try.prog 12 #[.slice A n c, .slice B m d, .int .i64 own, .slice K k f] w fun e w' => e = .returned (.int .u32 (trMask rule block own keys : Nat)) ∧ Below w.heap.size w w' := by
  by_cases hn0 : 0 < n
  · have HE := Lib.hid (show baseMask rule block own keys = ofMask rule own keys n by rw [base_rule (by rw [hr.1]; exact hn0), hr.1])
    rcases own_ways own with ⟨h0, h8⟩ | h0 | ⟨h0, h1⟩ | h0
    · go_enter Try.func12, Try.ntmps12
      go_wp2_with (first | (go_at_call 15; refine (bit_any _ (by omega) (by omega) _).mono ?_; rintro e w' ⟨rfl, rfl⟩) | (go_at_call 10; refine (of_any _ _ _ _ _ _ _ _ _ _ hr hk hn hkm).mono ?_; rintro e w' ⟨rfl, hb⟩))
      go_ret
      exact ⟨tr_in HE.out h0 h8 rfl rfl rfl, hb⟩
    · have HO := Lib.hid (p := ¬ (0 ≤ own ∧ own < 8)) (by omega)
      go_enter Try.func12, Try.ntmps12
      go_wp2_with (first | (go_at_call 15; refine (bit_any _ (by omega) (by omega) _).mono ?_; rintro e w' ⟨rfl, rfl⟩) | (go_at_call 10; refine (of_any _ _ _ _ _ _ _ _ _ _ hr hk hn hkm).mono ?_; rintro e w' ⟨rfl, hb⟩))
      go_ret
      exact ⟨tr_out HE.out HO.out rfl rfl, hb⟩
    · have HO := Lib.hid (p := ¬ (0 ≤ own ∧ own < 8)) (by omega)
      go_enter Try.func12, Try.ntmps12
      go_wp2_with (first | (go_at_call 15; refine (bit_any _ (by omega) (by omega) _).mono ?_; rintro e w' ⟨rfl, rfl⟩) | (go_at_call 10; refine (of_any _ _ _ _ _ _ _ _ _ _ hr hk hn hkm).mono ?_; rintro e w' ⟨rfl, hb⟩))
      go_ret
      exact ⟨tr_out HE.out HO.out rfl rfl, hb⟩
    · subst h0
      go_enter Try.func12, Try.ntmps12
      go_wp2_with (first | (go_at_call 15; refine (bit_any _ (by omega) (by omega) _).mono ?_; rintro e w' ⟨rfl, rfl⟩) | (go_at_call 10; refine (of_any _ _ _ _ _ _ _ _ _ _ hr hk hn hkm).mono ?_; rintro e w' ⟨rfl, hb⟩))
      go_ret
      exact ⟨tr_out HE.out (by omega) rfl rfl, hb⟩
  · have en : n = 0 := by omega
    subst en
    by_cases hm0 : 0 < m
    · have HE := Lib.hid (show baseMask rule block own keys = ofMask block own keys m by rw [base_block hr.1 (by rw [hbl.1]; exact hm0), hbl.1])
      rcases own_ways own with ⟨h0, h8⟩ | h0 | ⟨h0, h1⟩ | h0
      · go_enter Try.func12, Try.ntmps12
        go_wp2_with (first | (go_at_call 15; refine (bit_any _ (by omega) (by omega) _).mono ?_; rintro e w' ⟨rfl, rfl⟩) | (go_at_call 10; refine (of_any _ _ _ _ _ _ _ _ _ _ hbl hk hm hkm).mono ?_; rintro e w' ⟨rfl, hb⟩))
        go_ret
        exact ⟨tr_in HE.out h0 h8 rfl rfl rfl, hb⟩
      · have HO := Lib.hid (p := ¬ (0 ≤ own ∧ own < 8)) (by omega)
        go_enter Try.func12, Try.ntmps12
        go_wp2_with (first | (go_at_call 15; refine (bit_any _ (by omega) (by omega) _).mono ?_; rintro e w' ⟨rfl, rfl⟩) | (go_at_call 10; refine (of_any _ _ _ _ _ _ _ _ _ _ hbl hk hm hkm).mono ?_; rintro e w' ⟨rfl, hb⟩))
        go_ret
        exact ⟨tr_out HE.out HO.out rfl rfl, hb⟩
      · have HO := Lib.hid (p := ¬ (0 ≤ own ∧ own < 8)) (by omega)
        go_enter Try.func12, Try.ntmps12
        go_wp2_with (first | (go_at_call 15; refine (bit_any _ (by omega) (by omega) _).mono ?_; rintro e w' ⟨rfl, rfl⟩) | (go_at_call 10; refine (of_any _ _ _ _ _ _ _ _ _ _ hbl hk hm hkm).mono ?_; rintro e w' ⟨rfl, hb⟩))
        go_ret
        exact ⟨tr_out HE.out HO.out rfl rfl, hb⟩
      · subst h0
        go_enter Try.func12, Try.ntmps12
        go_wp2_with (first | (go_at_call 15; refine (bit_any _ (by omega) (by omega) _).mono ?_; rintro e w' ⟨rfl, rfl⟩) | (go_at_call 10; refine (of_any _ _ _ _ _ _ _ _ _ _ hbl hk hm hkm).mono ?_; rintro e w' ⟨rfl, hb⟩))
        go_ret
        exact ⟨tr_out HE.out (by omega) rfl rfl, hb⟩
    · have em : m = 0 := by omega
      subst em
      have HE := Lib.hid (show baseMask rule block own keys = 1 from base_none hr.1 hbl.1)
      rcases own_ways own with ⟨h0, h8⟩ | h0 | ⟨h0, h1⟩ | h0
      · go_enter Try.func12, Try.ntmps12
        go_wp2_with (first | (go_at_call 15; refine (bit_any _ (by omega) (by omega) _).mono ?_; rintro e w' ⟨rfl, rfl⟩) | fail)
        go_ret
        exact ⟨tr_in HE.out h0 h8 rfl rfl rfl, Below.refl _ _⟩
      · have HO := Lib.hid (p := ¬ (0 ≤ own ∧ own < 8)) (by omega)
        go_enter Try.func12, Try.ntmps12
        go_wp2_with (first | (go_at_call 15; refine (bit_any _ (by omega) (by omega) _).mono ?_; rintro e w' ⟨rfl, rfl⟩) | fail)
        go_ret
        exact ⟨tr_out HE.out HO.out rfl rfl, Below.refl _ _⟩
      · have HO := Lib.hid (p := ¬ (0 ≤ own ∧ own < 8)) (by omega)
        go_enter Try.func12, Try.ntmps12
        go_wp2_with (first | (go_at_call 15; refine (bit_any _ (by omega) (by omega) _).mono ?_; rintro e w' ⟨rfl, rfl⟩) | fail)
        go_ret
        exact ⟨tr_out HE.out HO.out rfl rfl, Below.refl _ _⟩
      · subst h0
        go_enter Try.func12, Try.ntmps12
        go_wp2_with (first | (go_at_call 15; refine (bit_any _ (by omega) (by omega) _).mono ?_; rintro e w' ⟨rfl, rfl⟩) | fail)
        go_ret
        exact ⟨tr_out HE.out (by omega) rfl rfl, Below.refl _ _⟩

set_option maxHeartbeats 600000 in
theorem rtr_any (w : World) (A B K : Option Addr) (n m k c d f : Nat) (rule block : List (Int × ByteArray)) (own : Int) (keys : List ByteArray)
    (hr : Scps w w.heap.size A n rule) (hbl : Scps w w.heap.size B m block) (hk : Strs w w.heap.size K k keys) (hn : n ≤ 1000000) (hm : m ≤ 1000000) (hkm : k ≤ 140737488351232) :
    Calls Try.prog 13 #[.slice A n c, .slice B m d, .int .i64 own, .slice K k f] w fun e w' => e = .returned (.int .u32 (trMask rule block own keys : Nat)) ∧ Below w.heap.size w w' := by
  by_cases hn0 : 0 < n
  · have HE := Lib.hid (show baseMask rule block own keys = ofMask rule own keys n by rw [base_rule (by rw [hr.1]; exact hn0), hr.1])
    rcases own_ways own with ⟨h0, h8⟩ | h0 | ⟨h0, h1⟩ | h0
    · go_enter Try.func13, Try.ntmps13
      go_wp2_with (first | (go_at_call 11; refine (rof_any _ _ _ _ _ _ _ _ _ _ hr hk hn hkm).mono ?_; rintro e w' ⟨rfl, hb⟩))
      go_ret
      exact ⟨tr_in HE.out h0 h8 rfl (two_pow_mod (by omega)) rfl, hb⟩
    · have HO := Lib.hid (p := ¬ (0 ≤ own ∧ own < 8)) (by omega)
      have hq : (own == 15) = false := beq_eq_false_iff_ne.2 (by omega)
      go_enter Try.func13, Try.ntmps13
      go_wp2_with (first | (go_at_call 11; refine (rof_any _ _ _ _ _ _ _ _ _ _ hr hk hn hkm).mono ?_; rintro e w' ⟨rfl, hb⟩))
      go_ret
      exact ⟨tr_out HE.out HO.out rfl rfl, hb⟩
    · have HO := Lib.hid (p := ¬ (0 ≤ own ∧ own < 8)) (by omega)
      have hq : (own == 15) = false := beq_eq_false_iff_ne.2 (by omega)
      go_enter Try.func13, Try.ntmps13
      go_wp2_with (first | (go_at_call 11; refine (rof_any _ _ _ _ _ _ _ _ _ _ hr hk hn hkm).mono ?_; rintro e w' ⟨rfl, hb⟩))
      go_ret
      exact ⟨tr_out HE.out HO.out rfl rfl, hb⟩
    · subst h0
      go_enter Try.func13, Try.ntmps13
      go_wp2_with (first | (go_at_call 11; refine (rof_any _ _ _ _ _ _ _ _ _ _ hr hk hn hkm).mono ?_; rintro e w' ⟨rfl, hb⟩))
      go_ret
      exact ⟨tr_judge HE.out rfl (by decide) rfl, hb⟩
  · have en : n = 0 := by omega
    subst en
    by_cases hm0 : 0 < m
    · have HE := Lib.hid (show baseMask rule block own keys = ofMask block own keys m by rw [base_block hr.1 (by rw [hbl.1]; exact hm0), hbl.1])
      rcases own_ways own with ⟨h0, h8⟩ | h0 | ⟨h0, h1⟩ | h0
      · go_enter Try.func13, Try.ntmps13
        go_wp2_with (first | (go_at_call 11; refine (rof_any _ _ _ _ _ _ _ _ _ _ hbl hk hm hkm).mono ?_; rintro e w' ⟨rfl, hb⟩))
        go_ret
        exact ⟨tr_in HE.out h0 h8 rfl (two_pow_mod (by omega)) rfl, hb⟩
      · have HO := Lib.hid (p := ¬ (0 ≤ own ∧ own < 8)) (by omega)
        have hq : (own == 15) = false := beq_eq_false_iff_ne.2 (by omega)
        go_enter Try.func13, Try.ntmps13
        go_wp2_with (first | (go_at_call 11; refine (rof_any _ _ _ _ _ _ _ _ _ _ hbl hk hm hkm).mono ?_; rintro e w' ⟨rfl, hb⟩))
        go_ret
        exact ⟨tr_out HE.out HO.out rfl rfl, hb⟩
      · have HO := Lib.hid (p := ¬ (0 ≤ own ∧ own < 8)) (by omega)
        have hq : (own == 15) = false := beq_eq_false_iff_ne.2 (by omega)
        go_enter Try.func13, Try.ntmps13
        go_wp2_with (first | (go_at_call 11; refine (rof_any _ _ _ _ _ _ _ _ _ _ hbl hk hm hkm).mono ?_; rintro e w' ⟨rfl, hb⟩))
        go_ret
        exact ⟨tr_out HE.out HO.out rfl rfl, hb⟩
      · subst h0
        go_enter Try.func13, Try.ntmps13
        go_wp2_with (first | (go_at_call 11; refine (rof_any _ _ _ _ _ _ _ _ _ _ hbl hk hm hkm).mono ?_; rintro e w' ⟨rfl, hb⟩))
        go_ret
        exact ⟨tr_judge HE.out rfl (by decide) rfl, hb⟩
    · have em : m = 0 := by omega
      subst em
      have HE := Lib.hid (show baseMask rule block own keys = 1 from base_none hr.1 hbl.1)
      rcases own_ways own with ⟨h0, h8⟩ | h0 | ⟨h0, h1⟩ | h0
      · go_enter Try.func13, Try.ntmps13
        go_wp2_with (first | fail)
        go_ret
        exact ⟨tr_in HE.out h0 h8 rfl (two_pow_mod (by omega)) rfl, Below.refl _ _⟩
      · have HO := Lib.hid (p := ¬ (0 ≤ own ∧ own < 8)) (by omega)
        have hq : (own == 15) = false := beq_eq_false_iff_ne.2 (by omega)
        go_enter Try.func13, Try.ntmps13
        go_wp2_with (first | fail)
        go_ret
        exact ⟨tr_out HE.out HO.out rfl rfl, Below.refl _ _⟩
      · have HO := Lib.hid (p := ¬ (0 ≤ own ∧ own < 8)) (by omega)
        have hq : (own == 15) = false := beq_eq_false_iff_ne.2 (by omega)
        go_enter Try.func13, Try.ntmps13
        go_wp2_with (first | fail)
        go_ret
        exact ⟨tr_out HE.out HO.out rfl rfl, Below.refl _ _⟩
      · subst h0
        go_enter Try.func13, Try.ntmps13
        go_wp2_with (first | fail)
        go_ret
        exact ⟨tr_judge HE.out rfl (by decide) rfl, Below.refl _ _⟩

end Go.Proofs.Ytcpcohkfailmaaa
