/- walk of ScopeDefaults -/
import Derived.Test.YtcpcohkfailmaaaAwake
namespace Go.Proofs.Ytcpcohkfailmaaa
open Go.RowKit

theorem tr_self {l r : List (Int × ByteArray)} {q : Int} {keys : List ByteArray} {x : Int} {a : Nat} (e : baseMask l r q keys = a) (hx : x = (a : Int)) (h0 : 0 ≤ q) (h8 : q < 8) :
    ((trMask l r q keys : Nat) : Int) = bits .or .u32 x (bits .or .u32 (2 ^ q.toNat % 4294967296) 32768) := by
  have hM := baseMask_lt l r q keys
  have h2 : 2 ^ q.toNat < 2 ^ 8 := Nat.pow_lt_pow_right (by omega) (by omega)
  have h3 : 2 ^ q.toNat ||| 32768 < 2 ^ 16 := Nat.or_lt_two_pow (lt16 h2) (by decide)
  have : (2 : Nat) ^ 16 = 65536 := by decide
  have : (2 : Nat) ^ 8 = 256 := by decide
  rw [e] at hM
  rw [hx, two_pow_mod (by omega), show (32768 : Int) = ((32768 : Nat) : Int) from rfl, u32_or_nat (2 ^ q.toNat) 32768 (by omega) (by omega), u32_or_nat a _ (by omega) (by omega)]
  unfold trMask
  rw [if_pos ⟨h0, h8⟩, e, Nat.or_assoc]

theorem tr_nobody (keys : List ByteArray) : ((trMask [] [] (-1) keys : Nat) : Int) = 32769 := by simp [trMask, baseMask]

set_option maxHeartbeats 1000000 in
theorem defaults_any (w : World) (A B K : Option Addr) (n m k c d f : Nat) (l r : List (Int × ByteArray)) (own : Int) (keys : List ByteArray)
    (hl : Scps w w.heap.size A n l) (hr : Scps w w.heap.size B m r) (hk : Strs w w.heap.size K k keys) :
    Calls Try.prog 6 #[.slice A n c, .slice B m d, .int .i64 own, .slice K k f] w fun e w' => e = .returned (.bool true) ∧ Below w.heap.size w w' := by
  by_cases h : n ≤ 50 ∧ m ≤ 50 ∧ k ≤ 50
  · obtain ⟨hn, hm, hkk⟩ := h
    obtain ⟨u, q, hu, hq, u0, q0, q8⟩ := own_mod own
    by_cases h0 : 0 < n
    · have HE := Lib.hid (show baseMask l r q keys = ofMask l q keys n by rw [base_rule (by rw [hl.1]; exact h0), hl.1])
      go_enter Try.func6, Try.ntmps6
      go_wp2_with fail
      refine (few_yes _ _ _ _ _ _ _ _ _ _ hn hm hkk).mono ?_
      rintro e w' ⟨rfl, rfl⟩
      go_wp2_with fail
      refine (of_any w A n c l q K k f keys hl hk (by omega) (by omega)).mono ?_
      rintro e w1 ⟨rfl, hb1⟩
      go_wp2_with fail
      have s1 := hb1.size
      refine (tr_any w1 A B K n m k c d f l r q keys ((hl.below hb1).more s1) ((hr.below hb1).more s1) ((hk.below hb1).more s1) (by omega) (by omega) (by omega)).mono ?_
      rintro e w2 ⟨rfl, hb2⟩
      have hb2 := hb1.trans (hb2.mono s1)
      clear hb1 s1
      rw [tr_self HE.out rfl q0 q8]
      go_wp2_with fail
      have s1 := hb2.size
      refine (tr_any w2 none none K 0 0 k 0 0 f [] [] q keys (Scps.nil _ _ _) (Scps.nil _ _ _) ((hk.below hb2).more s1) (by omega) (by omega) (by omega)).mono ?_
      rintro e w3 ⟨rfl, hb3⟩
      have hb3 := hb2.trans (hb3.mono s1)
      clear hb2 s1
      rw [tr_self (x := 1) (base_none rfl rfl) rfl q0 q8]
      go_wp2_with fail
      have s1 := hb3.size
      refine (tr_any w3 none none K 0 0 k 0 0 f [] [] (-1) keys (Scps.nil _ _ _) (Scps.nil _ _ _) ((hk.below hb3).more s1) (by omega) (by omega) (by omega)).mono ?_
      rintro e w4 ⟨rfl, hb4⟩
      have hb4 := hb3.trans (hb4.mono s1)
      clear hb3 s1
      rw [tr_nobody]
      go_wp2_with fail
      refine (awake_any w4).mono ?_
      rintro e w5 ⟨rfl, hb5⟩
      have hb5 := hb4.trans (hb5.mono hb4.size)
      go_wp2_with fail
      go_ret
      exact ⟨rfl, hb5⟩
    · have en : n = 0 := by omega
      subst en
      by_cases h1 : 0 < m
      · have HE := Lib.hid (show baseMask l r q keys = ofMask r q keys m by rw [base_block hl.1 (by rw [hr.1]; exact h1), hr.1])
        go_enter Try.func6, Try.ntmps6
        go_wp2_with fail
        refine (few_yes _ _ _ _ _ _ _ _ _ _ hn hm hkk).mono ?_
        rintro e w' ⟨rfl, rfl⟩
        go_wp2_with fail
        refine (of_any w B m d r q K k f keys hr hk (by omega) (by omega)).mono ?_
        rintro e w1 ⟨rfl, hb1⟩
        go_wp2_with fail
        have s1 := hb1.size
        refine (tr_any w1 A B K 0 m k c d f l r q keys ((hl.below hb1).more s1) ((hr.below hb1).more s1) ((hk.below hb1).more s1) (by omega) (by omega) (by omega)).mono ?_
        rintro e w2 ⟨rfl, hb2⟩
        have hb2 := hb1.trans (hb2.mono s1)
        clear hb1 s1
        rw [tr_self HE.out rfl q0 q8]
        go_wp2_with fail
        have s1 := hb2.size
        refine (tr_any w2 none none K 0 0 k 0 0 f [] [] q keys (Scps.nil _ _ _) (Scps.nil _ _ _) ((hk.below hb2).more s1) (by omega) (by omega) (by omega)).mono ?_
        rintro e w3 ⟨rfl, hb3⟩
        have hb3 := hb2.trans (hb3.mono s1)
        clear hb2 s1
        rw [tr_self (x := 1) (base_none rfl rfl) rfl q0 q8]
        go_wp2_with fail
        have s1 := hb3.size
        refine (tr_any w3 none none K 0 0 k 0 0 f [] [] (-1) keys (Scps.nil _ _ _) (Scps.nil _ _ _) ((hk.below hb3).more s1) (by omega) (by omega) (by omega)).mono ?_
        rintro e w4 ⟨rfl, hb4⟩
        have hb4 := hb3.trans (hb4.mono s1)
        clear hb3 s1
        rw [tr_nobody]
        go_wp2_with fail
        refine (awake_any w4).mono ?_
        rintro e w5 ⟨rfl, hb5⟩
        have hb5 := hb4.trans (hb5.mono hb4.size)
        go_wp2_with fail
        go_ret
        exact ⟨rfl, hb5⟩
      · have em : m = 0 := by omega
        subst em
        have HE := Lib.hid (show baseMask l r q keys = 1 from base_none hl.1 hr.1)
        go_enter Try.func6, Try.ntmps6
        go_wp2_with fail
        refine (few_yes _ _ _ _ _ _ _ _ _ _ hn hm hkk).mono ?_
        rintro e w' ⟨rfl, rfl⟩
        go_wp2_with fail
        have hb1 := Below.refl w.heap.size w
        have s1 := hb1.size
        refine (tr_any w A B K 0 0 k c d f l r q keys ((hl.below hb1).more s1) ((hr.below hb1).more s1) ((hk.below hb1).more s1) (by omega) (by omega) (by omega)).mono ?_
        rintro e w2 ⟨rfl, hb2⟩
        have hb2 := hb1.trans (hb2.mono s1)
        clear hb1 s1
        rw [tr_self HE.out rfl q0 q8]
        go_wp2_with fail
        have s1 := hb2.size
        refine (tr_any w2 none none K 0 0 k 0 0 f [] [] q keys (Scps.nil _ _ _) (Scps.nil _ _ _) ((hk.below hb2).more s1) (by omega) (by omega) (by omega)).mono ?_
        rintro e w3 ⟨rfl, hb3⟩
        have hb3 := hb2.trans (hb3.mono s1)
        clear hb2 s1
        rw [tr_self (x := 1) (base_none rfl rfl) rfl q0 q8]
        go_wp2_with fail
        have s1 := hb3.size
        refine (tr_any w3 none none K 0 0 k 0 0 f [] [] (-1) keys (Scps.nil _ _ _) (Scps.nil _ _ _) ((hk.below hb3).more s1) (by omega) (by omega) (by omega)).mono ?_
        rintro e w4 ⟨rfl, hb4⟩
        have hb4 := hb3.trans (hb4.mono s1)
        clear hb3 s1
        rw [tr_nobody]
        go_wp2_with fail
        refine (awake_any w4).mono ?_
        rintro e w5 ⟨rfl, hb5⟩
        have hb5 := hb4.trans (hb5.mono hb4.size)
        go_wp2_with fail
        go_ret
        exact ⟨rfl, hb5⟩
  · go_enter Try.func6, Try.ntmps6
    go_wp2_with fail
    refine (few_no _ _ _ _ _ _ _ _ _ _ h).mono ?_
    rintro e w' ⟨rfl, rfl⟩
    go_wp2_with fail
    refine (awake_any w).mono ?_
    rintro e w5 ⟨rfl, hb5⟩
    go_wp2_with fail
    go_ret
    exact ⟨rfl, hb5⟩
end Go.Proofs.Ytcpcohkfailmaaa
