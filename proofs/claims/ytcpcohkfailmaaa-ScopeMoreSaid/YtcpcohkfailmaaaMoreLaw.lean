/- ScopeMore's plain law: one scope more, one key more. No program stands here. -/
import Derived.Test.YtcpcohkfailmaaaFlat
namespace Go.Proofs.Ytcpcohkfailmaaa
open Go.RowKit

theorem flatS_append (l r : List ByteArray) : flatS (l ++ r) = flatS l ++ flatS r := by simp [flatS]

theorem andNot_bit {a b : Nat} (ha : a < 2 ^ 32) (hb : b < 2 ^ 32) (j : Nat) : (a &&& (4294967295 - b)).testBit j = (a.testBit j && !b.testBit j) := by
  rw [Nat.testBit_and, show 4294967295 - b = 2 ^ 32 - (b + 1) by omega, Nat.testBit_two_pow_sub_succ hb]
  by_cases h : j < 32
  · simp [h]
  · rw [Nat.testBit_lt_two_pow (Nat.lt_of_lt_of_le ha (Nat.pow_le_pow_right (by omega) (by omega)))]; simp

theorem lt32 {a : Nat} (h : a < 2 ^ 8) : a < 2 ^ 32 := Nat.lt_trans h (by decide)

theorem less_none {a b x : Nat} (ha : a < 2 ^ 8) (hb : b < 2 ^ 8) (h : b = a ||| x) : bits .andNot .u32 (a : Int) (b : Int) = 0 := by
  have : (2 : Nat) ^ 8 = 256 := by decide
  rw [u32_andNot_nat a b (by omega) (by omega)]
  have e : a &&& (4294967295 - b) = 0 := by
    apply Nat.eq_of_testBit_eq
    intro j
    rw [andNot_bit (lt32 ha) (lt32 hb), h, Nat.testBit_or, Nat.zero_testBit]
    cases a.testBit j <;> simp
  rw [e]; rfl

theorem less_one {a c k : Nat} (ha : a < 2 ^ 8) (hc : c < 2 ^ 8) (h : c = a ||| 2 ^ k) : bits .andNot .u32 (c : Int) (a : Int) = 0 ∨ bits .andNot .u32 (c : Int) (a : Int) = ((2 ^ k : Nat) : Int) := by
  have : (2 : Nat) ^ 8 = 256 := by decide
  rw [u32_andNot_nat c a (by omega) (by omega)]
  cases hk : a.testBit k
  · right
    have e : c &&& (4294967295 - a) = 2 ^ k := by
      apply Nat.eq_of_testBit_eq
      intro j
      rw [andNot_bit (lt32 hc) (lt32 ha), h, Nat.testBit_or, Nat.testBit_two_pow]
      by_cases e : k = j
      · subst e; simp [hk]
      · cases a.testBit j <;> simp [e]
    rw [e]
  · left
    have e : c &&& (4294967295 - a) = 0 := by
      apply Nat.eq_of_testBit_eq
      intro j
      rw [andNot_bit (lt32 hc) (lt32 ha), h, Nat.testBit_or, Nat.testBit_two_pow, Nat.zero_testBit]
      by_cases e : k = j
      · subst e; simp [hk]
      · cases a.testBit j <;> simp [e]
    rw [e]; rfl

theorem or_small {a x b : Nat} (ha : a < 2 ^ 8) (hx : x < 2 ^ 8) (h : b = a ||| x) : bits .or .u32 (a : Int) (x : Int) = (b : Int) := by
  have : (2 : Nat) ^ 8 = 256 := by decide
  rw [u32_or_nat a x (by omega) (by omega), h]

theorem keyMask_app (key k' : ByteArray) (keys : List ByteArray) : ∀ j, j ≤ keys.length → keyMask key (keys ++ [k']) j = keyMask key keys j
  | 0, _ => rfl
  | j + 1, h => by
    rw [keyMask, keyMask, keyMask_app key k' keys j (by omega), List.getD, List.getElem?_append_left (by omega), ← List.getD]

theorem or_mid (a x b y : Nat) : a ||| x ||| (b ||| y) = a ||| b ||| (x ||| y) := by
  apply Nat.eq_of_testBit_eq
  intro j
  simp only [Nat.testBit_or]
  cases a.testBit j <;> cases x.testBit j <;> cases b.testBit j <;> simp

/-- one key more names its own block or none -/
theorem stepMask_app (kind : Int) (key k' : ByteArray) (own : Int) (keys : List ByteArray) : ∃ e, stepMask kind key own (keys ++ [k']) = stepMask kind key own keys ||| e ∧ (e = 0 ∨ keys.length < 8 ∧ e = 2 ^ keys.length) := by
  by_cases h : kind = 3 ∧ key.toList.isEmpty = false
  · obtain ⟨rfl, hne⟩ := h
    rw [step_key own keys hne, step_key own _ hne, List.length_append, List.length_singleton]
    by_cases h8 : keys.length < 8
    · rw [Nat.min_eq_left (by omega), Nat.min_eq_left (by omega), keyMask, keyMask_app key k' keys _ (Nat.le_refl _)]
      split
      · exact ⟨_, rfl, .inr ⟨h8, rfl⟩⟩
      · exact ⟨0, (Nat.or_zero _).symm, .inl rfl⟩
    · rw [Nat.min_eq_right (by omega), Nat.min_eq_right (by omega), keyMask_app key k' keys _ (by omega)]
      exact ⟨0, (Nat.or_zero _).symm, .inl rfl⟩
  · refine ⟨0, ?_, .inl rfl⟩
    unfold stepMask
    rw [Nat.or_zero, if_neg h, if_neg h]

theorem ofMask_key (l : List (Int × ByteArray)) (own : Int) (keys : List ByteArray) (k' : ByteArray) : ∀ n, ∃ e, ofMask l own (keys ++ [k']) n = ofMask l own keys n ||| e ∧ (e = 0 ∨ keys.length < 8 ∧ e = 2 ^ keys.length)
  | 0 => ⟨0, by simp [ofMask], .inl rfl⟩
  | n + 1 => by
    obtain ⟨e1, h1, h2⟩ := ofMask_key l own keys k' n
    obtain ⟨e2, h3, h4⟩ := stepMask_app (l.getD n (0, ByteArray.empty)).1 (l.getD n (0, ByteArray.empty)).2 k' own keys
    refine ⟨e1 ||| e2, ?_, ?_⟩
    · rw [ofMask, ofMask, h1, h3, or_mid]
    · rcases h2 with rfl | ⟨h2, rfl⟩
      · rw [Nat.zero_or]; exact h4
      · rcases h4 with rfl | ⟨_, rfl⟩
        · rw [Nat.or_zero]; exact .inr ⟨h2, rfl⟩
        · rw [Nat.or_self]; exact .inr ⟨h2, rfl⟩

theorem ofMask_left (l r : List (Int × ByteArray)) (own : Int) (keys : List ByteArray) : ∀ n, n ≤ l.length → ofMask (l ++ r) own keys n = ofMask l own keys n
  | 0, _ => rfl
  | n + 1, h => by
    rw [ofMask, ofMask, ofMask_left l r own keys n (by omega), List.getD, List.getElem?_append_left (by omega), ← List.getD]

theorem ofMask_scope {l : List (Int × ByteArray)} {n : Nat} (hn : l.length = n) (kind : Int) (s : ByteArray) (own : Int) (keys : List ByteArray) : ofMask (l ++ [(kind, s)]) own keys (n + 1) = ofMask l own keys n ||| stepMask kind s own keys := by
  subst hn
  rw [ofMask, ofMask_left l _ own keys _ (Nat.le_refl _), List.getD, List.getElem?_append_right (Nat.le_refl _), Nat.sub_self]
  rfl

/-- the key more: what is named then and wasn't -/
theorem more_key {l : List (Int × ByteArray)} {own : Int} {keys : List ByteArray} (k' : ByteArray) (n : Nat) :
    bits .andNot .u32 ((ofMask l own keys n : Nat) : Int) ((ofMask l own (keys ++ [k']) n : Nat) : Int) = 0 ∧
    (bits .andNot .u32 ((ofMask l own (keys ++ [k']) n : Nat) : Int) ((ofMask l own keys n : Nat) : Int) = 0 ∨
      keys.length < 8 ∧ bits .andNot .u32 ((ofMask l own (keys ++ [k']) n : Nat) : Int) ((ofMask l own keys n : Nat) : Int) = ((2 ^ keys.length : Nat) : Int)) := by
  obtain ⟨e, h1, h2⟩ := ofMask_key l own keys k' n
  refine ⟨less_none (ofMask_lt _ _ _ _) (ofMask_lt _ _ _ _) h1, ?_⟩
  rcases h2 with rfl | ⟨h2, rfl⟩
  · left
    rw [Nat.or_zero] at h1
    rw [h1]
    exact less_none (ofMask_lt _ _ _ _) (ofMask_lt _ _ _ _) (Nat.or_self _).symm
  · rcases less_one (ofMask_lt _ _ _ _) (ofMask_lt _ _ _ _) h1 with h | h
    · exact .inl h
    · exact .inr ⟨h2, h⟩
end Go.Proofs.Ytcpcohkfailmaaa
