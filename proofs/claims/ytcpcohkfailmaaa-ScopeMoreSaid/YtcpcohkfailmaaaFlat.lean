/- Scopes and keys as cells, one behind the other; the bits of a mask. No program stands here. -/
import Derived.Test.YtcpcohkfailmaaaPlain
import Derived.Test.YtcpcohkfailmaaaWords
namespace Go.Proofs.Ytcpcohkfailmaaa
open Go.RowKit

def flat (l : List (Int × ByteArray)) : List Value := l.flatMap fun p => [.int .i64 p.1, .string p.2]

theorem flat_length (l : List (Int × ByteArray)) : (flat l).length = l.length * 2 := by
  induction l with
  | nil => rfl
  | cons p l ih => simp only [flat, List.flatMap_cons, List.length_append, List.length_cons, List.length_nil] at ih ⊢; omega

theorem flat_get : ∀ (l : List (Int × ByteArray)) (k : Nat), k < l.length →
    (flat l)[k * 2]? = some (.int .i64 (l.getD k (0, ByteArray.empty)).1) ∧ (flat l)[k * 2 + 1]? = some (.string (l.getD k (0, ByteArray.empty)).2)
  | p :: l, 0, _ => by simp [flat]
  | p :: l, k + 1, h => by
    have ih := flat_get l k (by simpa using h)
    have e1 : (k + 1) * 2 = k * 2 + 1 + 1 := by omega
    rw [e1]
    simpa [flat, List.getD] using ih

theorem flat_append (l r : List (Int × ByteArray)) : flat (l ++ r) = flat l ++ flat r := by simp [flat]

theorem flat_one (l : List (Int × ByteArray)) : ∀ u ∈ flat l, u.oneCell' = true := by
  intro u hu
  simp only [flat, List.mem_flatMap, List.mem_cons, List.not_mem_nil, or_false] at hu
  obtain ⟨p, _, rfl | rfl⟩ := hu <;> rfl

theorem Scps.reads {w : World} {B : Nat} {A : Option Addr} {n : Nat} {l : List (Int × ByteArray)} (h : Scps w B A n l) : Reads w B 2 A n (flat l) := by
  refine ⟨by rw [flat_length, h.1], fun hn => ?_⟩
  obtain ⟨b, off, rfl, hb, hc⟩ := h.2 hn
  refine ⟨_, rfl, hb, fun j u hu => ?_⟩
  have hj : j < l.length * 2 := by rw [← flat_length]; exact (List.getElem?_eq_some_iff.1 hu).1
  have hk : j / 2 < n := by rw [← h.1]; omega
  obtain ⟨c1, c2⟩ := hc (j / 2) hk
  obtain ⟨g1, g2⟩ := flat_get l (j / 2) (by omega)
  rw [Go.WideShapes.add_plain]
  rcases Nat.mod_two_eq_zero_or_one j with h0 | h0
  · have e : j / 2 * 2 = j := by omega
    rw [e] at c1 g1
    rw [g1] at hu
    rw [c1, ← Option.some.inj hu]
  · have e : j / 2 * 2 + 1 = j := by omega
    rw [e] at g2
    rw [Nat.add_assoc, e] at c2
    rw [g2] at hu
    rw [c2, ← Option.some.inj hu]

theorem own_scps {w : World} {base : Nat} {v : Value} {n : Nat} {l : List (Int × ByteArray)} (h : w.ownsRow base 33 2 v n (flat l)) : ∃ A c, v = .slice A n c ∧ Scps w w.heap.size A n l := by
  have hl : l.length = n := by have := h.1; rw [flat_length] at this; omega
  rcases h.2 with ⟨rfl, rfl⟩ | ⟨g, cap, cur, rfl, _, hg, _⟩
  · obtain rfl : l = [] := List.eq_nil_of_length_eq_zero hl
    exact ⟨none, 0, rfl, Scps.nil _ _ _⟩
  · refine ⟨_, _, rfl, hl, fun _ => ⟨g, 0, rfl, (Array.getElem?_eq_some_iff.1 hg).1, fun k hk => ?_⟩⟩
    obtain ⟨g1, g2⟩ := flat_get l k (by omega)
    have c1 := h.cellAt (k * 2) (by omega)
    have c2 := h.cellAt (k * 2 + 1) (by omega)
    rw [Nat.zero_add, c1, c2]
    exact ⟨g1, g2⟩

def flatS (ss : List ByteArray) : List Value := ss.map .string

theorem flatS_one (l : List ByteArray) : ∀ u ∈ flatS l, u.oneCell' = true := by
  intro u hu
  simp only [flatS, List.mem_map] at hu
  obtain ⟨p, _, rfl⟩ := hu
  rfl

theorem Strs.reads {w : World} {B : Nat} {A : Option Addr} {n : Nat} {l : List ByteArray} (h : Strs w B A n l) : Reads w B 1 A n (flatS l) := by
  refine ⟨by simp [flatS, h.1], fun hn => ?_⟩
  obtain ⟨b, off, rfl, hb, hc⟩ := h.2 hn
  refine ⟨_, rfl, hb, fun j u hu => ?_⟩
  have hj : j < l.length := by simpa [flatS] using (List.getElem?_eq_some_iff.1 hu).1
  rw [Go.WideShapes.add_plain, hc j (by rw [← h.1]; exact hj), ← hu]
  simp [flatS, List.getD, hj]

theorem own_strs {w : World} {base : Nat} {v : Value} {n : Nat} {l : List ByteArray} (h : w.ownsRow base 9 1 v n (flatS l)) : ∃ A c, v = .slice A n c ∧ Strs w w.heap.size A n l := by
  have hl : l.length = n := by have := h.1; simp [flatS] at this; omega
  rcases h.2 with ⟨rfl, rfl⟩ | ⟨g, cap, cur, rfl, _, hg, _⟩
  · obtain rfl : l = [] := List.eq_nil_of_length_eq_zero hl
    exact ⟨none, 0, rfl, Strs.nil _ _ _⟩
  · refine ⟨_, _, rfl, hl, fun _ => ⟨g, 0, rfl, (Array.getElem?_eq_some_iff.1 hg).1, fun k hk => ?_⟩⟩
    have c1 := h.cellAt k (by omega)
    rw [Nat.zero_add, c1]
    simp [flatS, List.getD, show k < l.length by omega]

/-! ### bits -/
theorem keyMask_bit {key : ByteArray} {keys : List ByteArray} {i : Nat} : ∀ {k : Nat}, (keyMask key keys k).testBit i = true → i < k ∧ ((keys.getD i ByteArray.empty).toList == key.toList) = true
  | 0, h => by simp [keyMask] at h
  | k + 1, h => by
    unfold keyMask at h
    split at h
    · rename_i hy
      rw [Nat.testBit_or, Bool.or_eq_true] at h
      rcases h with h | h
      · have := keyMask_bit h; exact ⟨by omega, this.2⟩
      · rw [Nat.testBit_two_pow] at h
        have e : k = i := by simpa using h
        subst e
        exact ⟨by omega, hy⟩
    · have := keyMask_bit h; exact ⟨by omega, this.2⟩

theorem one_bit {i : Nat} (h : 1 ≤ i) : Nat.testBit 1 i = false := by
  have e : (1 : Nat) = 2 ^ 0 := rfl
  rw [e, Nat.testBit_two_pow]
  simp; omega

theorem stepMask_bit {kind : Int} {key : ByteArray} {own : Int} {keys : List ByteArray} {i : Nat} (hi : own.toNat < i) (h : (stepMask kind key own keys).testBit i = true) :
    kind = 3 ∧ i < keys.length ∧ key.toList.isEmpty = false ∧ ((keys.getD i ByteArray.empty).toList == key.toList) = true := by
  unfold stepMask at h
  split at h
  · rw [one_bit (by omega)] at h; cases h
  · split at h
    · split at h
      · rw [Nat.testBit_two_pow_sub_one] at h
        simp at h; omega
      · simp at h
    · split at h
      · rename_i h3
        have hk := keyMask_bit h
        exact ⟨h3.1, by omega, h3.2, hk.2⟩
      · simp at h

theorem ofMask_bit {l : List (Int × ByteArray)} {own : Int} {keys : List ByteArray} {i : Nat} : ∀ {k : Nat}, (ofMask l own keys k).testBit i = true →
    ∃ j, j < k ∧ (stepMask (l.getD j (0, ByteArray.empty)).1 (l.getD j (0, ByteArray.empty)).2 own keys).testBit i = true
  | 0, h => by simp [ofMask] at h
  | k + 1, h => by
    rw [ofMask, Nat.testBit_or, Bool.or_eq_true] at h
    rcases h with h | h
    · obtain ⟨j, hj, hb⟩ := ofMask_bit h; exact ⟨j, by omega, hb⟩
    · exact ⟨k, by omega, h⟩

/-- what a scope says of a key -/
def names (p : Int × ByteArray) (key : ByteArray) : Bool := p.1 == 3 && p.2.toList == key.toList

/-- does one of the first k scopes say a key? -/
def anyN (s : List (Int × ByteArray)) (key : ByteArray) : Nat → Bool
  | 0 => false
  | k + 1 => anyN s key k || names (s.getD k (0, ByteArray.empty)) key

theorem anyN_of {s : List (Int × ByteArray)} {key : ByteArray} {j : Nat} (h : names (s.getD j (0, ByteArray.empty)) key = true) : ∀ {k : Nat}, j < k → anyN s key k = true
  | k + 1, hj => by
    unfold anyN
    rcases Nat.lt_succ_iff_lt_or_eq.1 hj with hlt | rfl
    · rw [anyN_of h hlt]; rfl
    · rw [h, Bool.or_true]
theorem anyN_stay {s : List (Int × ByteArray)} {key : ByteArray} {k : Nat} (h : anyN s key k = true) : anyN s key (k + 1) = true := by rw [anyN, h]; rfl
theorem anyN_yes {s : List (Int × ByteArray)} {key x : ByteArray} {k : Nat} (h : s.getD k (0, ByteArray.empty) = (3, x)) (he : (x.toList == key.toList) = true) : anyN s key (k + 1) = true := by
  rw [anyN, h, names, he]; simp
theorem anyN_kind {s : List (Int × ByteArray)} {key x : ByteArray} {kind : Int} {k : Nat} (h : s.getD k (0, ByteArray.empty) = (kind, x)) (hk : kind ≠ 3) (hf : anyN s key k = false) : anyN s key (k + 1) = false := by
  rw [anyN, h, hf, names]; simp [hk]
theorem anyN_other {s : List (Int × ByteArray)} {key x : ByteArray} {kind : Int} {k : Nat} (h : s.getD k (0, ByteArray.empty) = (kind, x)) (he : (x.toList == key.toList) = false) (hf : anyN s key k = false) : anyN s key (k + 1) = false := by
  rw [anyN, h, hf, names, he]; simp

theorem behind_law {l r : List (Int × ByteArray)} {q : Int} {keys : List ByteArray} {i : Nat} (h0 : 0 ≤ q) (hq : q.toNat < i) (h8 : i < 8) (h : (trMask l r q keys).testBit i = true) :
    i < keys.length ∧ (keys.getD i ByteArray.empty).toList.isEmpty = false ∧ ∃ j, j < l.length + r.length ∧ names ((l ++ r).getD j (0, ByteArray.empty)) (keys.getD i ByteArray.empty) = true := by
  have hb : (baseMask l r q keys).testBit i = true := by
    unfold trMask at h
    rw [if_pos ⟨h0, by omega⟩, Nat.testBit_or, Nat.testBit_or, show (32768 : Nat) = 2 ^ 15 from rfl, Nat.testBit_two_pow, Nat.testBit_two_pow] at h
    have e1 : decide (q.toNat = i) = false := by simp; omega
    have e2 : decide (15 = i) = false := by simp; omega
    rw [e1, e2] at h
    simpa using h
  have key : ∀ (s : List (Int × ByteArray)), (ofMask s q keys s.length).testBit i = true →
      i < keys.length ∧ (keys.getD i ByteArray.empty).toList.isEmpty = false ∧ ∃ j, j < s.length ∧ names (s.getD j (0, ByteArray.empty)) (keys.getD i ByteArray.empty) = true := by
    intro s hs
    obtain ⟨j, hj, hb⟩ := ofMask_bit hs
    obtain ⟨k3, hl, hne, he⟩ := stepMask_bit hq hb
    have e : (keys.getD i ByteArray.empty).toList = (s.getD j (0, ByteArray.empty)).2.toList := by simpa using he
    refine ⟨hl, by rw [e]; exact hne, j, hj, ?_⟩
    unfold names
    rw [k3, e]
    simp
  unfold baseMask at hb
  split at hb
  · obtain ⟨a, b, j, hj, hn⟩ := key l hb
    exact ⟨a, b, j, by omega, by rw [List.getD, List.getElem?_append_left hj]; exact hn⟩
  · split at hb
    · obtain ⟨a, b, j, hj, hn⟩ := key r hb
      refine ⟨a, b, l.length + j, by omega, ?_⟩
      rw [List.getD, List.getElem?_append_right (by omega), Nat.add_sub_cancel_left]
      exact hn
    · rw [one_bit (by omega)] at hb; cases hb

theorem trMask_lt (l r : List (Int × ByteArray)) (q : Int) (keys : List ByteArray) : trMask l r q keys < 2 ^ 16 := by
  unfold trMask
  refine Nat.or_lt_two_pow ?_ (by decide)
  split
  · exact own_lt (baseMask_lt _ _ _ _) (by omega)
  · exact lt16 (baseMask_lt _ _ _ _)

theorem tr_own {l r : List (Int × ByteArray)} {q : Int} {keys : List ByteArray} (h0 : 0 ≤ q) (h8 : q < 8) : (trMask l r q keys).testBit q.toNat = true := by
  unfold trMask
  rw [if_pos ⟨h0, h8⟩, Nat.testBit_or, Nat.testBit_or, Nat.testBit_two_pow]
  simp
theorem tr_judge_bit (l r : List (Int × ByteArray)) (q : Int) (keys : List ByteArray) : (trMask l r q keys).testBit 15 = true := by
  unfold trMask
  rw [Nat.testBit_or, show (32768 : Nat) = 2 ^ 15 from rfl, Nat.testBit_two_pow]
  simp

theorem and_yes {T j : Nat} (hT : T < 2 ^ 16) (h : T.testBit j = true) : bits .and .u32 ((T : Int) / 2 ^ j) 1 = 1 := by
  have e : (2 : Int) ^ j = ((2 ^ j : Nat) : Int) := by rw [Int.natCast_pow]; rfl
  have hd : T / 2 ^ j ≤ T := Nat.div_le_self _ _
  have : (2 : Nat) ^ 16 = 65536 := by decide
  rw [e, ← Int.natCast_ediv, show (1 : Int) = ((1 : Nat) : Int) from rfl, u32_and_nat _ 1 (by omega) (by omega), nat_mask1]
  rw [Nat.testBit_eq_decide_div_mod_eq] at h
  have h' : T / 2 ^ j % 2 = 1 := by simpa using h
  rw [h']
theorem and_no {T j : Nat} (hT : T < 2 ^ 16) (h : T.testBit j = false) : bits .and .u32 ((T : Int) / 2 ^ j) 1 = 0 := by
  have e : (2 : Int) ^ j = ((2 ^ j : Nat) : Int) := by rw [Int.natCast_pow]; rfl
  have hd : T / 2 ^ j ≤ T := Nat.div_le_self _ _
  have : (2 : Nat) ^ 16 = 65536 := by decide
  rw [e, ← Int.natCast_ediv, show (1 : Int) = ((1 : Nat) : Int) from rfl, u32_and_nat _ 1 (by omega) (by omega), nat_mask1]
  rw [Nat.testBit_eq_decide_div_mod_eq] at h
  have h' : ¬ T / 2 ^ j % 2 = 1 := by simpa using h
  have : T / 2 ^ j % 2 = 0 := by omega
  rw [this]; rfl

theorem and_high {b : Nat} (hb : b < 2 ^ 8) : b &&& 4294934272 = 0 := by
  apply Nat.eq_of_testBit_eq
  intro j
  rw [Nat.testBit_and, Nat.zero_testBit]
  by_cases h : j < 8
  · have : ∀ k : Fin 8, Nat.testBit 4294934272 k.1 = false := by decide
    rw [this ⟨j, h⟩, Bool.and_false]
  · rw [Nat.testBit_lt_two_pow (Nat.lt_of_lt_of_le hb (Nat.pow_le_pow_right (by omega) (by omega))), Bool.false_and]

theorem tr_only (l r : List (Int × ByteArray)) (q : Int) (keys : List ByteArray) : bits .andNot .u32 ((trMask l r q keys : Nat) : Int) 33023 = 0 := by
  have hT := trMask_lt l r q keys
  have : (2 : Nat) ^ 16 = 65536 := by decide
  rw [show (33023 : Int) = ((33023 : Nat) : Int) from rfl, u32_andNot_nat _ 33023 (by omega) (by omega)]
  have hb : (if 0 ≤ q ∧ q < 8 then baseMask l r q keys ||| 2 ^ q.toNat else baseMask l r q keys) < 2 ^ 8 := by
    split
    · exact or_lt (baseMask_lt _ _ _ _) (Nat.pow_lt_pow_right (by omega) (by omega))
    · exact baseMask_lt _ _ _ _
  unfold trMask
  rw [Nat.and_comm, Nat.and_or_distrib_left, Nat.and_comm, and_high hb]
  rfl
end Go.Proofs.Ytcpcohkfailmaaa
