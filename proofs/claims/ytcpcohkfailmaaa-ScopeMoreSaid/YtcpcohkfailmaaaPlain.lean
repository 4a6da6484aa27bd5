/- Plain functions: the blocks that scopes name, as a natural number's bits. No program stands here. -/
import Derived.WalkKit
namespace Go.Proofs.Ytcpcohkfailmaaa
open Go.RowKit

/-- the bits of the keys, of the first k, that are the one asked for -/
def keyMask (key : ByteArray) (keys : List ByteArray) : Nat → Nat
  | 0 => 0
  | k + 1 => if ((keys.getD k ByteArray.empty).toList == key.toList) = true then keyMask key keys k ||| 2 ^ k else keyMask key keys k

/-- what one scope names -/
def stepMask (kind : Int) (key : ByteArray) (own : Int) (keys : List ByteArray) : Nat :=
  if kind = 1 then 1
  else if kind = 2 then (if 1 ≤ own ∧ own < 8 then 2 ^ own.toNat - 1 else 0)
  else if kind = 3 ∧ key.toList.isEmpty = false then keyMask key keys (min keys.length 8) else 0

/-- what the first k scopes name -/
def ofMask (l : List (Int × ByteArray)) (own : Int) (keys : List ByteArray) : Nat → Nat
  | 0 => 0
  | k + 1 => ofMask l own keys k ||| stepMask (l.getD k (0, ByteArray.empty)).1 (l.getD k (0, ByteArray.empty)).2 own keys

theorem or_lt {a b n : Nat} (ha : a < 2 ^ n) (hb : b < 2 ^ n) : a ||| b < 2 ^ n := Nat.or_lt_two_pow ha hb

theorem keyMask_lt (key : ByteArray) (keys : List ByteArray) : ∀ k, k ≤ 8 → keyMask key keys k < 2 ^ 8
  | 0, _ => by simp [keyMask]
  | k + 1, h => by
    have ih := keyMask_lt key keys k (by omega)
    unfold keyMask
    split
    · exact or_lt ih (Nat.pow_lt_pow_right (by omega) (by omega))
    · exact ih

theorem stepMask_lt (kind : Int) (key : ByteArray) (own : Int) (keys : List ByteArray) : stepMask kind key own keys < 2 ^ 8 := by
  unfold stepMask
  split
  · decide
  · split
    · split
      · have h : 2 ^ own.toNat ≤ 2 ^ 7 := Nat.pow_le_pow_right (by omega) (by omega)
        have : (2 : Nat) ^ 7 = 128 := by decide
        have : (2 : Nat) ^ 8 = 256 := by decide
        omega
      · decide
    · split
      · exact keyMask_lt _ _ _ (Nat.min_le_right _ _)
      · decide

theorem ofMask_lt (l : List (Int × ByteArray)) (own : Int) (keys : List ByteArray) : ∀ k, ofMask l own keys k < 2 ^ 8
  | 0 => by simp [ofMask]
  | k + 1 => or_lt (ofMask_lt l own keys k) (stepMask_lt _ _ _ _)

/-- bit i, as the walk has it -/
def bitI (i : Int) : Int := ((2 ^ i.toNat : Nat) : Int)

theorem bitI_bd {i : Int} (h : i ≤ 15) : 1 ≤ bitI i ∧ bitI i ≤ 32768 := by
  unfold bitI
  have h1 : 2 ^ i.toNat ≤ 2 ^ 15 := Nat.pow_le_pow_right (by omega) (by omega)
  have h2 : 0 < 2 ^ i.toNat := Nat.two_pow_pos _
  have : (2 : Nat) ^ 15 = 32768 := by decide
  omega

theorem bitI_nat (k : Nat) : bitI (k : Int) = ((2 ^ k : Nat) : Int) := by unfold bitI; rw [Int.toNat_natCast]

theorem keyMask_yes {key kj : ByteArray} {keys : List ByteArray} {j : Nat} (h : keys.getD j ByteArray.empty = kj) (he : (kj.toList == key.toList) = true) : keyMask key keys (j + 1) = keyMask key keys j ||| 2 ^ j := by
  rw [keyMask, h, if_pos he]
theorem keyMask_no {key kj : ByteArray} {keys : List ByteArray} {j : Nat} (h : keys.getD j ByteArray.empty = kj) (he : (kj.toList == key.toList) = false) : keyMask key keys (j + 1) = keyMask key keys j := by
  rw [keyMask, h, if_neg (by rw [he]; simp)]

theorem ofMask_succ {l : List (Int × ByteArray)} {own : Int} {keys : List ByteArray} {k : Nat} {kind : Int} {key : ByteArray} (h : l.getD k (0, ByteArray.empty) = (kind, key)) :
    ofMask l own keys (k + 1) = ofMask l own keys k ||| stepMask kind key own keys := by rw [ofMask, h]

/-- 'out |= x' where x is a small natural number -/
theorem or_val {a b c : Nat} {x : Int} (ha : a < 2 ^ 16) (hb : b < 2 ^ 16) (hx : x = (b : Int)) (hc : c = a ||| b) : Value.int .u32 (bits .or .u32 (a : Int) x) = Value.int .u32 (c : Int) := by
  have : (2 : Nat) ^ 16 = 65536 := by decide
  rw [hx, u32_or_nat a b (by omega) (by omega), hc]

theorem val_eq {a b : Nat} (h : a = b) : Value.int .u32 (a : Int) = Value.int .u32 (b : Int) := by rw [h]

theorem lt16 {a : Nat} (h : a < 2 ^ 8) : a < 2 ^ 16 := Nat.lt_trans h (by decide)

theorem step_one (key : ByteArray) (own : Int) (keys : List ByteArray) : stepMask 1 key own keys = 1 := by simp [stepMask]
theorem step_prev (key : ByteArray) {own : Int} (keys : List ByteArray) (h1 : 1 ≤ own) (h2 : own < 8) : stepMask 2 key own keys = 2 ^ own.toNat - 1 := by simp [stepMask, h1, h2]
theorem step_prev_no (key : ByteArray) {own : Int} (keys : List ByteArray) (h : ¬ (1 ≤ own ∧ own < 8)) : stepMask 2 key own keys = 0 := by
  unfold stepMask; rw [if_neg (by omega), if_pos rfl, if_neg h]
theorem step_key {key : ByteArray} (own : Int) (keys : List ByteArray) (h : key.toList.isEmpty = false) : stepMask 3 key own keys = keyMask key keys (min keys.length 8) := by
  unfold stepMask; rw [if_neg (by omega), if_neg (by omega), if_pos ⟨rfl, h⟩]
theorem step_key_no {key : ByteArray} (own : Int) (keys : List ByteArray) (h : key.toList.isEmpty = true) : stepMask 3 key own keys = 0 := by
  unfold stepMask; rw [if_neg (by omega), if_neg (by omega), if_neg (by simp [h])]
theorem step_other {kind : Int} (key : ByteArray) (own : Int) (keys : List ByteArray) (h1 : kind ≠ 1) (h2 : kind ≠ 2) (h3 : kind ≠ 3) : stepMask kind key own keys = 0 := by
  unfold stepMask; rw [if_neg h1, if_neg h2, if_neg (by simp [h3])]

theorem bitI_sub {own : Int} : bitI own - 1 = ((2 ^ own.toNat - 1 : Nat) : Int) := by
  unfold bitI
  have := Nat.two_pow_pos own.toNat
  omega

theorem small_mod (x : Nat) (h : x ≤ 32768) : ((x : Nat) : Int) % 4294967296 = (x : Int) := by omega
theorem small_sub_mod (x : Nat) (h0 : 0 < x) (h : x ≤ 32768) : (((x : Nat) : Int) - 1) % 4294967296 = ((x - 1 : Nat) : Int) := by omega
theorem two_pow_le {k : Nat} (h : k ≤ 15) : 2 ^ k ≤ 32768 := Nat.le_trans (Nat.pow_le_pow_right (by omega) h) (by decide)
theorem two_pow_mod {k : Nat} (h : k ≤ 15) : (2 : Int) ^ k % 4294967296 = ((2 ^ k : Nat) : Int) := by
  have h3 : (2 : Int) ^ k = ((2 ^ k : Nat) : Int) := by rw [Int.natCast_pow]; rfl
  rw [h3]; exact small_mod _ (two_pow_le h)
theorem two_pow_sub_mod {k : Nat} (h : k ≤ 15) : ((2 : Int) ^ k - 1) % 4294967296 = ((2 ^ k - 1 : Nat) : Int) := by
  have h3 : (2 : Int) ^ k = ((2 ^ k : Nat) : Int) := by rw [Int.natCast_pow]; rfl
  rw [h3]; exact small_sub_mod _ (Nat.two_pow_pos _) (two_pow_le h)

/-- the reference's own count of the keys -/
def refMask (key : ByteArray) (keys : List ByteArray) (j : Nat) : Nat := if key.toList.isEmpty = true then 0 else keyMask key keys (min j 8)

theorem refMask_zero (key : ByteArray) (keys : List ByteArray) : refMask key keys 0 = 0 := by simp [refMask, keyMask]
theorem refMask_lt (key : ByteArray) (keys : List ByteArray) (j : Nat) : refMask key keys j < 2 ^ 8 := by
  unfold refMask; split
  · decide
  · exact keyMask_lt _ _ _ (Nat.min_le_right _ _)
theorem refMask_past {key : ByteArray} {keys : List ByteArray} {j : Nat} (h : 8 ≤ j) : refMask key keys (j + 1) = refMask key keys j := by
  unfold refMask; rw [Nat.min_eq_right (by omega), Nat.min_eq_right h]
theorem refMask_yes {key kj : ByteArray} {keys : List ByteArray} {j : Nat} (h8 : j < 8) (h : keys.getD j ByteArray.empty = kj) (hne : kj.toList.isEmpty = false) (he : (kj.toList == key.toList) = true) :
    refMask key keys (j + 1) = refMask key keys j ||| 2 ^ j := by
  have e : kj.toList = key.toList := by simpa using he
  unfold refMask
  rw [← e, hne, if_neg (by simp), if_neg (by simp), Nat.min_eq_left (by omega), Nat.min_eq_left (by omega), keyMask_yes h he]
theorem refMask_no {key kj : ByteArray} {keys : List ByteArray} {j : Nat} (h8 : j < 8) (h : keys.getD j ByteArray.empty = kj) (he : (kj.toList == key.toList) = false) :
    refMask key keys (j + 1) = refMask key keys j := by
  unfold refMask
  rw [Nat.min_eq_left (by omega), Nat.min_eq_left (by omega), keyMask_no h he]
theorem refMask_empty {key kj : ByteArray} {keys : List ByteArray} {j : Nat} (h8 : j < 8) (h : keys.getD j ByteArray.empty = kj) (hne : kj.toList.isEmpty = true) :
    refMask key keys (j + 1) = refMask key keys j := by
  by_cases he : (kj.toList == key.toList) = true
  · have e : kj.toList = key.toList := by simpa using he
    unfold refMask
    rw [← e, hne, if_pos rfl, if_pos rfl]
  · exact refMask_no h8 h (by simpa using he)
theorem step_ref (key : ByteArray) (own : Int) (keys : List ByteArray) : stepMask 3 key own keys = refMask key keys keys.length := by
  unfold stepMask refMask
  rw [if_neg (by omega), if_neg (by omega)]
  cases h : key.toList.isEmpty <;> simp

/-- the blocks that a rule trusts, ahead of its own and the judge -/
def baseMask (rule block : List (Int × ByteArray)) (own : Int) (keys : List ByteArray) : Nat :=
  if 0 < rule.length then ofMask rule own keys rule.length else if 0 < block.length then ofMask block own keys block.length else 1

/-- the blocks that a rule trusts -/
def trMask (rule block : List (Int × ByteArray)) (own : Int) (keys : List ByteArray) : Nat :=
  (if 0 ≤ own ∧ own < 8 then baseMask rule block own keys ||| 2 ^ own.toNat else baseMask rule block own keys) ||| 32768

theorem baseMask_lt (rule block : List (Int × ByteArray)) (own : Int) (keys : List ByteArray) : baseMask rule block own keys < 2 ^ 8 := by
  unfold baseMask
  split
  · exact ofMask_lt _ _ _ _
  · split
    · exact ofMask_lt _ _ _ _
    · decide

theorem base_rule {rule block : List (Int × ByteArray)} {own : Int} {keys : List ByteArray} (h : 0 < rule.length) : baseMask rule block own keys = ofMask rule own keys rule.length := by
  unfold baseMask; rw [if_pos h]
theorem base_block {rule block : List (Int × ByteArray)} {own : Int} {keys : List ByteArray} (h0 : rule.length = 0) (h : 0 < block.length) : baseMask rule block own keys = ofMask block own keys block.length := by
  unfold baseMask; rw [if_neg (by omega), if_pos h]
theorem base_none {rule block : List (Int × ByteArray)} {own : Int} {keys : List ByteArray} (h0 : rule.length = 0) (h1 : block.length = 0) : baseMask rule block own keys = 1 := by
  unfold baseMask; rw [if_neg (by omega), if_neg (by omega)]

theorem own_lt {a : Nat} {own : Int} (ha : a < 2 ^ 8) (h1 : own < 8) : a ||| 2 ^ own.toNat < 2 ^ 16 :=
  lt16 (or_lt ha (Nat.pow_lt_pow_right (by omega) (by omega)))

theorem tr_in {rule block : List (Int × ByteArray)} {own : Int} {keys : List ByteArray} {a : Nat} (e : baseMask rule block own keys = a) (h0 : 0 ≤ own) (h8 : own < 8) {x y z : Int}
    (hx : x = (a : Int)) (hy : y = ((2 ^ own.toNat : Nat) : Int)) (hz : z = ((32768 : Nat) : Int)) :
    Ending.returned (.int .u32 (bits .or .u32 (bits .or .u32 x y) z)) = Ending.returned (.int .u32 (trMask rule block own keys : Nat)) := by
  have hM := baseMask_lt rule block own keys
  have h1 := own_lt hM h8
  have h2 : 2 ^ own.toNat < 2 ^ 8 := Nat.pow_lt_pow_right (by omega) (by omega)
  have : (2 : Nat) ^ 16 = 65536 := by decide
  have : (2 : Nat) ^ 8 = 256 := by decide
  rw [e] at hM h1
  rw [hx, hy, hz, u32_or_nat a (2 ^ own.toNat) (by omega) (by omega), u32_or_nat _ 32768 (by omega) (by omega)]
  unfold trMask
  rw [if_pos ⟨h0, h8⟩, e]

theorem tr_out {rule block : List (Int × ByteArray)} {own : Int} {keys : List ByteArray} {a : Nat} (e : baseMask rule block own keys = a) (h : ¬ (0 ≤ own ∧ own < 8)) {x z : Int}
    (hx : x = (a : Int)) (hz : z = ((32768 : Nat) : Int)) :
    Ending.returned (.int .u32 (bits .or .u32 x z)) = Ending.returned (.int .u32 (trMask rule block own keys : Nat)) := by
  have hM := baseMask_lt rule block own keys
  have : (2 : Nat) ^ 8 = 256 := by decide
  rw [e] at hM
  rw [hx, hz, u32_or_nat _ 32768 (by omega) (by omega)]
  unfold trMask
  rw [if_neg h, e]

/-- the reference takes the judge's own bit twice -/
theorem tr_judge {rule block : List (Int × ByteArray)} {keys : List ByteArray} {a : Nat} (e : baseMask rule block 15 keys = a) {x y z : Int}
    (hx : x = (a : Int)) (hy : y = ((32768 : Nat) : Int)) (hz : z = ((32768 : Nat) : Int)) :
    Ending.returned (.int .u32 (bits .or .u32 (bits .or .u32 x y) z)) = Ending.returned (.int .u32 (trMask rule block 15 keys : Nat)) := by
  have hM := baseMask_lt rule block 15 keys
  have : (2 : Nat) ^ 8 = 256 := by decide
  have h1 : a ||| 32768 < 2 ^ 16 := by rw [← e]; exact Nat.or_lt_two_pow (lt16 (baseMask_lt rule block 15 keys)) (by decide)
  have : (2 : Nat) ^ 16 = 65536 := by decide
  rw [e] at hM
  rw [hx, hy, hz, u32_or_nat _ 32768 (by omega) (by omega), u32_or_nat _ 32768 (by omega) (by omega)]
  unfold trMask
  rw [if_neg (by omega), e, Nat.or_assoc, Nat.or_self]

theorem ret_bool {a b : Bool} (h : a = b) : Ending.returned (.bool a) = Ending.returned (.bool b) := by rw [h]

/-- 'int(uint64(own) % 8)' -/
theorem own_mod (own : Int) : ∃ u q : Int, IntKind.u64.wrap own = u ∧ u % 8 = q ∧ 0 ≤ u ∧ 0 ≤ q ∧ q < 8 :=
  ⟨_, _, rfl, rfl, by rw [IntKind.wrap_u64]; omega, by omega, by omega⟩

/-- a slice of strings, nil or not, as the list that it reads as -/
def Strs (w : World) (B : Nat) (A : Option Addr) (n : Nat) (ss : List ByteArray) : Prop :=
  ss.length = n ∧ (0 < n → ∃ b off, A = some ⟨b, off, none⟩ ∧ b < B ∧ ∀ k, k < n → w.cell? ⟨b, off + k, none⟩ = some (.string (ss.getD k ByteArray.empty)))

/-- a slice of scopes -/
def Scps (w : World) (B : Nat) (A : Option Addr) (n : Nat) (l : List (Int × ByteArray)) : Prop :=
  l.length = n ∧ (0 < n → ∃ b off, A = some ⟨b, off, none⟩ ∧ b < B ∧ ∀ k, k < n →
    w.cell? ⟨b, off + k * 2, none⟩ = some (.int .i64 (l.getD k (0, ByteArray.empty)).1) ∧ w.cell? ⟨b, off + k * 2 + 1, none⟩ = some (.string (l.getD k (0, ByteArray.empty)).2))

theorem Strs.below {w w' : World} {B : Nat} {A : Option Addr} {n : Nat} {ss : List ByteArray} (h : Strs w B A n ss) (hb : Below B w w') : Strs w' B A n ss :=
  ⟨h.1, fun hn => let ⟨b, off, e, hlt, hc⟩ := h.2 hn; ⟨b, off, e, hlt, fun k hk => (hb.cell (by exact hlt)).trans (hc k hk)⟩⟩

theorem Scps.below {w w' : World} {B : Nat} {A : Option Addr} {n : Nat} {l : List (Int × ByteArray)} (h : Scps w B A n l) (hb : Below B w w') : Scps w' B A n l :=
  ⟨h.1, fun hn => let ⟨b, off, e, hlt, hc⟩ := h.2 hn; ⟨b, off, e, hlt, fun k hk => ⟨(hb.cell (by exact hlt)).trans (hc k hk).1, (hb.cell (by exact hlt)).trans (hc k hk).2⟩⟩⟩

theorem Strs.more {w : World} {B B' : Nat} {A : Option Addr} {n : Nat} {ss : List ByteArray} (h : Strs w B A n ss) (hB : B ≤ B') : Strs w B' A n ss :=
  ⟨h.1, fun hn => let ⟨b, off, e, hlt, hc⟩ := h.2 hn; ⟨b, off, e, Nat.lt_of_lt_of_le hlt hB, hc⟩⟩

theorem Scps.more {w : World} {B B' : Nat} {A : Option Addr} {n : Nat} {l : List (Int × ByteArray)} (h : Scps w B A n l) (hB : B ≤ B') : Scps w B' A n l :=
  ⟨h.1, fun hn => let ⟨b, off, e, hlt, hc⟩ := h.2 hn; ⟨b, off, e, Nat.lt_of_lt_of_le hlt hB, hc⟩⟩

theorem Strs.nil (w : World) (B : Nat) (A : Option Addr) : Strs w B A 0 [] := ⟨rfl, fun h => absurd h (Nat.lt_irrefl _)⟩
theorem Scps.nil (w : World) (B : Nat) (A : Option Addr) : Scps w B A 0 [] := ⟨rfl, fun h => absurd h (Nat.lt_irrefl _)⟩
end Go.Proofs.Ytcpcohkfailmaaa
