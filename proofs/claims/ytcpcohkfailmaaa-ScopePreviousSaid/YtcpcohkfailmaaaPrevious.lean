/- walk of ScopePrevious -/
import Derived.Test.YtcpcohkfailmaaaAwake
namespace Go.Proofs.Ytcpcohkfailmaaa
open Go.RowKit

def other : ByteArray := { data := #[111, 116, 104, 101, 114] }

theorem keyed_none (w : World) (key : ByteArray) (h : key.toList.isEmpty = true) : Calls Try.prog 14 #[.string key] w fun e w' => e = .returned (.int .u32 0) ∧ w = w' := by
  go_enter Try.func14, Try.ntmps14
  go_wp2
  go_ret
  exact ⟨rfl, rfl⟩
theorem keyed_other (w : World) (key : ByteArray) (h : key.toList.isEmpty = false) (h1 : (key.toList == [111, 116, 104, 101, 114]) = true) : Calls Try.prog 14 #[.string key] w fun e w' => e = .returned (.int .u32 14) ∧ w = w' := by
  go_enter Try.func14, Try.ntmps14
  go_wp2
  go_ret
  exact ⟨rfl, rfl⟩
theorem keyed_any (w : World) (key : ByteArray) (h : key.toList.isEmpty = false) (h1 : (key.toList == [111, 116, 104, 101, 114]) = false) : Calls Try.prog 14 #[.string key] w fun e w' => e = .returned (.int .u32 10) ∧ w = w' := by
  go_enter Try.func14, Try.ntmps14
  go_wp2
  go_ret
  exact ⟨rfl, rfl⟩

/-- what keyed answers -/
def keyedS (key : ByteArray) : Nat := if key.toList.isEmpty = true then 0 else if (key.toList == [111, 116, 104, 101, 114]) = true then 14 else 10

theorem keyed_all (w : World) (key : ByteArray) : Calls Try.prog 14 #[.string key] w fun e w' => e = .returned (.int .u32 (keyedS key : Nat)) ∧ w = w' := by
  by_cases h : key.toList.isEmpty = true
  · exact (keyed_none w key h).mono fun _ _ ⟨he, hw⟩ => ⟨by rw [he, keyedS, if_pos h]; rfl, hw⟩
  · have h' : key.toList.isEmpty = false := by simpa using h
    by_cases h1 : (key.toList == [111, 116, 104, 101, 114]) = true
    · exact (keyed_other w key h' h1).mono fun _ _ ⟨he, hw⟩ => ⟨by rw [he, keyedS, if_neg h, if_pos h1]; rfl, hw⟩
    · exact (keyed_any w key h' (by simpa using h1)).mono fun _ _ ⟨he, hw⟩ => ⟨by rw [he, keyedS, if_neg h, if_neg h1]; rfl, hw⟩

theorem step_keyed (key : ByteArray) (own : Int) : stepMask 3 key own [{ data := #[] }, key, { data := #[111, 116, 104, 101, 114] }, key] = keyedS key := by
  unfold stepMask keyedS
  rw [if_neg (by omega), if_neg (by omega)]
  have e0 : ({ data := #[] } : ByteArray).toList = [] := by rw [ByteArray.toList_eq]
  have e1 : ({ data := #[111, 116, 104, 101, 114] } : ByteArray).toList = [111, 116, 104, 101, 114] := by rw [ByteArray.toList_eq]
  cases h : key.toList.isEmpty
  · rw [if_pos ⟨rfl, rfl⟩, if_neg (by simp)]
    have hne : ¬ key.toList = [] := by simpa using h
    by_cases h1 : key.toList = [111, 116, 104, 101, 114]
    · simp [keyMask, e0, e1, h1]
    · have h2 : ¬ [111, 116, 104, 101, 114] = key.toList := fun e => h1 e.symm
      simp [keyMask, e0, e1, h1, h2, hne]
  · simp

theorem of_one (w : World) (b : Nat) (kind : Int) (key : ByteArray) (own : Int) (K : Option Addr) (m d : Nat) (keys : List ByteArray) (hb : b < w.heap.size) (h1 : w.cell? ⟨b, 0, none⟩ = some (.int .i64 kind)) (h2 : w.cell? ⟨b, 1, none⟩ = some (.string key))
    (hk : Strs w w.heap.size K m keys) (hm : m ≤ 140737488351232) :
    Calls Try.prog 10 #[.slice (some ⟨b, 0, none⟩) 1 1, .int .i64 own, .slice K m d] w fun e w' => e = .returned (.int .u32 (stepMask kind key own keys : Nat)) ∧ Below w.heap.size w w' :=
  (of_any w (some ⟨b, 0, none⟩) 1 1 [(kind, key)] own K m d keys ⟨rfl, fun _ => ⟨b, 0, rfl, hb, fun k hk => by
    obtain rfl : k = 0 := by omega
    exact ⟨by simpa using h1, by simpa using h2⟩⟩⟩ hk (by omega) hm).mono fun _ _ ⟨he, hb⟩ => ⟨by rw [he]; simp [ofMask], hb⟩

theorem strs2 {w : World} {b : Nat} {s t : ByteArray} (hb : b < w.heap.size) (h0 : w.cell? ⟨b, 0, none⟩ = some (.string s)) (h1 : w.cell? ⟨b, 1, none⟩ = some (.string t)) :
    Strs w w.heap.size (some ⟨b, 0, none⟩) 2 [s, t] := ⟨rfl, fun _ => ⟨b, 0, rfl, hb, fun k hk => by
  match k, hk with
  | 0, _ => simpa using h0
  | 1, _ => simpa using h1⟩⟩
theorem strs4 {w : World} {b : Nat} {s t u v : ByteArray} (hb : b < w.heap.size) (h0 : w.cell? ⟨b, 0, none⟩ = some (.string s)) (h1 : w.cell? ⟨b, 1, none⟩ = some (.string t))
    (h2 : w.cell? ⟨b, 2, none⟩ = some (.string u)) (h3 : w.cell? ⟨b, 3, none⟩ = some (.string v)) :
    Strs w w.heap.size (some ⟨b, 0, none⟩) 4 [s, t, u, v] := ⟨rfl, fun _ => ⟨b, 0, rfl, hb, fun k hk => by
  match k, hk with
  | 0, _ => simpa using h0
  | 1, _ => simpa using h1
  | 2, _ => simpa using h2
  | 3, _ => simpa using h3⟩⟩

theorem prev_want (key : ByteArray) {own : Int} (keys : List ByteArray) (h0 : 0 < own) (h8 : own < 8) : ((stepMask 2 key own keys : Nat) : Int) = (2 ^ own.toNat % 4294967296 - 1) % 4294967296 := by
  rw [step_prev key keys (by omega) h8, two_pow_mod (by omega)]
  exact (small_sub_mod _ (Nat.two_pow_pos _) (two_pow_le (by omega))).symm
theorem prev_none (key : ByteArray) {own : Int} (keys : List ByteArray) (h : ¬ (0 < own ∧ own < 8)) : ((stepMask 2 key own keys : Nat) : Int) = 0 := by
  rw [step_prev_no key keys (by omega)]; rfl

theorem prev_ways (own : Int) : (0 < own ∧ own < 8) ∨ own ≤ 0 ∨ (0 < own ∧ 8 ≤ own) := by omega

set_option maxHeartbeats 1000000 in
theorem previous_any (w : World) (own : Int) (key : ByteArray) : Calls Try.prog 7 #[.int .i64 own, .string key] w fun e w' => e = .returned (.bool true) ∧ Below w.heap.size w w' := by
  rcases prev_ways own with ⟨h0, h8⟩ | h0 | ⟨h0, h8⟩
  · go_enter Try.func7, Try.ntmps7
    go_wp2_with fail
    refine (of_one _ _ 2 ({ data := #[] } : ByteArray) own _ _ _ [] (by simp) (by simp) (by simp) (Strs.nil _ _ _) (by omega)).mono ?_
    rintro e w1 ⟨rfl, hb1⟩
    rw [prev_want _ _ h0 h8]
    have c0 : w1.cell? ⟨w.heap.size, 0, none⟩ = some (.int .i64 2) := (hb1.cell (by simp)).trans (by simp)
    have c1 : w1.cell? ⟨w.heap.size, 1, none⟩ = some (.string ({ data := #[] } : ByteArray)) := (hb1.cell (by simp)).trans (by simp)
    have s1 : w.heap.size < w1.heap.size := by have := hb1.size; simp at this; omega
    have hb1 : Below w.heap.size w w1 := ((Below.refl _ _).alloc (Nat.le_refl _) _).trans (hb1.mono (by simp))
    go_wp2_with fail
    refine (of_one _ _ 2 ({ data := #[] } : ByteArray) 15 _ _ _ [key, key] (by simp; omega) (by simp [World.cell?_alloc_lt, s1, c0]) (by simp [World.cell?_alloc_lt, s1, c1]) (strs2 (by simp) (by simp) (by simp)) (by omega)).mono ?_
    rintro e w2 ⟨rfl, hb2⟩
    rw [prev_none _ _ (by omega)]
    have hb2 := (hb1.alloc hb1.size _).trans (hb2.mono (by simp; omega))
    clear hb1 c0 c1 s1
    go_wp2_with fail
    refine (of_one _ _ 3 key own _ _ _ [{ data := #[] }, key, { data := #[111, 116, 104, 101, 114] }, key] (by simp; omega) (by simp) (by simp) (strs4 (by simp) (by simp) (by simp) (by simp) (by simp)) (by omega)).mono ?_
    rintro e w3 ⟨rfl, hb3⟩
    rw [step_keyed]
    have hb3 := ((hb2.alloc hb2.size _).alloc (by have := hb2.size; simp; omega) _).trans (hb3.mono (by have := hb2.size; simp; omega))
    clear hb2
    go_wp2_with fail
    refine (keyed_all _ key).mono ?_
    rintro e w4 ⟨rfl, rfl⟩
    go_wp2_with fail
    refine (awake_any w3).mono ?_
    rintro e w5 ⟨rfl, hb5⟩
    have hb5 := hb3.trans (hb5.mono hb3.size)
    go_wp2_with fail
    go_ret
    exact ⟨rfl, hb5⟩
  · go_enter Try.func7, Try.ntmps7
    go_wp2_with fail
    refine (of_one _ _ 2 ({ data := #[] } : ByteArray) own _ _ _ [] (by simp) (by simp) (by simp) (Strs.nil _ _ _) (by omega)).mono ?_
    rintro e w1 ⟨rfl, hb1⟩
    rw [prev_none _ _ (by omega)]
    have c0 : w1.cell? ⟨w.heap.size, 0, none⟩ = some (.int .i64 2) := (hb1.cell (by simp)).trans (by simp)
    have c1 : w1.cell? ⟨w.heap.size, 1, none⟩ = some (.string ({ data := #[] } : ByteArray)) := (hb1.cell (by simp)).trans (by simp)
    have s1 : w.heap.size < w1.heap.size := by have := hb1.size; simp at this; omega
    have hb1 : Below w.heap.size w w1 := ((Below.refl _ _).alloc (Nat.le_refl _) _).trans (hb1.mono (by simp))
    go_wp2_with fail
    refine (of_one _ _ 2 ({ data := #[] } : ByteArray) 15 _ _ _ [key, key] (by simp; omega) (by simp [World.cell?_alloc_lt, s1, c0]) (by simp [World.cell?_alloc_lt, s1, c1]) (strs2 (by simp) (by simp) (by simp)) (by omega)).mono ?_
    rintro e w2 ⟨rfl, hb2⟩
    rw [prev_none _ _ (by omega)]
    have hb2 := (hb1.alloc hb1.size _).trans (hb2.mono (by simp; omega))
    clear hb1 c0 c1 s1
    go_wp2_with fail
    refine (of_one _ _ 3 key own _ _ _ [{ data := #[] }, key, { data := #[111, 116, 104, 101, 114] }, key] (by simp; omega) (by simp) (by simp) (strs4 (by simp) (by simp) (by simp) (by simp) (by simp)) (by omega)).mono ?_
    rintro e w3 ⟨rfl, hb3⟩
    rw [step_keyed]
    have hb3 := ((hb2.alloc hb2.size _).alloc (by have := hb2.size; simp; omega) _).trans (hb3.mono (by have := hb2.size; simp; omega))
    clear hb2
    go_wp2_with fail
    refine (keyed_all _ key).mono ?_
    rintro e w4 ⟨rfl, rfl⟩
    go_wp2_with fail
    refine (awake_any w3).mono ?_
    rintro e w5 ⟨rfl, hb5⟩
    have hb5 := hb3.trans (hb5.mono hb3.size)
    go_wp2_with fail
    go_ret
    exact ⟨rfl, hb5⟩
  · go_enter Try.func7, Try.ntmps7
    go_wp2_with fail
    refine (of_one _ _ 2 ({ data := #[] } : ByteArray) own _ _ _ [] (by simp) (by simp) (by simp) (Strs.nil _ _ _) (by omega)).mono ?_
    rintro e w1 ⟨rfl, hb1⟩
    rw [prev_none _ _ (by omega)]
    have c0 : w1.cell? ⟨w.heap.size, 0, none⟩ = some (.int .i64 2) := (hb1.cell (by simp)).trans (by simp)
    have c1 : w1.cell? ⟨w.heap.size, 1, none⟩ = some (.string ({ data := #[] } : ByteArray)) := (hb1.cell (by simp)).trans (by simp)
    have s1 : w.heap.size < w1.heap.size := by have := hb1.size; simp at this; omega
    have hb1 : Below w.heap.size w w1 := ((Below.refl _ _).alloc (Nat.le_refl _) _).trans (hb1.mono (by simp))
    go_wp2_with fail
    refine (of_one _ _ 2 ({ data := #[] } : ByteArray) 15 _ _ _ [key, key] (by simp; omega) (by simp [World.cell?_alloc_lt, s1, c0]) (by simp [World.cell?_alloc_lt, s1, c1]) (strs2 (by simp) (by simp) (by simp)) (by omega)).mono ?_
    rintro e w2 ⟨rfl, hb2⟩
    rw [prev_none _ _ (by omega)]
    have hb2 := (hb1.alloc hb1.size _).trans (hb2.mono (by simp; omega))
    clear hb1 c0 c1 s1
    go_wp2_with fail
    refine (of_one _ _ 3 key own _ _ _ [{ data := #[] }, key, { data := #[111, 116, 104, 101, 114] }, key] (by simp; omega) (by simp) (by simp) (strs4 (by simp) (by simp) (by simp) (by simp) (by simp)) (by omega)).mono ?_
    rintro e w3 ⟨rfl, hb3⟩
    rw [step_keyed]
    have hb3 := ((hb2.alloc hb2.size _).alloc (by have := hb2.size; simp; omega) _).trans (hb3.mono (by have := hb2.size; simp; omega))
    clear hb2
    go_wp2_with fail
    refine (keyed_all _ key).mono ?_
    rintro e w4 ⟨rfl, rfl⟩
    go_wp2_with fail
    refine (awake_any w3).mono ?_
    rintro e w5 ⟨rfl, hb5⟩
    have hb5 := hb3.trans (hb5.mono hb3.size)
    go_wp2_with fail
    go_ret
    exact ⟨rfl, hb5⟩
end Go.Proofs.Ytcpcohkfailmaaa
