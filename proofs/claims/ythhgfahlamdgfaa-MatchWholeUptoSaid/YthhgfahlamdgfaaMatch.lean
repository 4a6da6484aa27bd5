/- Whole, Find; awake: it returns true -/
import Derived.Test.YthhgfahlamdgfaaFits
namespace Go.Proofs.Ythhgfahlamdgfaa
open Go.RowKit

theorem whole_any (w : World) (p t : ByteArray) (hp : p.size ≤ 9223372036854775807) : Calls Try.prog 14 #[.string p, .string t] w fun e w' =>
    ∃ (r : Bool) (k : Nat), Fits p.data.toList t.data.toList true r k ∧ e = .returned (.tuple #[.bool r, .int .i64 (k : Int)]) ∧ Below w.heap.size w w' := by
  go_enter Try.func14, Try.ntmps14
  go_wp2_with fail
  refine (fits_any w p t true hp).mono ?_
  rintro e w1 ⟨r, k, hf, rfl, hb⟩
  go_wp2_with fail
  go_ret2
  exact ⟨r, k, hf, rfl, hb⟩
theorem find_any (w : World) (p t : ByteArray) (hp : p.size ≤ 9223372036854775807) : Calls Try.prog 15 #[.string p, .string t] w fun e w' =>
    ∃ (r : Bool) (k : Nat), Fits p.data.toList t.data.toList false r k ∧ e = .returned (.tuple #[.bool r, .int .i64 (k : Int)]) ∧ Below w.heap.size w w' := by
  go_enter Try.func15, Try.ntmps15
  go_wp2_with fail
  refine (fits_any w p t false hp).mono ?_
  rintro e w1 ⟨r, k, hf, rfl, hb⟩
  go_wp2_with fail
  go_ret2
  exact ⟨r, k, hf, rfl, hb⟩

def stepB : Inst := ⟨1, 2 ^ 98, 0, 0⟩
theorem inside_b : AllInside [stepB] := inside_char _ (Nat.pow_lt_pow_right (by omega) (by omega))
theorem plus_b_said : Compiles [98, 43] (plusOf [stepB] ++ [done]) 0 :=
  .inr ⟨by decide, 12, plusOf [stepB], ⟨[], 0, 0⟩, rfl, .inl ⟨rfl, rfl, rfl, rfl⟩⟩
theorem find_b {r : Bool} {k : Nat} (h : Fits [98, 43] [97, 98, 98, 99] false r k) : r = true ∧ k = 0 := by
  obtain ⟨h1, h2⟩ := h.find (inside_plus inside_b) plus_b_said (by decide)
  refine ⟨h2.2 ⟨1, 2, by decide, (fit_plus inside_b).2 ⟨2, fit_char.2 ⟨rfl, 98, rfl, by decide⟩, .refl _⟩⟩, h1⟩
theorem whole_b {r : Bool} {k : Nat} (h : Fits [98, 43] [97, 98, 98, 99] true r k) : r = false ∧ k = 0 := by
  obtain ⟨h1, h2⟩ := h.whole (inside_plus inside_b) plus_b_said (by decide)
  refine ⟨?_, h1⟩
  cases r
  · rfl
  · obtain ⟨m, h3, _⟩ := (fit_plus inside_b).1 (h2.1 rfl)
    obtain ⟨_, c, hc, h4⟩ := fit_char.1 h3
    injection hc with hc
    subst hc
    exact absurd h4 (by decide)

set_option maxHeartbeats 1000000 in
theorem awake10_any (w : World) : Calls Try.prog 13 #[] w fun e w' => e = .returned (.bool true) ∧ Below w.heap.size w w' := by
  go_enter Try.func13, Try.ntmps13
  go_wp2_with fail
  refine (find_any w { data := #[98, 43] } { data := #[97, 98, 98, 99] } (by decide)).mono ?_
  rintro e w1 ⟨r1, k1, hf1, rfl, hb1⟩
  obtain ⟨rfl, rfl⟩ := find_b hf1
  go_wp2_with fail
  refine (whole_any w1 { data := #[98, 43] } { data := #[97, 98, 98, 99] } (by decide)).mono ?_
  rintro e w2 ⟨r2, k2, hf2, rfl, hb2⟩
  obtain ⟨rfl, rfl⟩ := whole_b hf2
  have hB := hb1.trans (hb2.mono hb1.size)
  clear hf1 hf2 hb1 hb2
  go_wp2_with fail
  go_ret
  exact ⟨rfl, hB⟩
end Go.Proofs.Ythhgfahlamdgfaa
