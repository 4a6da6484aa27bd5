/- walk of MatchSums -/
import Derived.Test.YthhgfahlamdgfaaMatch
namespace Go.Proofs.Ythhgfahlamdgfaa
open Go.RowKit

def maybeText (a : ByteArray) : ByteArray := { data := #[40] } ++ a ++ { data := #[41, 63] }
theorem maybeText_list (a : ByteArray) : (maybeText a).data.toList = 40 :: (a.data.toList ++ [41, 63]) := by
  unfold maybeText
  simp [ByteArray.data_append]
theorem maybeText_size (a : ByteArray) : (maybeText a).size = a.size + 3 := by
  rw [← size_list, maybeText_list]; simp

/-- what is asked of the four answers -/
theorem sums_said {p q s : List UInt8} {r1 r2 r3 r4 : Bool} {k3 k4 : Nat} (hl : p.length + q.length ≤ 120) (hs : s.length ≤ 60)
    (h1 : Fits p s true r1 0) (h2 : Fits q s true r2 0) (h3 : Fits (40 :: (p ++ 41 :: 124 :: 40 :: (q ++ [41]))) s true r3 k3) (h4 : Fits (40 :: (p ++ [41, 63])) [] true r4 k4) :
    (k3 = 0 ∨ k3 = 4) ∧ (k3 = 0 → r3 = (r1 || r2)) ∧ (k4 = 0 → r4 = true) := by
  rcases h1.cases (by omega) with ⟨h, _⟩ | ⟨_, x, hx, hcx⟩
  · exact absurd rfl h
  rcases h2.cases (by omega) with ⟨h, _⟩ | ⟨_, y, hy, hcy⟩
  · exact absurd rfl h
  obtain ⟨_, f1⟩ := h1.whole hx.inside hcx (by omega)
  obtain ⟨_, f2⟩ := h2.whole hy.inside hcy (by omega)
  refine ⟨?_, ?_, ?_⟩
  · rcases pairs hx hy (by omega) with ⟨q1, _⟩ | q1
    · exact .inl (h3.whole (either_inside hx.inside hy.inside) q1 (by omega)).1
    · exact .inr (h3.bad q1 (by decide) (by omega)).1
  · intro hk
    rcases pairs hx hy (by omega) with ⟨q1, _⟩ | q1
    · obtain ⟨_, f3⟩ := h3.whole (either_inside hx.inside hy.inside) q1 (by omega)
      rw [fit_either hx.inside hy.inside, ← f1, ← f2, ← Bool.or_eq_true] at f3
      exact Bool.eq_iff_iff.2 f3
    · have := (h3.bad q1 (by decide) (by omega)).1
      omega
  · intro hk
    rcases maybe_said hx (by omega) with q1 | q1
    · obtain ⟨_, f4⟩ := h4.whole (inside_maybe hx.inside) q1 (by simp)
      rw [fit_maybe hx.inside] at f4
      exact f4.2 (.inl rfl)
    · have := (h4.bad q1 (by decide) (by simp)).1
      omega

set_option maxRecDepth 100000 in
set_option maxHeartbeats 2000000 in
theorem sums_any (W : World) (p q s : ByteArray) (hp : p.size ≤ 1048576) (hq : q.size ≤ 1048576) : Calls Try.prog 8 #[.string p, .string q, .string s] W fun e W' => e = .returned (.bool true) ∧ Below W.heap.size W W' := by
  have hw : wrap64 ((p.size : Int) + (q.size : Int)) = (p.size : Int) + (q.size : Int) := by unfold wrap64; omega
  by_cases hs : p.size + q.size ≤ 120 ∧ s.size ≤ 60
  · obtain ⟨hs1, hs2⟩ := hs
    have z1 := altText_size p q
    have z2 := maybeText_size p
    go_enter Try.func8, Try.ntmps8
    go_wp2_with fail
    refine (whole_any W p s (by omega)).mono ?_
    rintro e w1 ⟨r1, k1, hf1, rfl, hb1⟩
    go_wp2_with fail
    refine (whole_any w1 q s (by omega)).mono ?_
    rintro e w2 ⟨r2, k2, hf2, rfl, hb2⟩
    have hB2 := hb1.trans (hb2.mono hb1.size)
    by_cases h1 : k1 = 0
    · by_cases h2 : k2 = 0
      · subst h1 h2
        have F1 := Lib.hid hf1
        have F2 := Lib.hid hf2
        have B2 := Lib.hid hB2
        clear hf1 hf2 hb1 hb2 hB2
        go_wp2_with fail
        refine (whole_any w2 (altText p q) s (by omega)).mono ?_
        rintro e w3 ⟨r3, k3, hf3, rfl, hb3⟩
        have F3 := Lib.hid hf3
        have B3 := Lib.hid (B2.out.trans (hb3.mono B2.out.size))
        clear hf3 hb3
        go_wp2_with fail
        refine (whole_any w3 (maybeText p) { data := #[] } (by omega)).mono ?_
        rintro e w4 ⟨r4, k4, hf4, rfl, hb4⟩
        have B4 := Lib.hid (B3.out.trans (hb4.mono B3.out.size))
        have f3 := F3.out
        rw [altText_list] at f3
        rw [maybeText_list] at hf4
        obtain ⟨g1, g2, g3⟩ := sums_said (by rw [size_list, size_list]; omega) (by rw [size_list]; omega) F1.out F2.out f3 hf4
        clear f3 hf4 hb4
        by_cases h3 : k3 = 0
        · by_cases h4 : k4 = 0
          · subst h3 h4
            obtain rfl := g2 rfl
            obtain rfl := g3 rfl
            clear g1 g2 g3
            cases r1 <;> cases r2
            all_goals
              go_wp2_with fail
              refine (awake10_any w4).mono ?_
              rintro e w5 ⟨rfl, hb5⟩
              go_wp2_with fail
              go_ret
              exact ⟨rfl, B4.out.trans (hb5.mono B4.out.size)⟩
          · subst h3
            have hn := neq_of h4
            clear g1 g2 g3
            go_wp2_with fail
            refine (awake10_any w4).mono ?_
            rintro e w5 ⟨rfl, hb5⟩
            go_wp2_with fail
            go_ret
            exact ⟨rfl, B4.out.trans (hb5.mono B4.out.size)⟩
        · obtain rfl : k3 = 4 := by omega
          clear g1 g2 g3
          go_wp2_with fail
          refine (awake10_any w4).mono ?_
          rintro e w5 ⟨rfl, hb5⟩
          go_wp2_with fail
          go_ret
          exact ⟨rfl, B4.out.trans (hb5.mono B4.out.size)⟩
      · subst h1
        have hn := neq_of h2
        clear hf1 hf2 hb1 hb2
        go_wp2_with fail
        refine (awake10_any w2).mono ?_
        rintro e w5 ⟨rfl, hb5⟩
        go_wp2_with fail
        go_ret
        exact ⟨rfl, hB2.trans (hb5.mono hB2.size)⟩
    · have hn := neq_of h1
      clear hf1 hf2 hb1 hb2
      go_wp2_with fail
      refine (awake10_any w2).mono ?_
      rintro e w5 ⟨rfl, hb5⟩
      go_wp2_with fail
      go_ret
      exact ⟨rfl, hB2.trans (hb5.mono hB2.size)⟩
  · by_cases h1 : p.size + q.size ≤ 120
    · have h2 : (60 : Int) < (s.size : Int) := by omega
      go_enter Try.func8, Try.ntmps8
      go_wp2_with fail
      refine (awake10_any W).mono ?_
      rintro e w1 ⟨rfl, hb1⟩
      go_wp2_with fail
      go_ret
      exact ⟨rfl, hb1⟩
    · have h2 : (120 : Int) < (p.size : Int) + (q.size : Int) := by omega
      go_enter Try.func8, Try.ntmps8
      go_wp2_with fail
      refine (awake10_any W).mono ?_
      rintro e w1 ⟨rfl, hb1⟩
      go_wp2_with fail
      go_ret
      exact ⟨rfl, hb1⟩
end Go.Proofs.Ythhgfahlamdgfaa
