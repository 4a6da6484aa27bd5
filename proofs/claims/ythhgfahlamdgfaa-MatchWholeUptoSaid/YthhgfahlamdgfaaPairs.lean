/- walk of RegexPairs -/
import Derived.Test.YthhgfahlamdgfaaAwake
import Derived.Test.YthhgfahlamdgfaaRules
namespace Go.Proofs.Ythhgfahlamdgfaa
open Go.RowKit

def altText (a b : ByteArray) : ByteArray := { data := #[40] } ++ a ++ { data := #[41, 124, 40] } ++ b ++ { data := #[41] }
def seqText (a b : ByteArray) : ByteArray := { data := #[40] } ++ a ++ { data := #[41, 40] } ++ b ++ { data := #[41] }
theorem altText_list (a b : ByteArray) : (altText a b).data.toList = 40 :: (a.data.toList ++ 41 :: 124 :: 40 :: (b.data.toList ++ [41])) := by
  unfold altText
  simp [ByteArray.data_append]
theorem seqText_list (a b : ByteArray) : (seqText a b).data.toList = 40 :: (a.data.toList ++ 41 :: 40 :: (b.data.toList ++ [41])) := by
  unfold seqText
  simp [ByteArray.data_append]
theorem size_list (a : ByteArray) : a.data.toList.length = a.size := by simp
theorem altText_size (a b : ByteArray) : (altText a b).size = a.size + b.size + 5 := by
  rw [← size_list, altText_list]; simp; omega
theorem seqText_size (a b : ByteArray) : (seqText a b).size = a.size + b.size + 4 := by
  rw [← size_list, seqText_list]; simp; omega

/-- so many steps at most -/
theorem parse_lt {a : List UInt8} {x : List Inst} (h : Alone a x) : x.length ≤ 3 * a.length + 3 := by
  obtain ⟨d, f, hf⟩ := h
  have := (parse_bound hf (by omega)).2.1
  simp only [room] at this
  simp at this
  omega
theorem neq_of {k : Nat} (h : k ≠ 0) : ((k : Int) != 0) = true := by rw [bne_iff_ne]; omega
theorem below4 {w w1 w2 w3 w4 : World} (h1 : Below w.heap.size w w1) (h2 : Below w1.heap.size w1 w2) (h3 : Below w2.heap.size w2 w3) (h4 : Below w3.heap.size w3 w4) : Below w.heap.size w w4 := by
  have a1 := h1.size
  have a2 := h2.size
  have a3 := h3.size
  exact ((h1.trans (h2.mono a1)).trans (h3.mono (by omega))).trans (h4.mono (by omega))

set_option maxHeartbeats 2000000 in
theorem pairs_any (W : World) (a b : ByteArray) (ha : a.size ≤ 1048576) (hb : b.size ≤ 1048576) : Calls Try.prog 4 #[.string a, .string b] W fun e W' => e = .returned (.bool true) ∧ Below W.heap.size W W' := by
  have hw : wrap64 ((a.size : Int) + (b.size : Int)) = (a.size : Int) + (b.size : Int) := by unfold wrap64; omega
  by_cases hs : a.size + b.size ≤ 200
  · go_enter Try.func4, Try.ntmps4
    go_wp2_with fail
    refine (compile_reads W a (by omega)).mono ?_
    rintro e w1 ⟨x, k1, A1, c1, hc1, rfl, hr1, hb1⟩
    go_wp2_with fail
    refine (compile_reads w1 b (by omega)).mono ?_
    rintro e w2 ⟨y, k2, A2, c2, hc2, rfl, hr2, hb2⟩
    go_wp2_with fail
    refine (compile_reads w2 (altText a b) (by rw [altText_size]; omega)).mono ?_
    rintro e w3 ⟨z, k3, A3, c3, hc3, rfl, hr3, hb3⟩
    go_wp2_with fail
    refine (compile_reads w3 (seqText a b) (by rw [seqText_size]; omega)).mono ?_
    rintro e w4 ⟨v, k4, A4, c4, hc4, rfl, hr4, hb4⟩
    have hB := Lib.hid (below4 hb1 hb2 hb3 hb4)
    rw [altText_list] at hc3
    rw [seqText_list] at hc4
    by_cases h1 : k1 = 0
    · by_cases h2 : k2 = 0
      · by_cases h3 : k3 = 4
        · subst h1 h2 h3
          clear hc1 hc2 hc3 hc4 hr1 hr2 hr3 hr4 hb1 hb2 hb3 hb4
          go_wp2_with fail
          refine (awake_any w4).mono ?_
          rintro e w5 ⟨rfl, hb5⟩
          go_wp2_with fail
          go_ret
          exact ⟨rfl, hB.out.trans (hb5.mono hB.out.size)⟩
        · subst h1 h2
          obtain ⟨x0, rfl, hx, _⟩ := hc1.alone
          obtain ⟨y0, rfl, hy, _⟩ := hc2.alone
          rcases pairs hx hy (by rw [size_list, size_list]; omega) with ⟨q1, q2⟩ | q
          · obtain ⟨rfl, rfl⟩ := hc3.one q1
            obtain ⟨rfl, rfl⟩ := hc4.one q2
            have l1 : (x0 ++ [done]).length = x0.length + 1 := by simp
            have l2 : (y0 ++ [done]).length = y0.length + 1 := by simp
            have l3 : (either x0 y0 ++ [done]).length = x0.length + y0.length + 3 := by simp [either, moved_length]; omega
            have l4 : (x0 ++ moved y0 x0.length ++ [done]).length = x0.length + y0.length + 1 := by simp [moved_length]; omega
            have b1 := (parse_lt hx)
            have b2 := (parse_lt hy)
            rw [l3] at hr3
            have hr4' := hr3.below hb4
            obtain ⟨bl, o, rfl, _, hcell⟩ := Reads.inst hr4' (show 0 < x0.length + y0.length + 3 by omega)
            have c0 : w4.cell? ⟨bl, o, none⟩ = some (.int .i64 2) := hcell 0 (by omega)
            rw [l1, l2, l3, l4]
            clear hc1 hc2 hc3 hc4 hr1 hr2 hr3 hr4 hr4' hb1 hb2 hb3 hb4 hcell q1 q2 hx hy l1 l2 l3 l4
            go_wp2_with fail
            refine (awake_any w4).mono ?_
            rintro e w5 ⟨rfl, hb5⟩
            go_wp2_with fail
            go_ret
            exact ⟨rfl, hB.out.trans (hb5.mono hB.out.size)⟩
          · exact absurd (hc3.one q).2 h3
      · subst h1
        have hn := neq_of h2
        clear hc1 hc2 hc3 hc4 hr1 hr2 hr3 hr4 hb1 hb2 hb3 hb4
        go_wp2_with fail
        refine (awake_any w4).mono ?_
        rintro e w5 ⟨rfl, hb5⟩
        go_wp2_with fail
        go_ret
        exact ⟨rfl, hB.out.trans (hb5.mono hB.out.size)⟩
    · have hn := neq_of h1
      clear hc1 hc2 hc3 hc4 hr1 hr2 hr3 hr4 hb1 hb2 hb3 hb4
      go_wp2_with fail
      refine (awake_any w4).mono ?_
      rintro e w5 ⟨rfl, hb5⟩
      go_wp2_with fail
      go_ret
      exact ⟨rfl, hB.out.trans (hb5.mono hB.out.size)⟩
  · go_enter Try.func4, Try.ntmps4
    go_wp2_with fail
    refine (awake_any W).mono ?_
    rintro e w1 ⟨rfl, hb1⟩
    go_wp2_with fail
    go_ret
    exact ⟨rfl, hb1⟩
end Go.Proofs.Ythhgfahlamdgfaa
