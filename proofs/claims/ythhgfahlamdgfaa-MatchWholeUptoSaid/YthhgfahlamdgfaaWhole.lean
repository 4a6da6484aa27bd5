/- walk of MatchWhole -/
import Derived.Test.YthhgfahlamdgfaaMatch
import Derived.Test.YthhgfahlamdgfaaEnds
namespace Go.Proofs.Ythhgfahlamdgfaa
open Go.RowKit

def wrapText (p : ByteArray) : ByteArray := { data := #[94, 40] } ++ p ++ { data := #[41, 36] }
theorem wrapText_list (p : ByteArray) : (wrapText p).data.toList = 94 :: 40 :: (p.data.toList ++ [41, 36]) := by unfold wrapText; simp [ByteArray.data_append]
theorem wrapText_size (p : ByteArray) : (wrapText p).size = p.size + 4 := by rw [← size_list, wrapText_list]; simp

def tailX (s : ByteArray) : ByteArray := s ++ { data := #[120] }
theorem tailX_list (s : ByteArray) : (tailX s).data.toList = s.data.toList ++ [120] := by unfold tailX; simp [ByteArray.data_append]
theorem tailX_size (s : ByteArray) : (tailX s).size = s.size + 1 := by rw [← size_list, tailX_list]; simp
def threeT (t s : ByteArray) : ByteArray := t ++ s ++ t
theorem threeT_list (t s : ByteArray) : (threeT t s).data.toList = t.data.toList ++ s.data.toList ++ t.data.toList := by unfold threeT; simp [ByteArray.data_append]

theorem whole_said {p s : List UInt8} {r1 r2 r3 : Bool} {k1 k2 k3 : Nat} (hp : p.length ≤ 200) (hs : s.length ≤ 100)
    (h1 : Fits p s true r1 k1) (h2 : Fits (94 :: 40 :: (p ++ [41, 36])) s false r2 k2) (h3 : Fits p s false r3 k3) : k3 = k1 ∧ (k1 ≠ 0 → r1 = false) ∧ (k1 = 0 → k2 = 0 → r2 = r1) ∧ (r1 = true → r3 = true) := by
  rcases h1.cases (by omega) with ⟨hk, hr, hc⟩ | ⟨rfl, x, hx, hc⟩
  · have := h3.bad hc hk (by omega)
    exact ⟨this.1, fun _ => hr, fun h => absurd h hk, fun h => by rw [hr] at h; cases h⟩
  · have a1 := h1.whole hx.inside hc (by omega)
    have a3 := h3.find hx.inside hc (by omega)
    refine ⟨a3.1, fun h => absurd rfl h, fun _ hk2 => ?_, fun h => a3.2.2 ⟨0, s.length, Nat.zero_le _, a1.2.1 h⟩⟩
    rcases wrap_said hx (by omega) with q | q
    · have a2 := h2.find (inside_wrap hx.inside) q (by omega)
      rw [Bool.eq_iff_iff, a2.2, a1.2]
      constructor
      · rintro ⟨i, j, _, h⟩; exact ((fit_wrap hx.inside).1 h).2.2
      · intro h; exact ⟨0, s.length, Nat.zero_le _, (fit_wrap hx.inside).2 ⟨rfl, rfl, h⟩⟩
    · have := (h2.bad q (by decide) (by omega)).1
      omega

theorem itself_said {s t : List UInt8} {r1 r2 r3 : Bool} {k1 k2 k3 : Nat} (hs : s.length + t.length ≤ 100) (h1 : Fits (esc s) (t ++ s ++ t) false r1 k1) (h2 : Fits (esc s) s true r2 k2) (h3 : Fits (esc s) (s ++ [120]) true r3 k3) :
    r1 = true ∧ k1 = 0 ∧ r2 = true ∧ k2 = 0 ∧ r3 = false ∧ k3 = 0 := by
  have hc := (alone_esc s).compiles (by rw [esc_length]; omega)
  have a1 := h1.find (lits_inside s) hc (by simp; omega)
  have a2 := h2.whole (lits_inside s) hc (by omega)
  have a3 := h3.whole (lits_inside s) hc (by simp; omega)
  refine ⟨a1.2.2 ⟨t.length, t.length + s.length, by simp, fit_lits.2 ⟨rfl, has_mid t s t⟩⟩, a1.1, a2.2.2 (fit_lits.2 ⟨(Nat.zero_add _).symm, has_self s⟩), a2.1, ?_, a3.1⟩
  cases hr : r3
  · rfl
  · have := (fit_lits.1 (a3.2.1 hr)).1
    simp at this

set_option maxRecDepth 100000 in
set_option maxHeartbeats 4000000 in
theorem wholes_any (W : World) (p s t : ByteArray) (hp : p.size ≤ 1048576) (hs : s.size ≤ 1048576) (ht : t.size ≤ 1048576) : Calls Try.prog 7 #[.string p, .string s, .string t] W fun e W' => e = .returned (.bool true) ∧ Below W.heap.size W W' := by
  have hw : wrap64 ((s.size : Int) + (t.size : Int)) = (s.size : Int) + (t.size : Int) := by unfold wrap64; omega
  by_cases hl : p.size ≤ 200 ∧ s.size + t.size ≤ 100
  · obtain ⟨hl1, hl2⟩ := hl
    have zw := wrapText_size p
    go_enter Try.func7, Try.ntmps7
    go_wp2_with fail
    refine (whole_any W p s (by omega)).mono ?_
    rintro e w1 ⟨r1, k1, hf1, rfl, hb1⟩
    have F1 := Lib.hid hf1
    have B1 := Lib.hid hb1
    clear hf1 hb1
    go_wp2_with fail
    refine (find_any w1 (wrapText p) s (by omega)).mono ?_
    rintro e w2 ⟨r2, k2, hf2, rfl, hb2⟩
    rw [wrapText_list] at hf2
    have F2 := Lib.hid hf2
    have B2 := Lib.hid (B1.out.trans (hb2.mono B1.out.size))
    clear hf2 hb2
    go_wp2_with fail
    refine (find_any w2 p s (by omega)).mono ?_
    rintro e w3 ⟨r3, k3, hf3, rfl, hb3⟩
    have B3 := Lib.hid (B2.out.trans (hb3.mono B2.out.size))
    obtain ⟨rfl, g1, g2, g3⟩ := whole_said (by rw [size_list]; exact hl1) (by rw [size_list]; omega) F1.out F2.out hf3
    clear hf3 hb3 F1 F2
    go_upto_region 6 with fail
    go_cut [75] (fun v wx => v = .bool false ∧ wx = w3)
    case first =>
      by_cases h1 : k3 = 0
      · subst h1
        by_cases h2 : k2 = 0
        · subst h2
          obtain rfl := g2 rfl rfl
          cases r2
          · go_wp2_with fail
            go_meet
            exact ⟨rfl, rfl⟩
          · obtain rfl := g3 rfl
            go_wp2_with fail
            go_meet
            exact ⟨rfl, rfl⟩
        · have h2' : ((k2 : Int) == 0) = false := by rw [beq_eq_false_iff_ne]; omega
          cases r1
          · clear g1 g2 g3
            go_wp2_with fail
            go_meet
            exact ⟨rfl, rfl⟩
          · obtain rfl := g3 rfl
            clear g1 g2
            go_wp2_with fail
            go_meet
            exact ⟨rfl, rfl⟩
      · have h1' : ((k3 : Int) == 0) = false := by rw [beq_eq_false_iff_ne]; omega
        obtain rfl := g1 h1
        clear g1 g2 g3
        go_wp2_with fail
        go_meet
        exact ⟨rfl, rfl⟩
    case rest =>
      obtain ⟨rfl, rfl⟩ := hcut
      clear g1 g2 g3
      go_wp2_with fail
      go_loopg [13, 78] s.size (fun q u i wx => ∃ j : Nat, u = .string (escB s j) ∧ i = .int .i64 (j : Int) ∧ q + j = s.size ∧ wx = wc)
      case atStart => exact ⟨0, by rw [← escB_zero], rfl, rfl, rfl⟩
      case round =>
        obtain ⟨j, rfl, rfl, hqj, rfl⟩ := hrel
        have z1 : (escB s j).size = 2 * j := escB_size s j (by omega)
        by_cases hj : j < s.size
        · go_wp2_with fail
          go_roundg (gk - 1)
          case measure => omega
          case rel => exact ⟨j + 1, by rw [← escB_more s j hj], by go_num, by omega, rfl⟩
        · obtain rfl : j = s.size := by omega
          have hql := escB_all s
          generalize escB s s.size = q at z1 hql ⊢
          have zts := both_size t s
          have ztst := both_size (t ++ s) t
          have zx := tailX_size s
          go_wp2_with fail
          refine (find_any wr q (threeT t s) (by omega)).mono ?_
          rintro e w4 ⟨r4, k4, hf4, rfl, hb4⟩
          rw [hql, threeT_list] at hf4
          have F4 := Lib.hid hf4
          have B4 := Lib.hid (B3.out.trans (hb4.mono B3.out.size))
          clear hf4 hb4
          go_wp2_with fail
          refine (whole_any w4 q s (by omega)).mono ?_
          rintro e w5 ⟨r5, k5, hf5, rfl, hb5⟩
          rw [hql] at hf5
          have F5 := Lib.hid hf5
          have B5 := Lib.hid (B4.out.trans (hb5.mono B4.out.size))
          clear hf5 hb5
          go_wp2_with fail
          refine (whole_any w5 q (tailX s) (by omega)).mono ?_
          rintro e w6 ⟨r6, k6, hf6, rfl, hb6⟩
          rw [hql, tailX_list] at hf6
          have B6 := Lib.hid (B5.out.trans (hb6.mono B5.out.size))
          obtain ⟨rfl, rfl, rfl, rfl, rfl, rfl⟩ := itself_said (by rw [size_list, size_list]; exact hl2) F4.out F5.out hf6
          clear hf6 hb6 F4 F5
          go_wp2_with fail
          refine (awake10_any w6).mono ?_
          rintro e w7 ⟨rfl, hb7⟩
          go_wp2_with fail
          go_ret
          exact ⟨rfl, B6.out.trans (hb7.mono B6.out.size)⟩
  · by_cases h1 : p.size ≤ 200
    · have h2 : (100 : Int) < (s.size : Int) + (t.size : Int) := by omega
      go_enter Try.func7, Try.ntmps7
      go_wp2_with fail
      refine (awake10_any W).mono ?_
      rintro e w1 ⟨rfl, hb1⟩
      go_wp2_with fail
      go_ret
      exact ⟨rfl, hb1⟩
    · have h2 : (200 : Int) < (p.size : Int) := by omega
      go_enter Try.func7, Try.ntmps7
      go_wp2_with fail
      refine (awake10_any W).mono ?_
      rintro e w1 ⟨rfl, hb1⟩
      go_wp2_with fail
      go_ret
      exact ⟨rfl, hb1⟩
end Go.Proofs.Ythhgfahlamdgfaa
