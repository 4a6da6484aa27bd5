/- walk of MatchEnds -/
import Derived.Test.YthhgfahlamdgfaaMatch
import Derived.Test.YthhgfahlamdgfaaPlain
namespace Go.Proofs.Ythhgfahlamdgfaa
open Go.RowKit

def beginB (q : ByteArray) : ByteArray := { data := #[94] } ++ q
def endB (q : ByteArray) : ByteArray := q ++ { data := #[36] }
def restB (q : ByteArray) : ByteArray := q ++ { data := #[46, 42] }
theorem beginB_list (q : ByteArray) : (beginB q).data.toList = 94 :: q.data.toList := by unfold beginB; simp [ByteArray.data_append]
theorem endB_list (q : ByteArray) : (endB q).data.toList = q.data.toList ++ [36] := by unfold endB; simp [ByteArray.data_append]
theorem restB_list (q : ByteArray) : (restB q).data.toList = q.data.toList ++ [46, 42] := by unfold restB; simp [ByteArray.data_append]
theorem both_list (a b : ByteArray) : (a ++ b).data.toList = a.data.toList ++ b.data.toList := by simp [ByteArray.data_append]
theorem beginB_size (q : ByteArray) : (beginB q).size = q.size + 1 := by rw [← size_list, beginB_list]; simp
theorem endB_size (q : ByteArray) : (endB q).size = q.size + 1 := by rw [← size_list, endB_list]; simp
theorem restB_size (q : ByteArray) : (restB q).size = q.size + 2 := by rw [← size_list, restB_list]; simp
theorem both_size (a b : ByteArray) : (a ++ b).size = a.size + b.size := by rw [← size_list, both_list, List.length_append, size_list, size_list]

theorem prefix_eq {s t : ByteArray} {r : Bool} (hle : s.size ≤ t.size) (h : r = true ↔ s.size ≤ t.size ∧ t.data.toList.take s.size = s.data.toList) : r = ((t.extract 0 s.size).toList == s.toList) := by
  rw [Bool.eq_iff_iff, h, beq_iff_eq, ByteArray.toList_eq, ByteArray.toList_eq, ByteArray.data_extract, Array.toList_extract, List.extract_eq_take_drop]
  simp [hle]

theorem ends_said {s t : List UInt8} {r1 r2 r3 r4 r5 : Bool} {k1 k2 k3 k4 k5 : Nat} (hs : s.length ≤ 60) (ht : t.length ≤ 60)
    (h1 : Fits [] t false r1 k1) (h2 : Fits (94 :: esc s) (s ++ t) false r2 k2) (h3 : Fits (esc s ++ [36]) (t ++ s) false r3 k3) (h4 : Fits (94 :: esc s) t false r4 k4) (h5 : Fits (esc s ++ [46, 42]) t true r5 k5) :
    k1 = 0 ∧ k2 = 0 ∧ k3 = 0 ∧ k4 = 0 ∧ k5 = 0 ∧ r1 = true ∧ r2 = true ∧ r3 = true ∧ r5 = r4 ∧ (r4 = true ↔ s.length ≤ t.length ∧ t.take s.length = s) := by
  have he := esc_length s
  have a1 := h1.find alone_nil.inside (alone_nil.compiles (by simp)) (by omega)
  have a2 := h2.find (alone_begin s).inside ((alone_begin s).compiles (by simp; omega)) (by simp; omega)
  have a3 := h3.find (alone_end s).inside ((alone_end s).compiles (by simp; omega)) (by simp; omega)
  have a4 := h4.find (alone_begin s).inside ((alone_begin s).compiles (by simp; omega)) (by omega)
  have a5 := h5.whole (alone_rest s).inside ((alone_rest s).compiles (by simp; omega)) (by omega)
  have e4 : r4 = true ↔ Has t 0 s := by
    rw [a4.2]
    constructor
    · rintro ⟨i, j, _, h⟩
      exact (fit_begin.1 h).2.2
    · intro h; exact ⟨0, s.length, Nat.zero_le _, fit_begin.2 ⟨rfl, rfl, h⟩⟩
  have e5 : r5 = true ↔ Has t 0 s := by rw [a5.2, fit_rest]
  refine ⟨a1.1, a2.1, a3.1, a4.1, a5.1, a1.2.2 ⟨0, 0, Nat.zero_le _, fit_nil.2 rfl⟩, a2.2.2 ⟨0, s.length, Nat.zero_le _, fit_begin.2 ⟨rfl, rfl, has_begin s t⟩⟩, a3.2.2 ⟨t.length, (t ++ s).length, by simp, fit_end.2 ⟨rfl, by simp, has_end t s⟩⟩, Bool.eq_iff_iff.2 (e5.trans e4.symm), e4.trans has_take⟩

set_option maxRecDepth 100000 in
set_option maxHeartbeats 4000000 in
theorem ends_law (W : World) (s t : ByteArray) : Calls Try.prog 9 #[.string s, .string t] W fun e W' => e = .returned (.bool true) ∧ Below W.heap.size W W' := by
  by_cases hs : s.size ≤ 60 ∧ t.size ≤ 60
  · obtain ⟨hs, ht⟩ := hs
    go_enter Try.func9, Try.ntmps9
    go_wp2_with fail
    go_loopg [5, 28] s.size (fun q p i wx => ∃ j : Nat, p = .string (escB s j) ∧ i = .int .i64 (j : Int) ∧ q + j = s.size ∧ wx = W)
    case atStart => exact ⟨0, by rw [← escB_zero], rfl, rfl, rfl⟩
    case round =>
      obtain ⟨j, rfl, rfl, hqj, rfl⟩ := hrel
      have z1 : (escB s j).size = 2 * j := escB_size s j (by omega)
      by_cases hj : j < s.size
      · go_wp2_with fail
        go_roundg (gk - 1)
        case measure => omega
        case rel => exact ⟨j + 1, by rw [← escB_more s j hj], by go_num, by omega, rfl⟩
      · obtain rfl : j = s.size := by omega
        have hql := escB_all s
        generalize escB s s.size = q at z1 hql ⊢
        have zb := beginB_size q
        have ze := endB_size q
        have zr := restB_size q
        have zst := both_size s t
        have zts := both_size t s
        go_wp2_with fail
        refine (find_any wr { data := #[] } t (by decide)).mono ?_
        rintro e w1 ⟨r1, k1, hf1, rfl, hb1⟩
        have F1 := Lib.hid hf1
        have B1 := Lib.hid hb1
        clear hf1 hb1
        go_wp2_with fail
        refine (find_any w1 (beginB q) (s ++ t) (by omega)).mono ?_
        rintro e w2 ⟨r2, k2, hf2, rfl, hb2⟩
        rw [beginB_list, hql, both_list] at hf2
        have F2 := Lib.hid hf2
        have B2 := Lib.hid (B1.out.trans (hb2.mono B1.out.size))
        clear hf2 hb2
        go_wp2_with fail
        refine (find_any w2 (endB q) (t ++ s) (by omega)).mono ?_
        rintro e w3 ⟨r3, k3, hf3, rfl, hb3⟩
        rw [endB_list, hql, both_list] at hf3
        have F3 := Lib.hid hf3
        have B3 := Lib.hid (B2.out.trans (hb3.mono B2.out.size))
        clear hf3 hb3
        go_wp2_with fail
        refine (find_any w3 (beginB q) t (by omega)).mono ?_
        rintro e w4 ⟨r4, k4, hf4, rfl, hb4⟩
        rw [beginB_list, hql] at hf4
        have F4 := Lib.hid hf4
        have B4 := Lib.hid (B3.out.trans (hb4.mono B3.out.size))
        clear hf4 hb4
        go_wp2_with fail
        refine (whole_any w4 (restB q) t (by omega)).mono ?_
        rintro e w5 ⟨r5, k5, hf5, rfl, hb5⟩
        rw [restB_list, hql] at hf5
        have B5 := Lib.hid (B4.out.trans (hb5.mono B4.out.size))
        obtain ⟨rfl, rfl, rfl, rfl, rfl, rfl, rfl, rfl, rfl, hr4⟩ := ends_said (by rw [size_list]; exact hs) (by rw [size_list]; exact ht) F1.out F2.out F3.out F4.out hf5
        rw [size_list, size_list] at hr4
        clear hf5 hb5 F1 F2 F3 F4
        have HR := Lib.hid hr4
        clear hr4
        by_cases hle : s.size ≤ t.size
        · have hle' : (s.size : Int) ≤ (t.size : Int) := by omega
          have hx : r5 = ((t.extract 0 s.size).toList == s.toList) := prefix_eq hle HR.out
          go_wp2_with fail
          refine (awake10_any w5).mono ?_
          rintro e w6 ⟨rfl, hb6⟩
          go_wp2_with fail
          go_ret
          exact ⟨rfl, B5.out.trans (hb6.mono B5.out.size)⟩
        · have hle' : (t.size : Int) < (s.size : Int) := by omega
          obtain rfl : r5 = false := by
            cases r5
            · rfl
            · exact absurd (HR.out.1 rfl).1 hle
          go_wp2_with fail
          refine (awake10_any w5).mono ?_
          rintro e w6 ⟨rfl, hb6⟩
          go_wp2_with fail
          go_ret
          exact ⟨rfl, B5.out.trans (hb6.mono B5.out.size)⟩
  · by_cases h1 : s.size ≤ 60
    · have h2 : (60 : Int) < (t.size : Int) := by omega
      go_enter Try.func9, Try.ntmps9
      go_wp2_with fail
      refine (awake10_any W).mono ?_
      rintro e w1 ⟨rfl, hb1⟩
      go_wp2_with fail
      go_ret
      exact ⟨rfl, hb1⟩
    · have h2 : (60 : Int) < (s.size : Int) := by omega
      go_enter Try.func9, Try.ntmps9
      go_wp2_with fail
      refine (awake10_any W).mono ?_
      rintro e w1 ⟨rfl, hb1⟩
      go_wp2_with fail
      go_ret
      exact ⟨rfl, hb1⟩
end Go.Proofs.Ythhgfahlamdgfaa
