/- walk of MatchStars -/
import Derived.Test.YthhgfahlamdgfaaMatch
import Derived.Test.YthhgfahlamdgfaaClasses
namespace Go.Proofs.Ythhgfahlamdgfaa
open Go.RowKit

theorem stars_wrap (n : Int) : ∃ m : Nat, m < 60 ∧ IntKind.i64.wrap ((IntKind.u64.wrap n).tmod 60) = (m : Int) := by
  have h0 : 0 ≤ IntKind.u64.wrap n := by rw [IntKind.wrap_u64]; omega
  refine ⟨((IntKind.u64.wrap n) % 60).toNat, by omega, ?_⟩
  rw [Int.tmod_eq_emod_of_nonneg h0]
  have e : (((IntKind.u64.wrap n) % 60).toNat : Int) = (IntKind.u64.wrap n) % 60 := Int.toNat_of_nonneg (by omega)
  rw [e]
  exact IntWalk.i64_in _ (by omega)

def litB (c : UInt8) : ByteArray := { data := #[92] } ++ oneB c
def litStar (c : UInt8) : ByteArray := litB c ++ { data := #[42] }
def litPlus (c : UInt8) : ByteArray := litB c ++ { data := #[43] }
def litMaybe (c : UInt8) : ByteArray := litB c ++ { data := #[63] }
def litTwice (c : UInt8) : ByteArray := { data := #[40] } ++ litB c ++ litB c ++ { data := #[41, 42] }
theorem litB_list (c : UInt8) : (litB c).data.toList = [92, c] := by unfold litB oneB; simp [ByteArray.data_append]
theorem litB_size (c : UInt8) : (litB c).size = 2 := by rw [← size_list, litB_list]; rfl
theorem litStar_list (c : UInt8) : (litStar c).data.toList = [92, c, 42] := by unfold litStar; simp [ByteArray.data_append, litB_list]
theorem litPlus_list (c : UInt8) : (litPlus c).data.toList = [92, c, 43] := by unfold litPlus; simp [ByteArray.data_append, litB_list]
theorem litMaybe_list (c : UInt8) : (litMaybe c).data.toList = [92, c, 63] := by unfold litMaybe; simp [ByteArray.data_append, litB_list]
theorem litTwice_list (c : UInt8) : (litTwice c).data.toList = [40, 92, c, 92, c, 41, 42] := by unfold litTwice; simp [ByteArray.data_append, litB_list]
theorem litStar_size (c : UInt8) : (litStar c).size = 3 := by rw [← size_list, litStar_list]; rfl
theorem litPlus_size (c : UInt8) : (litPlus c).size = 3 := by rw [← size_list, litPlus_list]; rfl
theorem litMaybe_size (c : UInt8) : (litMaybe c).size = 3 := by rw [← size_list, litMaybe_list]; rfl
theorem litTwice_size (c : UInt8) : (litTwice c).size = 7 := by rw [← size_list, litTwice_list]; rfl
theorem repB_one (n : Nat) (c : UInt8) : repB n c ++ oneB c = repB (n + 1) c := repB_more n c

theorem stars_said {n : Nat} {c : UInt8} {r1 r2 r3 r4 : Bool} {k1 k2 k3 k4 : Nat} (hn : n < 60) (h1 : Fits [92, c, 42] (rep n c) true r1 k1) (h2 : Fits [92, c, 43] (rep n c) true r2 k2) (h3 : Fits [92, c, 63] (rep n c) true r3 k3) (h4 : Fits [40, 92, c, 92, c, 41, 42] (rep n c) true r4 k4) :
    k1 = 0 ∧ k2 = 0 ∧ k3 = 0 ∧ k4 = 0 ∧ r1 = true ∧ r2 = decide (0 < n) ∧ r3 = decide (n < 2) ∧ r4 = decide (n % 2 = 0) := by
  have hl := rep_length n c
  have a1 := h1.whole (inside_star (inside_lit c)) ((alone_lit_star c).compiles (by simp)) (by omega)
  have a2 := h2.whole (inside_plus (inside_lit c)) ((alone_lit_plus c).compiles (by simp)) (by omega)
  have a3 := h3.whole (inside_maybe (inside_lit c)) ((alone_lit_maybe c).compiles (by simp)) (by omega)
  have a4 := h4.whole (inside_star (lits_inside [c, c])) ((alone_twice c).compiles (by simp)) (by omega)
  rw [hl] at a1 a2 a3 a4
  rw [plus_rep] at a2
  rw [maybe_rep] at a3
  rw [twice_rep] at a4
  refine ⟨a1.1, a2.1, a3.1, a4.1, a1.2.2 star_rep, ?_, ?_, ?_⟩
  · rw [Bool.eq_iff_iff, decide_eq_true_eq]; exact a2.2
  · rw [Bool.eq_iff_iff, decide_eq_true_eq]; exact a3.2
  · rw [Bool.eq_iff_iff, decide_eq_true_eq]; exact a4.2

set_option maxRecDepth 100000 in
set_option maxHeartbeats 4000000 in
theorem stars_u (W : World) (n : Int) (c : UInt8) : Calls Try.prog 10 #[.int .i64 n, .int .u8 (c.toNat : Int)] W fun e W' => e = .returned (.bool true) ∧ Below W.heap.size W W' := by
  obtain ⟨m, hm, hmw⟩ := stars_wrap n
  go_enter Try.func10, Try.ntmps10
  go_wp2_with fail
  go_loopg [5, 20] m (fun q a i wx => ∃ j : Nat, a = .string (repB j c) ∧ i = .int .i64 (j : Int) ∧ q + j = m ∧ Below W.heap.size W wx)
  case atStart => exact ⟨0, by rw [← repB_zero], rfl, rfl, Below.refl _ _⟩
  case round =>
    obtain ⟨j, rfl, rfl, hqj, hb⟩ := hrel
    have z1 := repB_size j c
    have zo : (oneB c).size = 1 := rfl
    have HB := Lib.hid hb
    clear hb
    have k1 := conv_one wr _ rfl c
    by_cases hj : j < m
    · go_wp2_with fail
      go_roundg (gk - 1)
      case measure => omega
      case rel => exact ⟨j + 1, by rw [← repB_one], by go_num, by omega, HB.out.alloc HB.out.size _⟩
    · obtain rfl : j = m := by omega
      have HB1 := Lib.hid (HB.out.alloc HB.out.size (Obj.cells #[.int .u8 (c.toNat : Int)] 5))
      have zl := litB_size c
      go_upto_region 8 with fail
      rw [show ({ data := #[92] } : ByteArray) ++ oneB c = litB c from rfl]
      generalize wr.alloc (Obj.cells #[.int .u8 (c.toNat : Int)] 5) = w0 at HB1 ⊢
      clear k1
      go_wp2_with fail
      refine (whole_any w0 (litStar c) (repB j c) (by rw [litStar_size]; omega)).mono ?_
      rintro e w1 ⟨r1, k1, hf1, rfl, hb1⟩
      rw [litStar_list, repB_list] at hf1
      have F1 := Lib.hid hf1
      have B1 := Lib.hid (HB1.out.trans (hb1.mono HB1.out.size))
      clear hf1 hb1
      go_wp2_with fail
      refine (whole_any w1 (litPlus c) (repB j c) (by rw [litPlus_size]; omega)).mono ?_
      rintro e w2 ⟨r2, k2, hf2, rfl, hb2⟩
      rw [litPlus_list, repB_list] at hf2
      have F2 := Lib.hid hf2
      have B2 := Lib.hid (B1.out.trans (hb2.mono B1.out.size))
      clear hf2 hb2
      go_wp2_with fail
      refine (whole_any w2 (litMaybe c) (repB j c) (by rw [litMaybe_size]; omega)).mono ?_
      rintro e w3 ⟨r3, k3, hf3, rfl, hb3⟩
      rw [litMaybe_list, repB_list] at hf3
      have F3 := Lib.hid hf3
      have B3 := Lib.hid (B2.out.trans (hb3.mono B2.out.size))
      clear hf3 hb3
      go_wp2_with fail
      refine (whole_any w3 (litTwice c) (repB j c) (by rw [litTwice_size]; omega)).mono ?_
      rintro e w4 ⟨r4, k4, hf4, rfl, hb4⟩
      rw [litTwice_list, repB_list] at hf4
      have B4 := Lib.hid (B3.out.trans (hb4.mono B3.out.size))
      obtain ⟨rfl, rfl, rfl, rfl, rfl, rfl, rfl, rfl⟩ := stars_said hm F1.out F2.out F3.out hf4
      clear hf4 hb4
      have g1 : (decide (0 < j) == decide ((0 : Int) < (j : Int))) = true := by
        rw [beq_iff_eq, decide_eq_decide]; omega
      have g2 : (decide (j < 2) == decide ((j : Int) < 2)) = true := by
        rw [beq_iff_eq, decide_eq_decide]; omega
      have g3 : decide (j % 2 = 0) = ((j : Int) % 2 == 0) := by
        rw [Bool.eq_iff_iff, decide_eq_true_eq, beq_iff_eq]; omega
      clear F1 F2 F3
      go_wp2_with fail
      refine (awake10_any w4).mono ?_
      rintro e w5 ⟨rfl, hb5⟩
      go_wp2_with fail
      go_ret
      exact ⟨rfl, B4.out.trans (hb5.mono B4.out.size)⟩

theorem stars_any (W : World) (n a : Int) (ha : (Lit.int .u8 a).wf = true) : Calls Try.prog 10 #[.int .i64 n, .int .u8 a] W fun e W' => e = .returned (.bool true) ∧ Below W.heap.size W W' := by
  have ha := wf_u8 ha
  obtain ⟨x, hx⟩ : ∃ x : UInt8, (x.toNat : Int) = a := ⟨UInt8.ofNat a.toNat, by rw [UInt8.toNat_ofNat']; omega⟩
  subst hx
  exact stars_u W n x
end Go.Proofs.Ythhgfahlamdgfaa
