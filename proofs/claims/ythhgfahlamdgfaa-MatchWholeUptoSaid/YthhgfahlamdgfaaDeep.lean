/- walk of RegexDeep -/
import Derived.Test.YthhgfahlamdgfaaAwake
import Derived.Test.YthhgfahlamdgfaaPairs
import Derived.Test.YthhgfahlamdgfaaDeepLaw
import Derived.Deep.DeepCutAuto
import Derived.Deep.LoopGhost
namespace Go.Proofs.Ythhgfahlamdgfaa
open Go.RowKit

def repB (n : Nat) (c : UInt8) : ByteArray := ⟨(rep n c).toArray⟩
theorem repB_list (n : Nat) (c : UInt8) : (repB n c).data.toList = rep n c := by unfold repB; simp
theorem ba_ext {a b : ByteArray} (h : a.data.toList = b.data.toList) : a = b := by
  cases a; cases b; simp at h; rw [h]
theorem repB_zero (c : UInt8) : ({ data := #[] } : ByteArray) = repB 0 c := ba_ext (by rw [repB_list]; rfl)
theorem repB_more (n : Nat) (c : UInt8) : repB n c ++ { data := #[c] } = repB (n + 1) c := ba_ext (by
  rw [ByteArray.data_append, Array.toList_append, repB_list, repB_list]
  unfold rep
  rw [List.replicate_succ'])
theorem repB_size (n : Nat) (c : UInt8) : (repB n c).size = n := by rw [← size_list, repB_list, rep_length]

def deepText (n : Nat) : ByteArray := repB n 40 ++ { data := #[97] } ++ repB n 41
def shutText (n : Nat) : ByteArray := repB n 40 ++ { data := #[97] } ++ repB n 41 ++ { data := #[41] }
def openText (n : Nat) : ByteArray := repB n 40 ++ { data := #[97] }
theorem deepText_list (n : Nat) : (deepText n).data.toList = rep n 40 ++ 97 :: rep n 41 := by
  unfold deepText; simp [ByteArray.data_append, repB_list]
theorem shutText_list (n : Nat) : (shutText n).data.toList = rep n 40 ++ 97 :: (rep n 41 ++ [41]) := by
  unfold shutText; simp [ByteArray.data_append, repB_list]
theorem openText_list (n : Nat) : (openText n).data.toList = rep n 40 ++ [97] := by
  unfold openText; simp [ByteArray.data_append, repB_list]
theorem deepText_size (n : Nat) : (deepText n).size = n + n + 1 := by rw [← size_list, deepText_list]; simp [rep_length]; omega
theorem shutText_size (n : Nat) : (shutText n).size = n + n + 2 := by rw [← size_list, shutText_list]; simp [rep_length]; omega
theorem openText_size (n : Nat) : (openText n).size = n + 1 := by rw [← size_list, openText_list]; simp [rep_length]

theorem below3 {w w1 w2 w3 : World} (h1 : Below w.heap.size w w1) (h2 : Below w1.heap.size w1 w2) (h3 : Below w2.heap.size w2 w3) : Below w.heap.size w w3 := by
  have a1 := h1.size
  have a2 := h2.size
  exact (h1.trans (h2.mono a1)).trans (h3.mono (by omega))

theorem deep_wrap (n : Int) : ∃ m : Nat, m < 30 ∧ IntKind.i64.wrap ((IntKind.u64.wrap n).tmod 30) = (m : Int) := by
  have h0 : 0 ≤ IntKind.u64.wrap n := by rw [IntKind.wrap_u64]; omega
  refine ⟨((IntKind.u64.wrap n) % 30).toNat, by omega, ?_⟩
  rw [Int.tmod_eq_emod_of_nonneg h0]
  have e : (((IntKind.u64.wrap n) % 30).toNat : Int) = (IntKind.u64.wrap n) % 30 := Int.toNat_of_nonneg (by omega)
  rw [e]
  exact IntWalk.i64_in _ (by omega)

set_option maxHeartbeats 2000000 in
theorem deep_any (W : World) (n : Int) (o : Bool) : Calls Try.prog 5 #[.int .i64 n, .bool o] W fun e W' => e = .returned (.bool true) ∧ Below W.heap.size W W' := by
  obtain ⟨m, hm, hmw⟩ := deep_wrap n
  go_enter Try.func5, Try.ntmps5
  go_wp2_with fail
  go_loopg [5, 6, 18] m (fun q a b i wx => ∃ j : Nat, a = .string (repB j 40) ∧ b = .string (repB j 41) ∧ i = .int .i64 (j : Int) ∧ q + j = m ∧ wx = W)
  case atStart => exact ⟨0, by rw [← repB_zero], by rw [← repB_zero], rfl, rfl, rfl⟩
  case round =>
    obtain ⟨j, rfl, rfl, rfl, hqj, rfl⟩ := hrel
    have z1 := repB_size j 40
    have z2 := repB_size j 41
    by_cases hj : j < m
    · go_wp2_with fail
      go_roundg (gk - 1)
      case measure => omega
      case rel => exact ⟨j + 1, by rw [← repB_more], by rw [← repB_more], by go_num, by omega, rfl⟩
    · obtain rfl : j = m := by omega
      have zd := deepText_size j
      have zs := shutText_size j
      have zo := openText_size j
      by_cases h20 : 20 < j
      · have h20' : (20 : Int) < (j : Int) := by omega
        go_wp2_with fail
        refine (compile_reads wr (deepText j) (by omega)).mono ?_
        rintro e w1 ⟨x, k1, A1, c1, hc1, rfl, hr1, hb1⟩
        rw [deepText_list] at hc1
        obtain ⟨rfl, rfl⟩ := hc1.one (deep_over j h20 hm)
        have hB := Lib.hid hb1
        clear hc1 hr1 hb1
        go_wp2_with fail
        refine (awake_any w1).mono ?_
        rintro e w5 ⟨rfl, hb5⟩
        go_wp2_with fail
        go_ret
        exact ⟨rfl, hB.out.trans (hb5.mono hB.out.size)⟩
      · have h20' : (j : Int) ≤ 20 := by omega
        go_wp2_with fail
        refine (compile_reads wr (deepText j) (by omega)).mono ?_
        rintro e w1 ⟨x, k1, A1, c1, hc1, rfl, hr1, hb1⟩
        rw [deepText_list] at hc1
        obtain ⟨rfl, rfl⟩ := hc1.one (deep_said j (by omega)).1
        go_wp2_with fail
        refine (compile_reads w1 (shutText j) (by omega)).mono ?_
        rintro e w2 ⟨y, k2, A2, c2, hc2, rfl, hr2, hb2⟩
        rw [shutText_list] at hc2
        obtain ⟨rfl, rfl⟩ := hc2.one (deep_said j (by omega)).2
        go_wp2_with fail
        refine (compile_reads w2 (openText j) (by omega)).mono ?_
        rintro e w3 ⟨z, k3, A3, c3, hc3, rfl, hr3, hb3⟩
        rw [openText_list] at hc3
        obtain ⟨x3, k4, hx3, hk4⟩ := deep_left j (by omega)
        obtain ⟨rfl, rfl⟩ := hc3.one hx3
        have hB := Lib.hid (below3 hb1 hb2 hb3)
        have heq : ((((k3 : Int) == 0) == ((j : Int) == 0)) : Bool) = true := by
          rw [beq_iff_eq, Bool.eq_iff_iff, beq_iff_eq, beq_iff_eq]; omega
        clear hc1 hr1 hb1 hc2 hr2 hb2 hc3 hr3 hb3 hx3 hk4
        go_wp2_with fail
        refine (awake_any w3).mono ?_
        rintro e w5 ⟨rfl, hb5⟩
        go_wp2_with fail
        go_ret
        exact ⟨rfl, hB.out.trans (hb5.mono hB.out.size)⟩
end Go.Proofs.Ythhgfahlamdgfaa
