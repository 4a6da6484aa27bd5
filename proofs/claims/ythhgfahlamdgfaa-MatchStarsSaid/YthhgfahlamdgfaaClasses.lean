/- walk of RegexClasses -/
import Derived.Test.YthhgfahlamdgfaaPlain
import Derived.Laws.IdiomStrings
namespace Go.Proofs.Ythhgfahlamdgfaa
open Go.RowKit

def headB (n : Bool) : ByteArray := if n = true then { data := #[91] } ++ { data := #[94] } else { data := #[91] }

def oneB (c : UInt8) : ByteArray := ⟨#[c]⟩
theorem conv_one (w : World) (g : Nat) (hg : g = w.heap.size) (c : UInt8) :
    (convert 35 9 (.slice (some ⟨g, 0, none⟩) 1 1)).run Try.prog (w.alloc (Obj.cells #[.int .u8 (c.toNat : Int)] 5)) = .ok (.string (oneB c)) (w.alloc (Obj.cells #[.int .u8 (c.toNat : Int)] 5)) := by
  subst hg
  refine run_convert_bytes_back _ 35 9 5 ⟨w.heap.size, 0, none⟩ 1 [c] Try.underlying35 Try.underlying5 Try.underlying9 ?_
  intro j hj
  obtain rfl : j = 0 := by simp at hj; omega
  exact World.cell?_alloc_mark w _ 5 (0, 0) 0

def clsB (a b : UInt8) (n : Bool) : ByteArray := headB n ++ { data := #[92] } ++ oneB a ++ { data := #[45, 92] } ++ oneB b ++ { data := #[93] }
theorem clsB_list (a b : UInt8) (n : Bool) : (clsB a b n).data.toList = clsText a b n := by
  unfold clsB clsText headB oneB
  cases n <;> simp [ByteArray.data_append]

theorem bit_cond (a b : UInt8) (n : Bool) (j : Nat) (hj : j < 256) :
    (!((bits .and .u64 ((word (clsSet a b n) (j / 64) : Int) / 2 ^ (j % 64)) 1 == 1) == !((decide (a.toNat ≤ j) && decide (j ≤ b.toNat)) == n))) = false := by
  have hw := word_lt (clsSet a b n) (j / 64)
  have h64 : (2 : Nat) ^ 64 = 18446744073709551616 := by decide
  have e1 : ((word (clsSet a b n) (j / 64) : Int) / 2 ^ (j % 64)) = ((word (clsSet a b n) (j / 64) / 2 ^ (j % 64) : Nat) : Int) := by
    rw [Int.natCast_ediv, Int.natCast_pow]; rfl
  have hlt : word (clsSet a b n) (j / 64) / 2 ^ (j % 64) < 2 ^ 64 := Nat.lt_of_le_of_lt (Nat.div_le_self _ _) hw
  have e2 := u64_and_nat (word (clsSet a b n) (j / 64) / 2 ^ (j % 64)) 1 (by omega) (by omega)
  have e3 : (word (clsSet a b n) (j / 64)).testBit (j % 64) = ((decide (a.toNat ≤ j) && decide (j ≤ b.toNat)) != n) := by
    rw [word_bit, show 64 * (j / 64) + j % 64 = j by omega, cls_bit a b n j hj]
    simp [Nat.mod_lt]
  rw [Nat.testBit_eq_decide_div_mod_eq] at e3
  rw [e1, show (1 : Int) = ((1 : Nat) : Int) from rfl, e2, Nat.and_one_is_mod]
  have e4 : ((((word (clsSet a b n) (j / 64) / 2 ^ (j % 64) % 2 : Nat) : Int)) == ((1 : Nat) : Int)) = ((decide (a.toNat ≤ j) && decide (j ≤ b.toNat)) != n) := by
    rw [← e3, Bool.eq_iff_iff, beq_iff_eq, decide_eq_true_eq]; omega
  rw [e4]
  cases (decide (a.toNat ≤ j) && decide (j ≤ b.toNat)) <;> cases n <;> rfl

set_option maxRecDepth 100000 in
set_option maxHeartbeats 2000000 in
theorem classes_u (W : World) (a b : UInt8) (n : Bool) : Calls Try.prog 6 #[.int .u8 (a.toNat : Int), .int .u8 (b.toNat : Int), .bool n] W fun e W' => e = .returned (.bool true) ∧ Below W.heap.size W W' := by
  have ha := a.toNat_lt
  have hb := b.toNat_lt
  go_enter Try.func6, Try.ntmps6
  go_upto_if 12 with fail
  go_cut [7] (fun s wx => s = .string (headB n) ∧ wx = W)
  case first =>
    cases n
    · go_wp2_with fail
      go_meet
      exact ⟨rfl, rfl⟩
    · go_wp2_with fail
      go_meet
      exact ⟨rfl, rfl⟩
  case rest =>
    obtain ⟨rfl, rfl⟩ := hcut
    have z1 : (headB n).size ≤ 2 := by cases n <;> decide
    have z2 : (oneB a).size = 1 := rfl
    have z3 : (oneB b).size = 1 := rfl
    have k1 := conv_one wc _ rfl a
    have k2 := conv_one (wc.alloc (Obj.cells #[.int .u8 (a.toNat : Int)] 5)) (wc.heap.size + 1) (by simp) b
    have zc : (clsB a b n).size ≤ 10 := by rw [← size_list, clsB_list]; unfold clsText; cases n <;> simp
    go_wp2_with fail
    refine (compile_reads _ (clsB a b n) (by omega)).mono ?_
    rintro e w1 ⟨x, k, A1, c1, hc1, rfl, hr1, hb1⟩
    rw [clsB_list] at hc1
    have hb0 : Below wc.heap.size wc w1 := (((Below.refl wc.heap.size wc).alloc (Nat.le_refl _) _).alloc (by simp) _).trans (hb1.mono (by simp; omega))
    by_cases hab : b < a
    · obtain ⟨rfl, rfl⟩ := hc1.one (cls_bad a b n hab)
      have hlt : (b.toNat : Int) < (a.toNat : Int) := by have := UInt8.lt_iff_toNat_lt.1 hab; omega
      have HB := Lib.hid hb0
      clear hc1 hr1 hb1 hb0 k1 k2
      go_wp2_with fail
      refine (awake_any w1).mono ?_
      rintro e w5 ⟨rfl, hb5⟩
      go_wp2_with fail
      go_ret
      exact ⟨rfl, HB.out.trans (hb5.mono HB.out.size)⟩
    · obtain ⟨rfl, rfl⟩ := hc1.one (cls_ok a b n hab)
      have hlt : (a.toNat : Int) ≤ (b.toNat : Int) := by have := mt UInt8.lt_iff_toNat_lt.2 hab; omega
      have HB := Lib.hid hb0
      rw [show ([clsStep a b n, done] : List Inst).length = 2 from rfl] at hr1 ⊢
      obtain ⟨bl, o, rfl, hbl, hcell⟩ := Reads.inst hr1 (show 0 < 2 by omega)
      have d0 : w1.cell? ⟨bl, o, none⟩ = some (.int .i64 1) := hcell 0 (by omega)
      have dset : ∀ q, q < 4 → w1.cell? ⟨bl, o + 1 + q, none⟩ = some (.int .u64 (word (clsSet a b n) q : Int)) := by
        intro q hq
        have h := hcell (1 + q) (by omega)
        rw [Nat.zero_mul, Nat.add_zero, ← Nat.add_assoc] at h
        rw [h]
        have hq4 : q = 0 ∨ q = 1 ∨ q = 2 ∨ q = 3 := by omega
        rcases hq4 with rfl | rfl | rfl | rfl <;> rfl
      clear hc1 hr1 hb1 hb0 k1 k2 hcell
      have HS := Lib.hid dset
      clear dset
      go_wp2_with fail
      go_loopg [53] 256 (fun q i wx => ∃ j : Nat, i = .int .i64 (j : Int) ∧ q + j = 256 ∧ wx = w1)
      case atStart => exact ⟨0, rfl, rfl, rfl⟩
      case round =>
        obtain ⟨j, rfl, hqj, rfl⟩ := hrel
        by_cases hj : j < 256
        · have hsj := HS.out (j / 64) (by omega)
          go_upto_region 12 with fail
          go_cut [10, 11, 53] (fun u v i wx => u = .int .i64 (j : Int) ∧ v = .bool (decide (a.toNat ≤ j) && decide (j ≤ b.toNat)) ∧ i = .int .i64 (j : Int) ∧ wx = wr)
          case first =>
            by_cases h1 : a.toNat ≤ j
            · have h1' : (a.toNat : Int) ≤ (j : Int) := by omega
              go_wp2_with fail
              go_meet
              exact ⟨rfl, by simp [h1], rfl, rfl⟩
            · have h1' : (j : Int) < (a.toNat : Int) := by omega
              go_wp2_with fail
              go_meet
              exact ⟨rfl, by simp [h1], rfl, rfl⟩
          case rest =>
            obtain ⟨rfl, rfl, rfl, rfl⟩ := hcut
            have hcond := bit_cond a b n j hj
            go_wp2_with fail
            go_roundg (gk - 1)
            case measure => omega
            case rel => exact ⟨j + 1, by go_num, by omega, rfl⟩
        · go_wp2_with fail
          refine (awake_any _).mono ?_
          rintro e w5 ⟨rfl, hb5⟩
          go_wp2_with fail
          go_ret
          exact ⟨rfl, HB.out.trans (hb5.mono HB.out.size)⟩

theorem wf_u8 {a : Int} (h : (Lit.int .u8 a).wf = true) : 0 ≤ a ∧ a < 256 := by
  rw [Lit.wf, Bool.and_eq_true, decide_eq_true_eq, decide_eq_true_eq] at h
  have h1 : IntKind.u8.min = 0 := rfl
  have h2 : IntKind.u8.max = 255 := rfl
  rw [h1, h2] at h
  omega
theorem classes_any (W : World) (a b : Int) (n : Bool) (ha : (Lit.int .u8 a).wf = true) (hb : (Lit.int .u8 b).wf = true) : Calls Try.prog 6 #[.int .u8 a, .int .u8 b, .bool n] W fun e W' => e = .returned (.bool true) ∧ Below W.heap.size W W' := by
  have ha := wf_u8 ha
  have hb := wf_u8 hb
  obtain ⟨x, hx⟩ : ∃ x : UInt8, (x.toNat : Int) = a := ⟨UInt8.ofNat a.toNat, by rw [UInt8.toNat_ofNat']; omega⟩
  obtain ⟨y, hy⟩ : ∃ y : UInt8, (y.toNat : Int) = b := ⟨UInt8.ofNat b.toNat, by rw [UInt8.toNat_ofNat']; omega⟩
  subst hx hy
  exact classes_u W x y n
end Go.Proofs.Ythhgfahlamdgfaa
