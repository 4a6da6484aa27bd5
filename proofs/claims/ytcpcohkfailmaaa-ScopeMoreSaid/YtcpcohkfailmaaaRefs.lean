/- walks of the reference's functions (under way) -/
import Derived.Test.YtcpcohkfailmaaaWalks
namespace Go.Proofs.Ytcpcohkfailmaaa
open Go.RowKit

set_option maxHeartbeats 1000000 in
theorem rof_any (w : World) (A : Option Addr) (n c : Nat) (l : List (Int × ByteArray)) (own : Int) (K : Option Addr) (m d : Nat) (keys : List ByteArray)
    (hl : Scps w w.heap.size A n l) (hk : Strs w w.heap.size K m keys) (hn : n ≤ 1000000) (hm : m ≤ 140737488351232) :
    Calls Try.prog 11 #[.slice A n c, .int .i64 own, .slice K m d] w fun e w' => e = .returned (.int .u32 (ofMask l own keys n : Nat)) ∧ Below w.heap.size w w' := by
  go_enter Try.func11, Try.ntmps11
  go_wp2
  go_loopw [7, 14] (fun o i wr => ∃ k : Nat, k ≤ n ∧ i = .int .i64 k ∧ o = .int .u32 (ofMask l own keys k : Nat) ∧ Below w.heap.size w wr) (fun _ i _ => n - (intOf i).toNat)
  case atStart => exact ⟨0, Nat.zero_le _, rfl, rfl, Below.refl _ _⟩
  case round =>
    obtain ⟨k, hkn, rfl, rfl, hb⟩ := hrel
    have hM := ofMask_lt l own keys k
    by_cases hlt : k < n
    · obtain ⟨b, off, rfl, hbl, hc⟩ := hl.2 (by omega)
      obtain ⟨c1, c2⟩ := hc k hlt
      have hcell1 := (hb.cell (p := ⟨b, off + k * 2, none⟩) (by exact hbl)).trans c1
      have hcell2 := (hb.cell (p := ⟨b, off + k * 2 + 1, none⟩) (by exact hbl)).trans c2
      clear c1 c2 hc
      generalize hs : l.getD k (0, ByteArray.empty) = s at hcell1 hcell2
      obtain ⟨kind, key⟩ := s
      have HS := Lib.hid hs
      clear hs
      simp only at hcell1 hcell2
      by_cases h1 : kind = 1
      · subst h1
        go_wp2
        go_roundw
        case rel => exact ⟨k + 1, by omega, by go_num, or_val (b := 1) (lt16 hM) (by decide) rfl (by rw [ofMask_succ HS.out, step_one]), hb.alloc hb.size _⟩
        case measure => simp [intOf]; omega
      · by_cases h2 : kind = 2
        · subst h2
          by_cases h3 : 1 ≤ own ∧ own < 8
          · obtain ⟨h3, h4⟩ := h3
            have hbd := bitI_bd (i := own) (by omega)
            go_wp2
            go_roundw
            case rel => exact ⟨k + 1, by omega, by go_num, or_val (lt16 hM) (step_prev key keys h3 h4 ▸ lt16 (stepMask_lt 2 key own keys)) (two_pow_sub_mod (by omega)) (by rw [ofMask_succ HS.out, step_prev _ _ h3 h4]), hb.alloc hb.size _⟩
            case measure => simp [intOf]; omega
          · have h0 := step_prev_no key keys h3
            have H0 := Lib.hid h0
            clear h0
            go_wp2
            all_goals go_roundw
            all_goals first | exact ⟨k + 1, by omega, by go_num, val_eq (by rw [ofMask_succ HS.out, H0.out, Nat.or_zero]), hb.alloc hb.size _⟩ | (simp [intOf]; omega)
        · by_cases h3 : kind = 3
          · subst h3
            obtain ⟨wo, hwo⟩ : ∃ wo : World, wo = wr := ⟨_, rfl⟩
            subst hwo
            have hbelow := hb.alloc hb.size (Obj.cells #[Value.int IntKind.i64 3, Value.string key] 33)
            go_wp2
            go_loopw [7, 42] (fun o i wi => ∃ j : Nat, j ≤ m ∧ i = .int .i64 j ∧ o = .int .u32 ((ofMask l own keys k ||| refMask key keys j : Nat) : Int) ∧ Below w.heap.size w wi ∧
                wi.cell? ⟨wo.heap.size, 0, none⟩ = some (.int .i64 3) ∧ wi.cell? ⟨wo.heap.size, 1, none⟩ = some (.string key)) (fun _ i _ => m - (intOf i).toNat)
            case atStart => exact ⟨0, Nat.zero_le _, rfl, by simp [refMask_zero], hbelow, by simp, by simp⟩
            case round =>
              obtain ⟨j, hj, rfl, rfl, hbi, x1, x2⟩ := hrel
              have hJ := or_lt hM (refMask_lt key keys j)
              by_cases hjm : j < m
              · obtain ⟨bk, offk, rfl, hbk, hck⟩ := hk.2 (by omega)
                have ck := (hbi.cell (p := ⟨bk, offk + j, none⟩) (by exact hbk)).trans (hck j (by omega))
                clear hck
                generalize hs : keys.getD j ByteArray.empty = kj at ck
                have HJ := Lib.hid hs
                clear hs
                by_cases hj8 : j < 8
                · by_cases hne : kj.toList.isEmpty = true
                  · go_wp2
                    go_roundw
                    case rel => exact ⟨j + 1, by omega, by go_num, val_eq (by rw [refMask_empty hj8 HJ.out hne]), hbi, x1, x2⟩
                    case measure => simp [intOf]; omega
                  · have hne' : kj.toList.isEmpty = false := by simpa using hne
                    by_cases hy : (kj.toList == key.toList) = true
                    · go_wp2
                      go_roundw
                      case rel => exact ⟨j + 1, by omega, by go_num, or_val (lt16 hJ) (lt16 (Nat.pow_lt_pow_right (by omega) (by omega))) (two_pow_mod (by omega)) (by rw [refMask_yes hj8 HJ.out hne' hy, Nat.or_assoc]), hbi, x1, x2⟩
                      case measure => simp [intOf]; omega
                    · have hy' : (kj.toList == key.toList) = false := by simpa using hy
                      go_wp2
                      go_roundw
                      case rel => exact ⟨j + 1, by omega, by go_num, val_eq (by rw [refMask_no hj8 HJ.out hy']), hbi, x1, x2⟩
                      case measure => simp [intOf]; omega
                · have h8 : 8 ≤ j := by omega
                  go_wp2
                  go_roundw
                  case rel => exact ⟨j + 1, by omega, by go_num, val_eq (by rw [refMask_past h8]), hbi, x1, x2⟩
                  case measure => simp [intOf]; omega
              · obtain rfl : j = m := by omega
                have hfin : ofMask l own keys k ||| refMask key keys j = ofMask l own keys (k + 1) := by
                  rw [ofMask_succ HS.out, step_ref, hk.1]
                have HF := Lib.hid hfin
                clear hfin
                go_wp2
                go_roundw
                case rel => exact ⟨k + 1, by omega, by go_num, val_eq HF.out, hbi⟩
                case measure => simp [intOf]; omega
          · go_wp2
            go_roundw
            case rel => exact ⟨k + 1, by omega, by go_num, val_eq (by rw [ofMask_succ HS.out, step_other _ _ _ h1 h2 h3, Nat.or_zero]), hb.alloc hb.size _⟩
            case measure => simp [intOf]; omega
    · obtain rfl : k = n := by omega
      go_wp2
      go_ret
      exact ⟨rfl, hb⟩

end Go.Proofs.Ytcpcohkfailmaaa
