/- walk of RegexPlain -/
import Derived.Test.YthhgfahlamdgfaaAwake
import Derived.Test.YthhgfahlamdgfaaPairs
import Derived.Test.YthhgfahlamdgfaaDeep
import Derived.Test.YthhgfahlamdgfaaGraph
import Derived.Deep.DeepCutAuto
import Derived.Deep.LoopGhost
import Derived.BigQuiet
import Derived.Laws.StructEq
namespace Go.Proofs.Ythhgfahlamdgfaa
open Go.RowKit

def escB (a : ByteArray) (i : Nat) : ByteArray := ⟨(esc (a.data.toList.take i)).toArray⟩
theorem escB_list (a : ByteArray) (i : Nat) : (escB a i).data.toList = esc (a.data.toList.take i) := by unfold escB; simp

theorem escB_zero (a : ByteArray) : ({ data := #[] } : ByteArray) = escB a 0 := ba_ext (by rw [escB_list]; rfl)
theorem escB_size (a : ByteArray) (j : Nat) (h : j ≤ a.size) : (escB a j).size = 2 * j := by
  rw [← size_list, escB_list, esc_length, List.length_take, size_list]; omega
theorem one_list (a : ByteArray) (j : Nat) (h : j < a.size) : (a.extract j (j + 1)).data.toList = [a[j]] := by
  have hl : j < a.data.toList.length := by rw [size_list]; exact h
  rw [ByteArray.data_extract, Array.toList_extract, List.extract_eq_take_drop, show j + 1 - j = 1 by omega, List.drop_eq_getElem_cons hl]
  rfl
theorem escB_more (a : ByteArray) (j : Nat) (h : j < a.size) : escB a j ++ ({ data := #[92] } ++ a.extract j (j + 1)) = escB a (j + 1) := ba_ext (by
  have hl : j < a.data.toList.length := by rw [size_list]; exact h
  rw [ByteArray.data_append, Array.toList_append, escB_list, ByteArray.data_append, Array.toList_append, one_list a j h, escB_list, List.take_succ_eq_append_getElem hl, esc_append]
  rfl)
theorem escB_all (a : ByteArray) : (escB a a.size).data.toList = esc a.data.toList := by
  rw [escB_list, List.take_of_length_le (by rw [size_list]; exact Nat.le_refl _)]

def wordsI (m : Nat) : List Value := [.int .u64 (word m 0 : Int), .int .u64 (word m 1 : Int), .int .u64 (word m 2 : Int), .int .u64 (word m 3 : Int)]

theorem word_pow (c j : Nat) : word (2 ^ c) j = if c / 64 = j then 2 ^ (c % 64) else 0 := by
  have e : 2 ^ c = 0 ||| 2 ^ c := (Nat.zero_or _).symm
  rw [e]
  split
  · rename_i h; rw [word_same h, word_zero, Nat.zero_or]
  · rename_i h; rw [word_other h, word_zero]
theorem wrap_pow (c : Nat) : IntKind.u64.wrap (2 ^ (c % 64)) = ((2 ^ (c % 64) : Nat) : Int) := by
  have hp : 2 ^ (c % 64) < 2 ^ 64 := Nat.pow_lt_pow_right (by omega) (Nat.mod_lt _ (by omega))
  have h64 : (2 : Nat) ^ 64 = 18446744073709551616 := by decide
  rw [show (2 : Int) ^ (c % 64) = ((2 ^ (c % 64) : Nat) : Int) by rw [Int.natCast_pow]; rfl, IntKind.wrap_u64]
  generalize 2 ^ (c % 64) = z at hp
  omega
theorem words_set {w : World} {g c k : Nat} (h : Blk w g 28 #[.int .u64 0, .int .u64 0, .int .u64 0, .int .u64 0]) (hk : c / 64 = k) (hk4 : k < 4) :
    Blk ((w.setCell ⟨g, k, none⟩ (.int .u64 (IntKind.u64.wrap (2 ^ (c % 64))))).drew) g 28 (wordsI (2 ^ c)).toArray := by
  have := (h.set_ k (.int .u64 (IntKind.u64.wrap (2 ^ (c % 64))))).drew
  rw [wrap_pow] at this ⊢
  unfold wordsI
  rw [word_pow, word_pow, word_pow, word_pow, hk]
  have hq : k = 0 ∨ k = 1 ∨ k = 2 ∨ k = 3 := by omega
  rcases hq with rfl | rfl | rfl | rfl <;> simpa using this

theorem below_drewN {B : Nat} {a w : World} (h : Below B a w) (n : Nat) : Below B a (w.drewN n) := ⟨h.os, h.tape, h.output, h.size, h.block⟩
theorem eq28 (a b c d : Int) (w : World) : (Op.equalIn 10000 28 (.agg #[.int .u64 a, .int .u64 b, .int .u64 c, .int .u64 d]) (.agg #[.int .u64 a, .int .u64 b, .int .u64 c, .int .u64 d])).run Try.prog w = .ok true w := by
  have u3 := Try.underlying27
  have a3 := Try.isAgg27
  have z3 := Try.sizeOf27
  rw [show (10000 : Nat) = 9999 + 1 from rfl, Op.equalIn]
  simp only [Sem.run_bind, run_underlying Try.underlying28, Result.andThen_ok]
  simp only [Std.Legacy.Range.forIn_eq_forIn_range', Std.Legacy.Range.size, Nat.sub_zero, Nat.add_sub_cancel, Nat.div_one, List.range'_succ, List.range'_zero, List.forIn_cons, List.forIn_nil]
  go_simp
theorem neq28 (a b c d : Int) (w : World) : (binOp .neq 28 (.agg #[.int .u64 a, .int .u64 b, .int .u64 c, .int .u64 d]) (.agg #[.int .u64 a, .int .u64 b, .int .u64 c, .int .u64 d])).run Try.prog w = .ok (.bool false) w := by
  rw [run_neq_struct, eq28]; rfl
theorem guard28 (x y : Operand) (xs ys : Array Value) (w : World) : (eqGuard .neq 28 x y (.agg xs) (.agg ys)).run Try.prog w = .ok () w := run_eqGuard_agg w _ _ _ _ _ _ (by kernel_rfl)

set_option maxHeartbeats 2000000 in
theorem plain_any (W : World) (a : ByteArray) : Calls Try.prog 3 #[.string a] W fun e W' => e = .returned (.bool true) ∧ Below W.heap.size W W' := by
  by_cases hs : a.size ≤ 100
  · go_enter Try.func3, Try.ntmps3
    go_wp2_with fail
    go_loopg [3, 15] a.size (fun q p i wx => ∃ j : Nat, p = .string (escB a j) ∧ i = .int .i64 (j : Int) ∧ q + j = a.size ∧ wx = W)
    case atStart => exact ⟨0, by rw [← escB_zero], rfl, rfl, rfl⟩
    case round =>
      obtain ⟨j, rfl, rfl, hqj, rfl⟩ := hrel
      have z1 : (escB a j).size = 2 * j := escB_size a j (by omega)
      by_cases hj : j < a.size
      · go_wp2_with fail
        go_roundg (gk - 1)
        case measure => omega
        case rel => exact ⟨j + 1, by rw [← escB_more a j hj], by go_num, by omega, rfl⟩
      · obtain rfl : j = a.size := by omega
        go_wp2_with fail
        refine (compile_reads wr (escB a a.size) (by omega)).mono ?_
        rintro e w1 ⟨x, k1, A1, c1, hc1, rfl, hr1, hb1⟩
        rw [escB_all] at hc1
        obtain ⟨rfl, rfl⟩ := hc1.one (plain_said _ (by rw [size_list]; exact hs))
        have hl : (lits a.data.toList ++ [done]).length = a.size + 1 := by simp [lits_length]
        rw [hl] at hr1 ⊢
        have HR := Lib.hid hr1
        have HB := Lib.hid hb1
        clear hr1 hb1 hc1 hl
        go_wp2_with fail
        go_loopg [44] a.size (fun q i wx => ∃ j : Nat, i = .int .i64 (j : Int) ∧ q + j = a.size ∧ Below w1.heap.size w1 wx)
        case atStart => exact ⟨0, rfl, rfl, Below.refl _ _⟩
        case round =>
          obtain ⟨j, rfl, hqj, hbx⟩ := hrel
          have HX := Lib.hid hbx
          clear hbx
          by_cases hj : j < a.size
          · have hj' : (j : Int) < (a.size : Int) := by omega
            go_upto_region 16 with fail
            obtain ⟨c, hc, hcl⟩ : ∃ c : Nat, (a[j].toNat : Int) = (c : Int) ∧ c < 256 := ⟨_, rfl, a[j].toNat_lt⟩
            have hwa := Blk.new wr 28 #[.int .u64 0, .int .u64 0, .int .u64 0, .int .u64 0]
            have hba : Below w1.heap.size w1 (wr.alloc (Obj.cells #[.int .u64 0, .int .u64 0, .int .u64 0, .int .u64 0] 28)) := HX.out.alloc HX.out.size _
            have hsz := HX.out.size
            generalize hg : wr.heap.size = g at hwa hsz
            generalize (wr.alloc (Obj.cells #[.int .u64 0, .int .u64 0, .int .u64 0, .int .u64 0] 28)) = wa at hwa hba
            go_cut [7, 8, 44] (fun u v i wx => u = .int .i64 (j : Int) ∧ v = .pointer (some ⟨g, 0, none⟩) ∧ i = .int .i64 (j : Int) ∧ Blk wx g 28 (wordsI (2 ^ c)).toArray ∧ Below w1.heap.size w1 wx)
            case first =>
              have hq : c / 64 = 0 ∨ c / 64 = 1 ∨ c / 64 = 2 ∨ c / 64 = 3 := by omega
              have f0 := hwa.frozen 0
              have f1 := hwa.frozen 1
              have f2 := hwa.frozen 2
              have f3 := hwa.frozen 3
              have c0 : wa.cell? ⟨g, 0, none⟩ = some (.int .u64 0) := by simpa using hwa.cell 0
              have c1' : wa.cell? ⟨g, 1, none⟩ = some (.int .u64 0) := by simpa using hwa.cell 1
              have c2 : wa.cell? ⟨g, 2, none⟩ = some (.int .u64 0) := by simpa using hwa.cell 2
              have c3 : wa.cell? ⟨g, 3, none⟩ = some (.int .u64 0) := by simpa using hwa.cell 3
              have HW := Lib.hid hwa
              have HBA := Lib.hid hba
              have HG := Lib.hid hg
              have hd : (a[j].toNat : Int) / 64 = ((c / 64 : Nat) : Int) := by omega
              have hm : (a[j].toNat : Int) % 64 = ((c % 64 : Nat) : Int) := by omega
              have HC := Lib.hid hc
              clear hwa hba hg hc
              rcases hq with hq | hq | hq | hq
              all_goals
                rw [hq] at hd
                go_region
                go_wp2_with fail
                go_meet
                exact ⟨rfl, rfl, rfl, words_set HW.out hq (by omega), (HBA.out.setCell hsz _).drew⟩
            case rest =>
              obtain ⟨rfl, rfl, rfl, hblk, hbelow⟩ := hcut
              have hr2 := HR.out.below hbelow
              obtain ⟨bl, o, rfl, hbl, hcell⟩ := Reads.inst hr2 (show j < a.size + 1 by omega)
              have hgd : (lits a.data.toList ++ [done]).getD j zeroI = lit a[j] := by
                have hlj : j < (lits a.data.toList).length := by rw [lits_length, size_list]; exact hj
                rw [getD_left _ hlj]
                unfold lits
                simp [List.getD, hj]
                rfl
              rw [hgd] at hcell
              have d0 : wc.cell? ⟨bl, o + j * 7, none⟩ = some (.int .i64 1) := hcell 0 (by omega)
              have hck : c = a[j].toNat := by omega
              have r0 : wc.cell? ⟨bl, o + j * 7 + 1, none⟩ = some (.int .u64 (word (2 ^ c) 0 : Int)) := by rw [hck]; exact hcell 1 (by omega)
              have r1 : wc.cell? ⟨bl, o + j * 7 + 2, none⟩ = some (.int .u64 (word (2 ^ c) 1 : Int)) := by rw [hck]; exact hcell 2 (by omega)
              have r2 : wc.cell? ⟨bl, o + j * 7 + 3, none⟩ = some (.int .u64 (word (2 ^ c) 2 : Int)) := by rw [hck]; exact hcell 3 (by omega)
              have r3 : wc.cell? ⟨bl, o + j * 7 + 4, none⟩ = some (.int .u64 (word (2 ^ c) 3 : Int)) := by rw [hck]; exact hcell 4 (by omega)
              have s0 : wc.cell? ⟨g, 0, none⟩ = some (.int .u64 (word (2 ^ c) 0 : Int)) := by simpa [wordsI] using hblk.cell 0
              have s1 : wc.cell? ⟨g, 1, none⟩ = some (.int .u64 (word (2 ^ c) 1 : Int)) := by simpa [wordsI] using hblk.cell 1
              have s2 : wc.cell? ⟨g, 2, none⟩ = some (.int .u64 (word (2 ^ c) 2 : Int)) := by simpa [wordsI] using hblk.cell 2
              have s3 : wc.cell? ⟨g, 3, none⟩ = some (.int .u64 (word (2 ^ c) 3 : Int)) := by simpa [wordsI] using hblk.cell 3
              generalize word (2 ^ c) 0 = x0 at r0 s0
              generalize word (2 ^ c) 1 = x1 at r1 s1
              generalize word (2 ^ c) 2 = x2 at r2 s2
              generalize word (2 ^ c) 3 = x3 at r3 s3
              clear hcell hgd hr2
              have HBL := Lib.hid hbelow
              have HBK := Lib.hid hblk
              clear hbelow hblk
              go_upto_region 17 with fail
              clear hc hba hwa
              have hj1 : (j : Int) < (a.size : Int) + 1 := by omega
              have hj2 : j < a.size + 1 := by omega
              have hj0 : (0 : Int) ≤ (j : Int) := by omega
              have q1 := neq28 x0 x1 x2 x3
              have q2 := guard28
              go_quiet (fail)
              go_wp2_with fail
              go_roundg (gk - 1)
              case measure => omega
              case rel => exact ⟨j + 1, by go_num, by omega, below_drewN HBL.out nq⟩
          · go_wp2_with fail
            refine (awake_any _).mono ?_
            rintro e w5 ⟨rfl, hb5⟩
            go_wp2_with fail
            go_ret
            exact ⟨rfl, HB.out.trans ((HX.out.mono HB.out.size).trans (hb5.mono (Nat.le_trans HB.out.size HX.out.size)))⟩
  · go_enter Try.func3, Try.ntmps3
    go_wp2_with fail
    refine (awake_any W).mono ?_
    rintro e w1 ⟨rfl, hb1⟩
    go_wp2_with fail
    go_ret
    exact ⟨rfl, hb1⟩
end Go.Proofs.Ythhgfahlamdgfaa
