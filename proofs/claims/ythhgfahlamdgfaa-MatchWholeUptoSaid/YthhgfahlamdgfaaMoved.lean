/- moved, either: steps behind so many others; either of two -/
import Derived.Test.YthhgfahlamdgfaaPars
import Derived.Test.YthhgfahlamdgfaaInsts
import Derived.Deep.MidRow
namespace Go.Proofs.Ythhgfahlamdgfaa
open Go.RowKit

theorem inst_info : (Try.prog.info? 31).map (fun i => (i.zero, i.size, i.bytes)) = some (some (.agg #[.int .i64 0, .int .u64 0, .int .u64 0, .int .u64 0, .int .u64 0, .int .i64 0, .int .i64 0]), 7, 56) := by kernel_rfl

set_option maxHeartbeats 1000000 in
theorem moved_any (w : World) (A : Option Addr) (n c : Nat) (l : List Inst) (k : Nat) (kk : Int) (hkk : kk = (k : Int)) (hl : Reads w w.heap.size 7 A n (flatI l)) (hn : n ≤ 2000) (hk : k ≤ 2000) (hx : ∀ i ∈ l, i.x ≤ 2000 ∧ i.y ≤ 2000) :
    Calls Try.prog 26 #[.slice A n c, .int .i64 kk] w fun e w' => ∃ v, e = .returned v ∧ w'.ownsRow w.heap.size 31 7 v n (flatI (moved l k)) ∧ Below w.heap.size w w' := by
  subst hkk
  have hlen : (moved l k).length = n := by have := hl.1; rw [flatI_length] at this; rw [moved_length]; omega
  obtain ⟨i0, hi, hz0, hz1, hz2⟩ := info_parts inst_info
  go_enter Try.func26, Try.ntmps26
  go_wp2_with (refine wpList_make_full _ rfl _ _ 23 rfl w.heap.size 31 i0 _ 7 Try.underlying23 hi hz0 hz1 .i64 .i64 _ _ n rfl rfl rfl rfl (by rw [hz2]; omega) (by simp only [maxLen]; omega) (Nat.le_refl _) ?_; intro w1 hown1 hg1)
  have hb1 := (Below.refl w.heap.size w).grown hg1 (Nat.le_refl _) (by intro g hg; cases hg)
  rw [zeros_flat] at hown1
  have HX := Lib.hid hx
  have HL := Lib.hid hlen
  clear hg1 hx hlen
  go_loopw [13] (fun i wr => ∃ t : Nat, i = .int .i64 t ∧ t ≤ n ∧ wr.ownsRow w.heap.size 31 7 (.slice (some ⟨w.heap.size, 0, none⟩) n n) n (flatI ((moved l k).take t ++ List.replicate (n - t) zeroI)) ∧ Below w.heap.size w wr) (fun i _ => n - (intOf i).toNat)
  case atStart => exact ⟨0, rfl, Nat.zero_le _, by simpa using hown1, hb1⟩
  case round =>
    obtain ⟨t, rfl, ht, hown, hb⟩ := hrel
    by_cases htn : t < n
    · obtain ⟨b, off, rfl, hbl, hc⟩ := hl.inst htn
      have hc' : ∀ j, j < 7 → wr.cell? ⟨b, off + t * 7 + j, none⟩ = (cellsI (l.getD t zeroI))[j]? := fun j hj => (hb.cell (by exact hbl)).trans (hc j hj)
      clear hc
      have hxy : (l.getD t zeroI).x ≤ 2000 ∧ (l.getD t zeroI).y ≤ 2000 := by
        by_cases htl : t < l.length
        · rw [List.getD, List.getElem?_eq_getElem htl]; exact HX.out _ (List.getElem_mem _)
        · rw [List.getD, List.getElem?_eq_none (by omega)]; exact ⟨Nat.zero_le _, Nat.zero_le _⟩
      generalize hs : l.getD t zeroI = q at hc' hxy
      obtain ⟨kind, set, x, y⟩ := q
      have HS := Lib.hid (moved_get (k := k) hs)
      clear hs
      simp only at hxy
      obtain ⟨hx1, hy1⟩ := hxy
      have d0 := hc' 0 (by omega)
      have d1 := hc' 1 (by omega)
      have d2 := hc' 2 (by omega)
      have d3 := hc' 3 (by omega)
      have d4 := hc' 4 (by omega)
      have d5 := hc' 5 (by omega)
      have d6 := hc' 6 (by omega)
      clear hc'
      simp only [cellsI, List.getElem?_cons_zero, List.getElem?_cons_succ, Nat.add_zero] at d0 d1 d2 d3 d4 d5 d6
      have hzr := hb.size
      have HO := Lib.hid hown
      clear hown hown1 hb1
      by_cases h2 : kind = 2
      · subst h2
        go_wp2_with (refine wpList_store_mid rfl 31 (.tmp 42) (.tmp 41) rfl w.heap.size (t * 7) #[.int .i64 2, .int .u64 (word set 0 : Int), .int .u64 (word set 1 : Int), .int .u64 (word set 2 : Int), .int .u64 (word set 3 : Int), .int .i64 ((x : Int) + (k : Int)), .int .i64 ((y : Int) + (k : Int))] rfl rfl ?_ (by kernel_rfl) (one7 _ _ _ _ _ _ _) ?_; · exact moved_there HO.out htn _)
        go_roundw
        case rel =>
          obtain ⟨r1, r2⟩ := moved_step HO.out HL.out htn hb hzr (Obj.cells #[.int .i64 2, .int .u64 (word set 0 : Int), .int .u64 (word set 1 : Int), .int .u64 (word set 2 : Int), .int .u64 (word set 3 : Int), .int .i64 ((x : Int) + (k : Int)), .int .i64 ((y : Int) + (k : Int))] 31)
            (vs := [.int .i64 2, .int .u64 (word set 0 : Int), .int .u64 (word set 1 : Int), .int .u64 (word set 2 : Int), .int .u64 (word set 3 : Int), .int .i64 ((x : Int) + (k : Int)), .int .i64 ((y : Int) + (k : Int))]) (by rw [HS.out]; simp [movedI, cellsI])
          exact ⟨t + 1, by go_num, by omega, r1, r2⟩
        case measure => simp [intOf]; omega
      · by_cases h3 : kind = 3
        · subst h3
          go_wp2_with (refine wpList_store_mid rfl 31 (.tmp 42) (.tmp 41) rfl w.heap.size (t * 7) #[.int .i64 3, .int .u64 (word set 0 : Int), .int .u64 (word set 1 : Int), .int .u64 (word set 2 : Int), .int .u64 (word set 3 : Int), .int .i64 ((x : Int) + (k : Int)), .int .i64 (y : Int)] rfl rfl ?_ (by kernel_rfl) (one7 _ _ _ _ _ _ _) ?_; · exact moved_there HO.out htn _)
          go_roundw
          case rel =>
            obtain ⟨r1, r2⟩ := moved_step HO.out HL.out htn hb hzr (Obj.cells #[.int .i64 3, .int .u64 (word set 0 : Int), .int .u64 (word set 1 : Int), .int .u64 (word set 2 : Int), .int .u64 (word set 3 : Int), .int .i64 ((x : Int) + (k : Int)), .int .i64 (y : Int)] 31)
              (vs := [.int .i64 3, .int .u64 (word set 0 : Int), .int .u64 (word set 1 : Int), .int .u64 (word set 2 : Int), .int .u64 (word set 3 : Int), .int .i64 ((x : Int) + (k : Int)), .int .i64 (y : Int)]) (by rw [HS.out]; simp [movedI, cellsI])
            exact ⟨t + 1, by go_num, by omega, r1, r2⟩
          case measure => simp [intOf]; omega
        · have h2' : ((kind : Int) == 2) = false := beq_eq_false_iff_ne.2 (by omega)
          have h3' : ((kind : Int) == 3) = false := beq_eq_false_iff_ne.2 (by omega)
          go_wp2_with (refine wpList_store_mid rfl 31 (.tmp 42) (.tmp 41) rfl w.heap.size (t * 7) #[.int .i64 (kind : Int), .int .u64 (word set 0 : Int), .int .u64 (word set 1 : Int), .int .u64 (word set 2 : Int), .int .u64 (word set 3 : Int), .int .i64 (x : Int), .int .i64 (y : Int)] rfl rfl ?_ (by kernel_rfl) (one7 _ _ _ _ _ _ _) ?_; · exact moved_there HO.out htn _)
          go_roundw
          case rel =>
            obtain ⟨r1, r2⟩ := moved_step HO.out HL.out htn hb hzr (Obj.cells #[.int .i64 (kind : Int), .int .u64 (word set 0 : Int), .int .u64 (word set 1 : Int), .int .u64 (word set 2 : Int), .int .u64 (word set 3 : Int), .int .i64 (x : Int), .int .i64 (y : Int)] 31)
              (vs := [.int .i64 (kind : Int), .int .u64 (word set 0 : Int), .int .u64 (word set 1 : Int), .int .u64 (word set 2 : Int), .int .u64 (word set 3 : Int), .int .i64 (x : Int), .int .i64 (y : Int)]) (by rw [HS.out]; simp [movedI, cellsI, h2, h3])
            exact ⟨t + 1, by go_num, by omega, r1, r2⟩
          case measure => simp [intOf]; omega
    · obtain rfl : t = n := by omega
      have hfin : flatI ((moved l k).take t ++ List.replicate (t - t) zeroI) = flatI (moved l k) := by
        rw [Nat.sub_self, List.replicate_zero, List.append_nil, List.take_of_length_le (by rw [HL.out]; omega)]
      rw [hfin] at hown
      clear hfin
      go_wp2
      go_ret
      exact ⟨_, rfl, hown, hb⟩
end Go.Proofs.Ythhgfahlamdgfaa
