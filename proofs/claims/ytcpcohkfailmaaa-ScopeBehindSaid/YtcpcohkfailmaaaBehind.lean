/- walk of ScopeBehind -/
import Derived.Test.YtcpcohkfailmaaaAwake
import Derived.Test.YtcpcohkfailmaaaFlat
namespace Go.Proofs.Ytcpcohkfailmaaa
open Go.RowKit

theorem scope_info : (Try.prog.info? 33).map (fun i => (i.zero, i.size, i.bytes)) = some (some (.agg #[.int .i64 0, .string { data := #[] }]), 2, 24) := by kernel_rfl

set_option maxHeartbeats 4000000 in
theorem behind_any (w : World) (A B K : Option Addr) (n m k c d f : Nat) (l r : List (Int × ByteArray)) (own : Int) (keys : List ByteArray)
    (hl : Scps w w.heap.size A n l) (hr : Scps w w.heap.size B m r) (hk : Strs w w.heap.size K k keys) :
    Calls Try.prog 4 #[.slice A n c, .slice B m d, .int .i64 own, .slice K k f] w fun e w' => e = .returned (.bool true) ∧ Below w.heap.size w w' := by
  by_cases h : n ≤ 50 ∧ m ≤ 50 ∧ k ≤ 50
  · obtain ⟨hn, hm, hkk⟩ := h
    obtain ⟨u, q, hu, hq, u0, q0, q8⟩ := own_mod own
    go_enter Try.func4, Try.ntmps4
    go_wp2_with fail
    refine (few_yes _ _ _ _ _ _ _ _ _ _ hn hm hkk).mono ?_
    rintro e w' ⟨rfl, rfl⟩
    go_wp2_with fail
    refine (tr_any w A B K n m k c d f l r q keys hl hr hk (by omega) (by omega) (by omega)).mono ?_
    rintro e w1 ⟨rfl, hb1⟩
    obtain ⟨T, hT⟩ : ∃ T, T = trMask l r q keys := ⟨_, rfl⟩
    have hTl : T < 2 ^ 16 := by rw [hT]; exact trMask_lt _ _ _ _
    have e1 : bits .and .u32 ((T : Int) / 2 ^ q.toNat) 1 = 1 := and_yes hTl (by rw [hT]; exact tr_own q0 q8)
    have e2 : bits .and .u32 ((T : Int) / 32768) 1 = 1 := and_yes (j := 15) hTl (by rw [hT]; exact tr_judge_bit _ _ _ _)
    have e3 : bits .andNot .u32 (T : Int) 33023 = 0 := by rw [hT]; exact tr_only _ _ _ _
    have HL := Lib.hid (fun i (h1 : q.toNat < i) (h2 : i < 8) (h3 : T.testBit i = true) => behind_law (i := i) q0 h1 h2 (by rw [← hT]; exact h3))
    rw [← hT]
    clear hT
    obtain ⟨i0, hi, hz0, hz1, hz2⟩ := info_parts scope_info
    go_wp2_with fail
    go_loopw [10] (fun i wr => ∃ j : Nat, i = .int .i64 j ∧ q.toNat < j ∧ j ≤ 8 ∧ Below w.heap.size w wr) (fun i _ => 8 - (intOf i).toNat)
    case atStart => exact ⟨q.toNat + 1, by rw [Int.natCast_add, Int.toNat_of_nonneg q0]; rfl, by omega, by omega, hb1⟩
    case round =>
      obtain ⟨j, rfl, hqj, hj8, hb⟩ := hrel
      by_cases hj : j < 8
      · cases hbit : T.testBit j
        · have e4 := and_no hTl hbit
          go_wp2_with fail
          go_roundw
          case rel => exact ⟨j + 1, by go_num, by omega, by omega, hb⟩
          case measure => simp [intOf]; omega
        · have e4 := and_yes hTl hbit
          obtain ⟨hjk, hne, hex⟩ := HL.out j hqj hj hbit
          rw [hk.1] at hjk
          rw [hl.1, hr.1] at hex
          have HX := Lib.hid hex
          obtain ⟨bk, offk, rfl, hbk, hck⟩ := hk.2 (by omega)
          have ck0 := hck j hjk
          generalize hs : keys.getD j ByteArray.empty = kj at ck0 hne HX
          clear hex hck hs hbit
          obtain ⟨wo, hwo⟩ : ∃ wo : World, wo = wr := ⟨_, rfl⟩
          subst hwo
          have hzr := hb.size
          go_wp2_with (first
            | (at_builtin
               refine wpList_append_any _ rfl (.tmp 58) (.tmp 59) _ rfl w.heap.size 33 i0 _ 2 24 Try.underlying22 hi hz0 hz1 hz2 rfl (by omega) (.slice (some ⟨wo.heap.size, 0, none⟩) 0 0) 0 [] rfl (World.ownsRow_made wo #[] 0 hzr (by decide) rfl) w.heap.size A n c (flat l) rfl ((hl.reads.below hb).alloc hzr _) (flat_one _) (by simp only [maxLen]; omega) (by omega) (by simp; omega) ?_
               intro v1 w2 hown1 hg1 hat1)
            | (at_builtin
               refine wpList_append_any _ rfl (.tmp 60) (.tmp 61) _ rfl w.heap.size 33 i0 _ 2 24 Try.underlying22 hi hz0 hz1 hz2 rfl (by omega) v1 (0 + n) ([] ++ flat l) rfl hown1 w.heap.size B m d (flat r) rfl (((hr.reads.below hb).alloc hzr _).grown hg1 (by simp; omega) (by intro g hg; simp [Value.ownBlock] at hg; omega)) (flat_one _) (by simp only [maxLen]; omega) (by omega) (by have := hg1.size; simp at this; omega) ?_
               intro v2 w3 hown2 hg2 hat2
               simp only [List.nil_append, Nat.zero_add, ← flat_append] at hown2
               obtain ⟨A2, c2, hv2, hsc⟩ := own_scps hown2
               subst hv2))
          have hb3 : Below w.heap.size w w3 := (((hb.alloc hzr _).grown hg1 (by simp; omega) (by intro g hg; simp [Value.ownBlock] at hg; omega)).grown hg2 (by have := hg1.size; simp at this; omega)
            (by intro g hg; have := hown1.lt g hg; omega))
          clear hown1 hown2 hg1 hg2 hat1 hat2 hzr
          obtain ⟨wp, hwp⟩ : ∃ wp : World, wp = w3 := ⟨_, rfl⟩
          subst hwp
          have hz3 := hb3.size
          go_loopw [11, 64] (fun b i wi => ∃ t : Nat, i = .int .i64 t ∧ t ≤ n + m ∧ b = .bool (anyN (l ++ r) kj t) ∧ Below wp.heap.size wp wi) (fun _ i _ => n + m - (intOf i).toNat)
          case atStart => exact ⟨0, rfl, by omega, rfl, Below.refl _ _⟩
          case round =>
            obtain ⟨t, rfl, ht, rfl, hbi⟩ := hrel
            by_cases htl : t < n + m
            · obtain ⟨bs, offs, rfl, hbs, hcs⟩ := hsc.2 (by omega)
              obtain ⟨c1, c2'⟩ := hcs t htl
              have hcell1 := (hbi.cell (p := ⟨bs, offs + t * 2, none⟩) (by exact hbs)).trans c1
              have hcell2 := (hbi.cell (p := ⟨bs, offs + t * 2 + 1, none⟩) (by exact hbs)).trans c2'
              clear c1 c2' hcs
              generalize hs : (l ++ r).getD t (0, ByteArray.empty) = s at hcell1 hcell2
              obtain ⟨kind, key⟩ := s
              have HS := Lib.hid hs
              clear hs
              simp only at hcell1 hcell2
              have ck := ((hb3.trans (hbi.mono hz3)).cell (p := ⟨bk, offk + j, none⟩) (by exact hbk)).trans ck0
              have hsi := hbi.size
              have hjk' : (j : Int) < (k : Int) := by omega
              have hd : decide ((j : Int) < (k : Int)) = true := decide_eq_true hjk'
              cases hany : anyN (l ++ r) kj t
              · by_cases h3 : kind = 3
                · subst h3
                  have ckA := (World.cell?_alloc_lt wr (Obj.cells #[Value.int .i64 3, Value.string key] 33) ⟨bk, offk + j, none⟩ (by show bk < _; omega)).trans ck
                  cases he : key.toList == kj.toList
                  · have HN := Lib.hid (anyN_other HS.out he hany)
                    clear hany
                    go_wp2
                    go_quiet (fail)
                    go_wp2
                    go_roundw
                    case rel => exact ⟨t + 1, by go_num, by omega, by rw [HN.out], below_drewN (hbi.alloc hsi _) _⟩
                    case measure => simp [intOf]; omega
                  · have HN := Lib.hid (anyN_yes (key := kj) HS.out he)
                    clear hany
                    go_wp2
                    go_quiet (fail)
                    go_wp2
                    go_roundw
                    case rel => exact ⟨t + 1, by go_num, by omega, by rw [HN.out], below_drewN (hbi.alloc hsi _) _⟩
                    case measure => simp [intOf]; omega
                · have HN := Lib.hid (anyN_kind (key := kj) HS.out h3 hany)
                  clear hany
                  go_wp2
                  go_quiet (fail)
                  go_wp2
                  go_roundw
                  case rel => exact ⟨t + 1, by go_num, by omega, by rw [HN.out], below_drewN (hbi.alloc hsi _) _⟩
                  case measure => simp [intOf]; omega
              · have HN := Lib.hid (anyN_stay hany)
                clear hany
                go_wp2
                go_quiet (fail)
                go_wp2
                go_roundw
                case rel => exact ⟨t + 1, by go_num, by omega, by rw [HN.out], below_drewN (hbi.alloc hsi _) _⟩
                case measure => simp [intOf]; omega
            · obtain rfl : t = n + m := by omega
              have hany : anyN (l ++ r) kj (n + m) = true := by
                obtain ⟨jx, hjx, hn'⟩ := HX.out
                exact anyN_of hn' hjx
              rw [hany]
              go_wp2
              go_roundw
              case rel => exact ⟨j + 1, by go_num, by omega, by omega, hb3.trans (hbi.mono hz3)⟩
              case measure => simp [intOf]; omega
      · obtain rfl : j = 8 := by omega
        go_wp2_with fail
        refine (awake_any wr).mono ?_
        rintro e w5 ⟨rfl, hb5⟩
        have hb5 := hb.trans (hb5.mono hb.size)
        go_wp2_with fail
        go_ret
        exact ⟨rfl, hb5⟩
  · go_enter Try.func4, Try.ntmps4
    go_wp2_with fail
    refine (few_no _ _ _ _ _ _ _ _ _ _ h).mono ?_
    rintro e w' ⟨rfl, rfl⟩
    go_wp2_with fail
    refine (awake_any w).mono ?_
    rintro e w5 ⟨rfl, hb5⟩
    go_wp2_with fail
    go_ret
    exact ⟨rfl, hb5⟩
end Go.Proofs.Ytcpcohkfailmaaa
