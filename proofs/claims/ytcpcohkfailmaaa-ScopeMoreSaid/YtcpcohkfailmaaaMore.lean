/- walk of ScopeMore -/
import Derived.Test.YtcpcohkfailmaaaMoreOps
import Derived.Test.YtcpcohkfailmaaaMoreLaw
import Derived.Deep.CutBlock
import Derived.Deep.DeepCutAuto
namespace Go.Proofs.Ytcpcohkfailmaaa
open Go.RowKit

set_option maxHeartbeats 1000000 in
theorem more_few (w : World) (A K : Option Addr) (n k c f : Nat) (l : List (Int × ByteArray)) (kind : Int) (s : ByteArray) (own : Int) (keys : List ByteArray) (key : ByteArray)
    (hl : Scps w w.heap.size A n l) (hk : Strs w w.heap.size K k keys) (hn : n ≤ 50) (hkk : k ≤ 50) :
    Calls Try.prog 5 #[.slice A n c, .agg #[.int .i64 kind, .string s], .int .i64 own, .slice K k f, .string key] w fun e w' => e = .returned (.bool true) ∧ Below w.heap.size w w' := by
  go_enter Try.func5, Try.ntmps5
  go_wp2_with fail
  refine (few_yes _ _ _ _ _ _ _ _ _ _ hn (by omega) hkk).mono ?_
  rintro e w' ⟨rfl, rfl⟩
  go_upto_region 3 with fail
  go_cut [11, 12] (fun p q wx => p = .int .u32 (ofMask l own keys n : Nat) ∧ q = .int .u32 (ofMask (l ++ [(kind, s)]) own keys (n + 1) : Nat) ∧ Below (w.heap.size + 1) (w.alloc (Obj.cells #[.int .i64 kind, .string s] 33)) wx)
  case first =>
    refine wp_region_any (by kernel_rfl) ?_
    obtain ⟨i0, hi, hz0, hz1, hz2⟩ := info_parts scope_info
    obtain ⟨w0, hw0⟩ : ∃ w0 : World, w0 = (w.alloc (Obj.cells #[.int .i64 kind, .string s] 33)).drew := ⟨_, rfl⟩
    have hbw : Below (w.heap.size + 1) (w.alloc (Obj.cells #[.int .i64 kind, .string s] 33)) w0 := by rw [hw0]; exact below_drewN (Below.refl _ _) 1
    have hw00 : Below w.heap.size w w0 := by rw [hw0]; exact below_drewN ((Below.refl _ _).alloc (Nat.le_refl _) _) 1
    have hl0 : Scps w0 w0.heap.size A n l := (hl.below hw00).more hw00.size
    have hk0 : Strs w0 w0.heap.size K k keys := (hk.below hw00).more hw00.size
    have hlt0 : w.heap.size < w0.heap.size := by rw [hw0]; simp
    have hc0 : w0.cell? ⟨w.heap.size, 0, none⟩ = some (.int .i64 kind) := by rw [hw0]; simp
    have hc1 : w0.cell? ⟨w.heap.size, 1, none⟩ = some (.string s) := by rw [hw0]; simp
    refine wpAny_inv (InvM A K n k c f w.heap.size kind own s key l keys w0) ?size ?step ?done _ _ _ _ ?start ?fuel
    case fuel => decide
    case size => rintro L a wx ⟨b0, b1, b2, b3, b4, b5, b6, b7, b8, b9, b10, b11, b12, b13, b14, _, _, _, _, _, _, _, _, _, _, _, _, _, _, _, rfl, -, -⟩; rfl
    case start =>
      subst hw0
      exact ⟨false, false, false, false, false, false, false, false, false, false, false, false, false, false, false, _, _, _, _, _, _, _, _, _, _, _, _, _, _, _, rfl, rfl, { hb := Below.refl _ _, m0 := fun h => Bool.noConfusion h, m1 := fun h => Bool.noConfusion h, m2 := fun h => Bool.noConfusion h, c3 := fun h => Bool.noConfusion h, m4 := fun h => Bool.noConfusion h, m5 := fun h => Bool.noConfusion h, m6 := fun h => Bool.noConfusion h, m7 := fun h => Bool.noConfusion h, m8 := fun h => Bool.noConfusion h, m9 := fun h => Bool.noConfusion h, d9 := fun h => Bool.noConfusion h, m10 := fun h => Bool.noConfusion h, m11 := fun h => Bool.noConfusion h, c12 := fun h => Bool.noConfusion h, m13 := fun h => Bool.noConfusion h, m14 := fun h => Bool.noConfusion h }⟩
    case done =>
      rintro L a wx ⟨b0, b1, b2, b3, b4, b5, b6, b7, b8, b9, b10, b11, b12, b13, b14, x11, x12, x20, x21, x22, x23, x24, x25, x26, x27, x28, x29, x30, x31, x32, rfl, rfl, hj⟩ hr
      obtain rfl : b0 = true := ready_none hr 0 (show 0 < 15 by omega) (fun o ho => by cases ho; simp)
      obtain rfl : b1 = true := ready_none hr 1 (show 1 < 15 by omega) (fun o ho => by cases ho; simp)
      obtain rfl : b2 = true := ready_none hr 2 (show 2 < 15 by omega) (fun o ho => by cases ho; simp)
      obtain rfl : b3 = true := ready_none hr 3 (show 3 < 15 by omega) (fun o ho => by cases ho; simp [Region.binds])
      obtain rfl : b4 = true := ready_none hr 4 (show 4 < 15 by omega) (fun o ho => by cases ho; simp)
      obtain rfl : b5 = true := ready_none hr 5 (show 5 < 15 by omega) (fun o ho => by cases ho; simp)
      obtain rfl : b6 = true := ready_none hr 6 (show 6 < 15 by omega) (fun o ho => by cases ho; simp [Region.binds])
      obtain rfl : b7 = true := ready_none hr 7 (show 7 < 15 by omega) (fun o ho => by cases ho; simp)
      obtain rfl : b8 = true := ready_none hr 8 (show 8 < 15 by omega) (fun o ho => by cases ho; simp [Region.binds])
      obtain rfl : b9 = true := ready_none hr 9 (show 9 < 15 by omega) (fun o ho => by cases ho; simp [Region.binds])
      obtain rfl : b10 = true := ready_none hr 10 (show 10 < 15 by omega) (fun o ho => by cases ho; simp)
      obtain rfl : b11 = true := ready_none hr 11 (show 11 < 15 by omega) (fun o ho => by cases ho; simp)
      obtain rfl : b12 = true := ready_none hr 12 (show 12 < 15 by omega) (fun o ho => by cases ho; simp [Region.binds])
      obtain rfl : b13 = true := ready_none hr 13 (show 13 < 15 by omega) (fun o ho => by cases ho; simp [Region.binds])
      obtain rfl : b14 = true := ready_none hr 14 (show 14 < 15 by omega) (fun o ho => by cases ho; simp [Region.binds])
      obtain rfl := hj.m13 rfl
      obtain rfl := hj.m14 rfl
      have hbx := hj.hb
      go_wp2_with fail
      go_meet
      case rel => exact ⟨rfl, rfl, hbw.trans (hbx.mono (by omega))⟩
    case step =>
      rintro L a wx ⟨b0, b1, b2, b3, b4, b5, b6, b7, b8, b9, b10, b11, b12, b13, b14, x11, x12, x20, x21, x22, x23, x24, x25, x26, x27, x28, x29, x30, x31, x32, rfl, rfl, hj⟩ i o ho hf haft
      have hi15 : i < 15 := (Array.getElem?_eq_some_iff.1 ho).1
      have hi' : i = 0 ∨ i = 1 ∨ i = 2 ∨ i = 3 ∨ i = 4 ∨ i = 5 ∨ i = 6 ∨ i = 7 ∨ i = 8 ∨ i = 9 ∨ i = 10 ∨ i = 11 ∨ i = 12 ∨ i = 13 ∨ i = 14 := by omega
      clear hi15
      rcases hi' with rfl | rfl | rfl | rfl | rfl | rfl | rfl | rfl | rfl | rfl | rfl | rfl | rfl | rfl | rfl
      · cases ho
        obtain rfl : b0 = false := hf
        rw [if_pos (by rfl)]
        exact wp_mv (.tmp 0) rfl ⟨true, b1, b2, b3, b4, b5, b6, b7, b8, b9, b10, b11, b12, b13, b14, _, _, _, _, _, _, _, _, _, _, _, _, _, _, _, rfl, rfl, { hj with m0 := fun _ => rfl }⟩
      · cases ho
        obtain rfl : b1 = false := hf
        rw [if_pos (by rfl)]
        exact wp_mv (.tmp 2) rfl ⟨b0, true, b2, b3, b4, b5, b6, b7, b8, b9, b10, b11, b12, b13, b14, _, _, _, _, _, _, _, _, _, _, _, _, _, _, _, rfl, rfl, { hj with m1 := fun _ => rfl }⟩
      · cases ho
        obtain rfl : b2 = false := hf
        rw [if_pos (by rfl)]
        exact wp_mv (.tmp 3) rfl ⟨b0, b1, true, b3, b4, b5, b6, b7, b8, b9, b10, b11, b12, b13, b14, _, _, _, _, _, _, _, _, _, _, _, _, _, _, _, rfl, rfl, { hj with m2 := fun _ => rfl }⟩
      · cases ho
        obtain rfl : b3 = false := hf
        simp [Region.binds] at haft
        obtain ⟨rfl, rfl, rfl⟩ := haft
        rw [if_pos (by rfl)]
        refine wp_fn (run_of _ _ _ _ _ _ _ _ _ _ rfl) (Post := fun e w' => e = .returned (.int .u32 (ofMask l own keys n : Nat)) ∧ Below w0.heap.size w0 w' ∧ Below wx.heap.size wx w') ?_ ?_
        · obtain rfl := hj.m0 rfl
          obtain rfl := hj.m1 rfl
          obtain rfl := hj.m2 rfl
          exact of_at w0 wx hj.hb A n c l own K k f keys hl0 hk0 (by omega) (by omega)
        · rintro e w' ⟨rfl, -, hb⟩
          have hj := hj.later hb
          exact ⟨_, rfl, ⟨true, true, true, true, b4, b5, b6, b7, b8, b9, b10, b11, b12, b13, b14, _, _, _, _, _, _, _, _, _, _, _, _, _, _, _, rfl, rfl, { hj with c3 := fun _ => rfl }⟩⟩
      · cases ho
        obtain rfl : b4 = false := hf
        rw [if_pos (by rfl)]
        refine wp_val (run_slice0 _ _ _ _ _ _ _) ?_
        have hj' := hj.later (Below.refl _ _ |>.alloc (Nat.le_refl _) (Obj.cells #[] 33))
        exact ⟨b0, b1, b2, b3, true, b5, b6, b7, b8, b9, b10, b11, b12, b13, b14, _, _, _, _, _, _, _, _, _, _, _, _, _, _, _, rfl, rfl, { hj' with m4 := fun _ _ => World.ownsRow_made wx #[] 0 hj.hb.size (by decide) rfl, m8 := fun h1 h2 => let ⟨q, h3, h4, _⟩ := hj.m8 h1 h2; let ⟨_, h3', h4', _⟩ := hj'.m8 h1 h2; ⟨q, h3, by rw [h3] at h3'; cases h3'; exact h4', fun _ _ he => by have := h4.lt; simp [Value.ownBlock] at he; omega⟩ }⟩
      · cases ho
        obtain rfl : b5 = false := hf
        rw [if_pos (by rfl)]
        exact wp_mv (.tmp 0) rfl ⟨b0, b1, b2, b3, b4, true, b6, b7, b8, b9, b10, b11, b12, b13, b14, _, _, _, _, _, _, _, _, _, _, _, _, _, _, _, rfl, rfl, { hj with m5 := fun _ => rfl }⟩
      · cases ho
        obtain rfl : b6 = false := hf
        simp [Region.binds] at haft
        obtain ⟨rfl, rfl, rfl⟩ := haft
        rw [if_pos (by rfl)]
        obtain rfl := hj.m5 rfl
        refine wp_append_any _ (.tmp 24) (.tmp 25) 22 rfl w0.heap.size 33 i0 _ 2 24 Try.underlying22 hi hz0 hz1 hz2 rfl (by omega) x24 0 [] rfl (hj.m4 rfl rfl) w0.heap.size A n c (flat l) rfl (hl0.reads.below hj.hb) (flat_one _) (by simp only [maxLen]; omega) (by omega) hj.hb.size ?_
        intro v1 w1 hown hg _
        rw [Nat.zero_add, List.nil_append] at hown
        have hb1 := hj.hb.grown hg hj.hb.size (fun g hg => ((hj.m4 rfl rfl).lt g hg).1)
        exact ⟨b0, b1, b2, true, true, true, true, b7, b8, b9, b10, b11, b12, b13, b14, _, _, _, _, _, _, _, _, _, _, _, _, _, _, _, rfl, rfl, { hj with hb := hb1, m4 := fun _ h => (Bool.noConfusion h), m6 := fun _ _ => hown, m8 := fun h1 h2 => let ⟨q, h3, h4, h5⟩ := hj.m8 h1 h2; ⟨q, h3, h4.grown hg (fun e => h5 rfl rfl e.symm), fun _ h => Bool.noConfusion h⟩, m9 := fun h1 _ => Bool.noConfusion (hj.d9 h1), d9 := fun _ => rfl }⟩
      · cases ho
        obtain rfl : b7 = false := hf
        rw [if_pos (by rfl)]
        refine wp_val (run_load33 _ _ _ _ _ _ _ _ kind s w.heap.size rfl ?_ ?_) ?_
        · exact (hj.hb.cell hlt0).trans hc0
        · exact (hj.hb.cell hlt0).trans hc1
        · exact ⟨b0, b1, b2, b3, b4, b5, b6, true, b8, b9, b10, b11, b12, b13, b14, _, _, _, _, _, _, _, _, _, _, _, _, _, _, _, rfl, rfl, { hj with m7 := fun _ => rfl }⟩
      · cases ho
        obtain rfl : b8 = false := hf
        simp [Region.binds] at haft
        subst haft
        rw [if_pos (by rfl)]
        obtain rfl := hj.m7 rfl
        refine wp_val (run_slice1 _ _ _ _ _ _ _ _ kind s rfl) ?_
        have hj' := hj.later (Below.refl _ _ |>.alloc (Nat.le_refl _) (Obj.cells #[.int .i64 kind, .string s] 33))
        exact ⟨b0, b1, b2, b3, b4, b5, b6, true, true, b9, b10, b11, b12, b13, b14, _, _, _, _, _, _, _, _, _, _, _, _, _, _, _, rfl, rfl, { hj' with m8 := fun _ _ => ⟨_, rfl, Blk.new wx 33 _, fun h1 h2 he => by have := ((hj.m4 h1 h2).lt _ he).2; omega⟩ }⟩
      · cases ho
        obtain rfl : b9 = false := hf
        simp [Region.binds] at haft
        obtain ⟨rfl, rfl, -⟩ := haft
        rw [if_pos (by rfl)]
        obtain ⟨q, rfl, hq, _⟩ := hj.m8 rfl rfl
        refine wp_append_any _ (.tmp 26) (.tmp 28) 22 rfl w0.heap.size 33 i0 _ 2 24 Try.underlying22 hi hz0 hz1 hz2 rfl (by omega) x26 n (flat l) rfl (hj.m6 rfl rfl) (q + 1) (some ⟨q, 0, none⟩) 1 1 (flat [(kind, s)]) rfl (blk_reads hq) (flat_one _) (by simp only [maxLen]; omega) (by omega) hj.hb.size ?_
        intro v1 w1 hown hg _
        rw [← flat_append] at hown
        have hb1 := hj.hb.grown hg hj.hb.size (fun g hg => ((hj.m6 rfl rfl).lt g hg).1)
        exact ⟨b0, b1, b2, b3, b4, b5, true, b7, true, true, b10, b11, b12, b13, b14, _, _, _, _, _, _, _, _, _, _, _, _, _, _, _, rfl, rfl, { hj with hb := hb1, m4 := fun _ h => (Bool.noConfusion h), m6 := fun _ h => Bool.noConfusion h, m8 := fun _ h => Bool.noConfusion h, m9 := fun _ _ => hown, d9 := fun _ => rfl }⟩
      · cases ho
        obtain rfl : b10 = false := hf
        rw [if_pos (by rfl)]
        exact wp_mv (.tmp 2) rfl ⟨b0, b1, b2, b3, b4, b5, b6, b7, b8, b9, true, b11, b12, b13, b14, _, _, _, _, _, _, _, _, _, _, _, _, _, _, _, rfl, rfl, { hj with m10 := fun _ => rfl }⟩
      · cases ho
        obtain rfl : b11 = false := hf
        rw [if_pos (by rfl)]
        exact wp_mv (.tmp 3) rfl ⟨b0, b1, b2, b3, b4, b5, b6, b7, b8, b9, b10, true, b12, b13, b14, _, _, _, _, _, _, _, _, _, _, _, _, _, _, _, rfl, rfl, { hj with m11 := fun _ => rfl }⟩
      · cases ho
        obtain rfl : b12 = false := hf
        simp [Region.binds] at haft
        obtain ⟨rfl, rfl, rfl, -⟩ := haft
        rw [if_pos (by rfl)]
        refine wp_fn (run_of _ _ _ _ _ _ _ _ _ _ rfl) (Post := fun e w' => e = .returned (.int .u32 (ofMask (l ++ [(kind, s)]) own keys (n + 1) : Nat)) ∧ Below wx.heap.size wx w') ?_ ?_
        · obtain ⟨A2, c2, rfl, hsc⟩ := own_scps (hj.m9 rfl rfl)
          obtain rfl := hj.m10 rfl
          obtain rfl := hj.m11 rfl
          exact of_any wx A2 (n + 1) c2 _ own K k f keys hsc ((hk0.below hj.hb).more hj.hb.size) (by omega) (by omega)
        · rintro e w' ⟨rfl, hb⟩
          have hj := hj.later hb
          exact ⟨_, rfl, ⟨b0, b1, b2, b3, b4, b5, b6, b7, b8, true, true, true, true, b13, b14, _, _, _, _, _, _, _, _, _, _, _, _, _, _, _, rfl, rfl, { hj with c12 := fun _ => rfl, m9 := fun _ h => Bool.noConfusion h }⟩⟩
      · cases ho
        obtain rfl : b13 = false := hf
        simp [Region.binds] at haft
        obtain ⟨rfl, rfl, rfl, rfl, rfl, -⟩ := haft
        rw [if_pos (by rfl)]
        exact wp_as (.tmp 23) rfl ⟨true, true, true, true, b4, b5, b6, b7, b8, b9, b10, b11, true, true, b14, _, _, _, _, _, _, _, _, _, _, _, _, _, _, _, rfl, rfl, { hj with m13 := fun _ => hj.c3 rfl }⟩
      · cases ho
        obtain rfl : b14 = false := hf
        simp [Region.binds] at haft
        obtain ⟨rfl, rfl, rfl, rfl, rfl, rfl, rfl, rfl, rfl, rfl, rfl, rfl, rfl, rfl, -, -⟩ := haft
        rw [if_pos (by rfl)]
        exact wp_as (.tmp 32) rfl ⟨true, true, true, true, true, true, true, true, true, true, true, true, true, true, true, _, _, _, _, _, _, _, _, _, _, _, _, _, _, _, rfl, rfl, { hj with m14 := fun _ => hj.c12 rfl }⟩
  case rest =>
    obtain ⟨rfl, rfl, hb⟩ := hcut
    have hz := hb.size
    simp at hz
    have hb0 : Below w.heap.size w wc := ((Below.refl _ _).alloc (Nat.le_refl _) _).trans (hb.mono (by omega))
    have hc0 : wc.cell? ⟨w.heap.size, 0, none⟩ = some (.int .i64 kind) := (hb.cell (by simp)).trans (by simp)
    have hc1 : wc.cell? ⟨w.heap.size, 1, none⟩ = some (.string s) := (hb.cell (by simp)).trans (by simp)
    obtain ⟨i9, hj, hj0, hj1, hj2⟩ := info_parts string_info
    have hkr := hk.reads
    go_upto_region 5 with (first
      | (at_builtin
         refine wpList_append_any _ rfl (.tmp 35) (.tmp 36) _ rfl (w.heap.size + 1) 9 i9 _ 1 16 Try.underlying23 hj hj0 hj1 hj2 rfl (by omega) (.slice (some ⟨wc.heap.size, 0, none⟩) 0 0) 0 [] rfl (World.ownsRow_made wc #[] 0 (by omega) (by decide) rfl) w.heap.size K k f (flatS keys) rfl ((hkr.below hb0).alloc (by omega) _) (flatS_one _) (by simp only [maxLen]; omega) (by omega) (by simp; omega) ?_
         intro v1 w2 hown1 hg1 hat1
         rw [Nat.zero_add, List.nil_append] at hown1)
      | (at_builtin
         refine wpList_append_any _ rfl (.tmp 37) (.tmp 39) _ rfl (w.heap.size + 1) 9 i9 _ 1 16 Try.underlying23 hj hj0 hj1 hj2 rfl (by omega) v1 k (flatS keys) rfl (ownsRow_later hown1 ((Below.refl _ _).alloc (Nat.le_refl _) _)) (w2.heap.size + 1) (some ⟨w2.heap.size, 0, none⟩) 1 1 (flatS [key]) rfl (new_reads w2 key) (flatS_one _) (by simp only [maxLen]; omega) (by omega) (by have := hg1.size; simp at this; simp; omega) ?_
         intro v2 w3 hown2 hg2 hat2
         rw [← flatS_append] at hown2
         obtain ⟨A2, c2, hv2, hs2⟩ := own_strs hown2
         subst hv2)
      | fail)
    have hs1 := hg1.size
    have hs3 := hg2.size
    simp at hs1 hs3
    have hb3 : Below (w.heap.size + 1) wc w3 := ((((Below.refl _ _).alloc hz _).grown hg1 (by simp; omega) (by intro g hg; simp [Value.ownBlock] at hg; omega)).alloc (by omega) _).grown hg2 (by simp; omega) (by intro g hg; have := (hown1.lt g hg).1; omega)
    have hb30 : Below w.heap.size w w3 := hb0.trans (hb3.mono (by omega))
    have hz3 := hb3.size
    refine (of_any w3 A n c l own A2 (k + 1) c2 (keys ++ [key]) ((hl.below hb30).more (by omega)) hs2 (by omega) (by omega)).mono ?_
    rintro e w4 ⟨rfl, hb4⟩
    have hb40 : Below (w.heap.size + 1) wc w4 := hb3.trans (hb4.mono (by omega))
    have hz4 := hb40.size
    have hbw4 : Below w.heap.size w w4 := hb0.trans (hb40.mono (by omega))
    have hc0' := (hb40.cell (p := ⟨w.heap.size, 0, none⟩) (by simp)).trans hc0
    have hc1' := (hb40.cell (p := ⟨w.heap.size, 1, none⟩) (by simp)).trans hc1
    have hm := more_key (l := l) (own := own) (keys := keys) key n
    rw [hk.1] at hm
    have hsc := ofMask_scope hl.1 kind s own keys
    have la := ofMask_lt l own keys n
    have lb := ofMask_lt (l ++ [(kind, s)]) own keys (n + 1)
    have lx := stepMask_lt kind s own keys
    have e1 := less_none la lb hsc
    have e2 := or_small la lx hsc
    obtain ⟨e3, e4⟩ := hm
    have hk4 : Strs w4 w4.heap.size K k keys := (hk.below hbw4).more (by omega)
    have HX := of_lit w4 kind s own K k f keys hk4 (by omega)
    generalize ofMask l own keys n = a at *
    generalize ofMask (l ++ [(kind, s)]) own keys (n + 1) = b at *
    generalize ofMask l own (keys ++ [key]) n = cm at *
    generalize stepMask kind s own keys = x at *
    clear hsc la lb lx hown1 hown2 hg1 hg2 hat1 hat2 hs1 hs3 hb3 hb30 hz3 hb4 hs2 hc0 hc1 hkr hj hj0 hj1 hj2
    rcases e4 with e4 | ⟨h8, e4⟩
    · go_wp2_with fail
      refine HX.mono ?_
      rintro e w5 ⟨rfl, hb5⟩
      go_wp2_with fail
      refine (awake_any w5).mono ?_
      rintro e w6 ⟨rfl, hb6⟩
      have hz5 := hb5.size
      simp at hz5
      have hb6' : Below w.heap.size w w6 := ((hbw4.alloc (by omega) _).trans (hb5.mono (by omega))).trans (hb6.mono (by omega))
      go_wp2_with fail
      go_ret
      exact ⟨rfl, hb6'⟩
    · have hD := Nat.two_pow_pos k
      have hD' := two_pow_mod (k := k) (by omega)
      go_wp2_with fail
      refine HX.mono ?_
      rintro e w5 ⟨rfl, hb5⟩
      go_wp2_with fail
      refine (awake_any w5).mono ?_
      rintro e w6 ⟨rfl, hb6⟩
      have hz5 := hb5.size
      simp at hz5
      have hb6' : Below w.heap.size w w6 := ((hbw4.alloc (by omega) _).trans (hb5.mono (by omega))).trans (hb6.mono (by omega))
      go_wp2_with fail
      go_ret
      exact ⟨rfl, hb6'⟩

theorem more_any (w : World) (A K : Option Addr) (n k c f : Nat) (l : List (Int × ByteArray)) (kind : Int) (s : ByteArray) (own : Int) (keys : List ByteArray) (key : ByteArray)
    (hl : Scps w w.heap.size A n l) (hk : Strs w w.heap.size K k keys) :
    Calls Try.prog 5 #[.slice A n c, .agg #[.int .i64 kind, .string s], .int .i64 own, .slice K k f, .string key] w fun e w' => e = .returned (.bool true) ∧ Below w.heap.size w w' := by
  by_cases h : n ≤ 50 ∧ 0 ≤ 50 ∧ k ≤ 50
  · exact more_few w A K n k c f l kind s own keys key hl hk h.1 h.2.2
  · go_enter Try.func5, Try.ntmps5
    go_wp2_with fail
    refine (few_no _ _ _ _ _ _ _ _ _ _ h).mono ?_
    rintro e w' ⟨rfl, rfl⟩
    go_wp2_with fail
    refine (awake_any _).mono ?_
    rintro e w5 ⟨rfl, hb5⟩
    have hb : Below w.heap.size w w5 := ((Below.refl _ _).alloc (Nat.le_refl _) _).trans (hb5.mono (by simp))
    go_wp2_with fail
    go_ret
    exact ⟨rfl, hb⟩
end Go.Proofs.Ytcpcohkfailmaaa
