/- either: the steps of one of two -/
import Derived.Test.YthhgfahlamdgfaaAtom
import Derived.Test.YthhgfahlamdgfaaMoved
namespace Go.Proofs.Ythhgfahlamdgfaa
open Go.RowKit

theorem own_reads {w : World} {base e size n : Nat} {v : Value} {xs : List Value} (h : w.ownsRow base e size v n xs) : ∃ A c, v = .slice A n c ∧ Reads w w.heap.size size A n xs := by
  rcases h.2 with ⟨rfl, rfl⟩ | ⟨g, cap, cur, rfl, _, hg, _⟩
  · exact ⟨none, 0, rfl, Reads.of_own h⟩
  · exact ⟨_, _, rfl, Reads.of_own h⟩

theorem own_lit {w : World} {base : Nat} (i : Inst) (hb : base ≤ w.heap.size) : (w.alloc (.cells (cellsI i).toArray 31)).ownsRow base 31 7 (.slice (some ⟨w.heap.size, 0, none⟩) 1 1) 1 (flatI [i]) := by
  have := World.ownsRow_lit (base := base) (e := 31) (size := 7) w (cellsI i).toArray 1 hb (by decide) rfl
  simpa [flatI] using this

theorem below_own {w1 w2 : World} {base e size n : Nat} {v : Value} {xs : List Value} (h : w1.ownsRow base e size v n xs) (hb : Below w1.heap.size w1 w2) : w2.ownsRow base e size v n xs :=
  h.kept (only_of_below hb (row := none)) (by cases v.ownBlock <;> simp)

set_option maxHeartbeats 2000000 in
theorem either_any (w : World) (A B : Option Addr) (n m c d : Nat) (a b : List Inst) (ha : Reads w w.heap.size 7 A n (flatI a)) (hb : Reads w w.heap.size 7 B m (flatI b)) (hn : n ≤ 900) (hm : m ≤ 900)
    (hia : AllInside a) (hib : AllInside b) (han : a.length = n) (hbm : b.length = m) :
    Calls Try.prog 22 #[.slice A n c, .slice B m d] w fun e w' => ∃ v, e = .returned v ∧ w'.ownsRow w.heap.size 31 7 v (either a b).length (flatI (either a b)) ∧ Below w.heap.size w w' := by
  obtain ⟨i0, hi, hz0, hz1, hz2⟩ := info_parts inst_info
  have HIA := Lib.hid (show ∀ i ∈ a, i.x ≤ 2000 ∧ i.y ≤ 2000 from fun i hi => by have := hia i hi; exact ⟨by have := this.1; omega, by have := this.2.1; omega⟩)
  have HIB := Lib.hid (show ∀ i ∈ b, i.x ≤ 2000 ∧ i.y ≤ 2000 from fun i hi => by have := hib i hi; exact ⟨by have := this.1; omega, by have := this.2.1; omega⟩)
  have HAN := Lib.hid han
  have HBM := Lib.hid hbm
  clear hia hib han hbm
  go_enter Try.func22, Try.ntmps22
  go_wp2_with fail
  have hl1 : (w.alloc (Obj.cells #[.int .i64 2, .int .u64 0, .int .u64 0, .int .u64 0, .int .u64 0, .int .i64 1, .int .i64 ((n : Int) + 2)] 31)).ownsRow w.heap.size 31 7 (.slice (some ⟨w.heap.size, 0, none⟩) 1 1) 1 (flatI [⟨2, 0, 1, n + 2⟩]) := by
    have := own_lit (base := w.heap.size) (w := w) ⟨2, 0, 1, n + 2⟩ (Nat.le_refl _)
    simpa [cellsI, word_zero] using this
  have hb1 := (Below.refl w.heap.size w).alloc (Nat.le_refl _) (Obj.cells #[.int .i64 2, .int .u64 0, .int .u64 0, .int .u64 0, .int .u64 0, .int .i64 1, .int .i64 ((n : Int) + 2)] 31)
  generalize w.alloc (Obj.cells #[.int .i64 2, .int .u64 0, .int .u64 0, .int .u64 0, .int .u64 0, .int .i64 1, .int .i64 ((n : Int) + 2)] 31) = w1 at hl1 hb1 ⊢
  have s1 := hb1.size
  refine (moved_any w1 A n c a 1 1 rfl ((ha.below hb1).more s1) (by omega) (by omega) HIA.out).mono ?_
  rintro e w2 ⟨v2, rfl, hown2, hb2⟩
  obtain ⟨A2, c2, rfl, hr2⟩ := own_reads hown2
  have hl1 := below_own hl1 hb2
  have hb2 := hb1.trans (hb2.mono s1)
  have s2 := hb2.size
  clear hb1 s1 hown2
  go_wp2_with (first
    | (at_builtin
       refine wpList_append_any _ rfl (.tmp 12) (.tmp 14) _ rfl w.heap.size 31 i0 _ 7 56 Try.underlying23 hi hz0 hz1 hz2 rfl (by omega) (.slice (some ⟨w.heap.size, 0, none⟩) 1 1) 1 (flatI [⟨2, 0, 1, n + 2⟩]) rfl hl1 w2.heap.size A2 n c2 (flatI (moved a 1)) rfl hr2 (flatI_one _) (by simp only [maxLen]; omega) (by omega) s2 ?_
       intro v3 w3 hown3 hg3 hat3
       have hb3 := hb2.grown hg3 s2 (by intro q hq; simp [Value.ownBlock] at hq; omega)
       have s3 := hb3.size
       obtain ⟨A3, c3, hv3, _⟩ := own_reads hown3
       subst hv3
       clear hb2 s2 hl1 hg3 hat3)
    | (at_builtin
       refine wpList_append_any _ rfl (.tmp 16) (.tmp 23) _ rfl w.heap.size 31 i0 _ 7 56 Try.underlying23 hi hz0 hz1 hz2 rfl (by omega) (.slice A3 (1 + n) c3) (1 + n) (flatI [⟨2, 0, 1, n + 2⟩] ++ flatI (moved a 1)) rfl (hown3.alloc _) (w3.heap.size + 1) (some ⟨w3.heap.size, 0, none⟩) 1 1 (flatI [⟨3, 0, n + 2 + m, 0⟩]) rfl ?_ (flatI_one _) (by simp only [maxLen]; omega) (by omega) (by simp; omega) ?_
       · have := Reads.of_own (own_lit (base := 0) (w := w3) ⟨3, 0, n + 2 + m, 0⟩ (Nat.zero_le _))
         simpa [cellsI, word_zero] using this
       intro v4 w4 hown4 hg4 hat4))
  have hb4 := (hb3.alloc s3 (Obj.cells #[.int .i64 3, .int .u64 0, .int .u64 0, .int .u64 0, .int .u64 0, .int .i64 ((n : Int) + 2 + (m : Int)), .int .i64 0] 31)).grown hg4 (by simp; omega) (by intro q hq; have := (hown3.lt q hq).1; omega)
  have s4 := hb4.size
  clear hb3 s3 hown3 hg4 hat4 hr2
  refine (moved_any w4 B m d b (n + 2) _ (by omega) ((hb.below hb4).more s4) (by omega) (by omega) HIB.out).mono ?_
  rintro e w5 ⟨v5, rfl, hown5, hb5⟩
  obtain ⟨A5, c5, rfl, hr5⟩ := own_reads hown5
  have hown4 := below_own hown4 hb5
  have hb5 := hb4.trans (hb5.mono s4)
  have s5 := hb5.size
  clear hb4 s4 hown5
  go_wp2_with (at_builtin; refine wpList_append_any _ rfl (.tmp 25) (.tmp 29) _ rfl w.heap.size 31 i0 _ 7 56 Try.underlying23 hi hz0 hz1 hz2 rfl (by omega) v4 (1 + n + 1) (flatI [⟨2, 0, 1, n + 2⟩] ++ flatI (moved a 1) ++ flatI [⟨3, 0, n + 2 + m, 0⟩]) rfl hown4 w5.heap.size A5 m c5 (flatI (moved b (n + 2))) rfl hr5 (flatI_one _) (by simp only [maxLen]; omega) (by omega) s5 ?_; intro v6 w6 hown6 hg6 hat6)
  go_ret
  have he : flatI [⟨2, 0, 1, n + 2⟩] ++ flatI (moved a 1) ++ flatI [⟨3, 0, n + 2 + m, 0⟩] ++ flatI (moved b (n + 2)) = flatI (either a b) := by
    unfold either
    rw [HAN.out, HBM.out]
    simp [flatI]
  have hlen : 1 + n + 1 + m = (either a b).length := by rw [either_length, HAN.out, HBM.out]; omega
  rw [he, hlen] at hown6
  exact ⟨v6, rfl, hown6, hb5.grown hg6 s5 (by intro q hq; have := (hown4.lt q hq).1; omega)⟩
end Go.Proofs.Ythhgfahlamdgfaa
