/- Compile: a pattern's program, or the error -/
import Derived.Test.YthhgfahlamdgfaaRow
namespace Go.Proofs.Ythhgfahlamdgfaa
open Go.RowKit

def CompilePost (w : World) (s : ByteArray) (e : Ending) (w' : World) : Prop :=
  ∃ a k v, Compiles s.data.toList a k ∧ e = .returned (.tuple #[v, .int .i64 (k : Int)]) ∧ w'.ownsRow w.heap.size 31 7 v a.length (flatI a) ∧ Below w.heap.size w w'

theorem ret_e {a b : Int} {v : Value} (h : a = b) : Ending.returned (.tuple #[v, .int .i64 a]) = Ending.returned (.tuple #[v, .int .i64 b]) := by rw [h]

/-- what lies above is no old block: the parser was the call's own -/
theorem below_of_kept {w w0 wx : World} {g : Nat} (h0 : Below w.heap.size w w0) (hg : w.heap.size ≤ g) (h : w0.grownBy wx (some g)) : Below w.heap.size w wx :=
  h0.grown h h0.size (fun k hk => by injection hk; omega)

set_option maxHeartbeats 2000000 in
theorem compile_any (w : World) (s : ByteArray) (hs0 : s.size ≤ 9223372036854775807) : Calls Try.prog 12 #[.string s] w (CompilePost w s) := by
  have hlen : s.data.toList.length = s.size := by simp
  have HL := Lib.hid hlen
  clear hlen
  by_cases hs : s.size ≤ 256
  · have hp0 : Pars (w.alloc (Obj.cells #[.string s, .int .i64 0, .int .i64 0, .int .i64 0] 43)) w.heap.size s ⟨s.data.toList, 0, 0⟩ :=
      ⟨0, Nat.zero_le _, by simp, Blk.new w 43 #[.string s, .int .i64 0, .int .i64 0, .int .i64 0]⟩
    have hb0 := (Below.refl w.heap.size w).alloc (Nat.le_refl _) (Obj.cells #[.string s, .int .i64 0, .int .i64 0, .int .i64 0] 43)
    obtain ⟨i0, hi, hz0, hz1, hz2⟩ := info_parts inst_info
    have HP0 := Lib.hid hp0
    have HB0 := Lib.hid hb0
    clear hp0 hb0
    go_enter Try.func12, Try.ntmps12
    go_wp2_with fail
    have hlt : w.heap.size < (w.alloc (Obj.cells #[.string s, .int .i64 0, .int .i64 0, .int .i64 0] 43)).heap.size := HP0.out.lt
    generalize w.alloc (Obj.cells #[.string s, .int .i64 0, .int .i64 0, .int .i64 0] 43) = w0 at HP0 HB0 hlt ⊢
    refine ((pat_said s.size).1 w0 w.heap.size s _ HP0.out hs (by simp) (Nat.zero_le _)).mono ?_
    rintro e w1 ⟨f, a, s1, v1, hpar, rfl, hown, hp1, hg1⟩
    obtain ⟨A1, c1, rfl, _⟩ := own_reads hown
    obtain ⟨_, hlen1, _⟩ := parse_bound hpar (by omega)
    have hrb := room_bound HP0.out hs
    rw [if_neg (by omega)] at hlen1
    have hla : a.length ≤ 769 := by omega
    have HI := Lib.hid (show InPiece w0 w.heap.size s s1 _ _ _ w1 from ⟨hp1, hown, hg1⟩)
    have HPAR := Lib.hid hpar
    clear hpar hown hp1 hg1 hlen1 hrb
    go_wp2_with fail
    refine (ends_k w1 w.heap.size s s1 HI.out.1).mono ?_
    by_cases he : s1.e = 0
    · cases hen : s1.ends
      · have hrest : s1.rest ≠ [] := by obtain ⟨_, c, r, hr⟩ := not_ends hen; rw [hr]; simp
        have HR := Lib.hid hrest
        have hf : s1.fails 3 = { s1 with e := 3 } := by unfold St.fails; rw [if_pos he]
        have HE := Lib.hid he
        have HF := Lib.hid hf
        clear hrest hen he hf
        rintro e w2 ⟨rfl, hp2, hg2⟩
        have HI2 := Lib.hid (HI.out.call hlt hp2 hg2)
        clear HI hp2 hg2
        go_wp2_with fail
        refine (fails_any w2 w.heap.size s s1 HI2.out.1 3 _ rfl).mono ?_
        rintro e w3 ⟨rfl, hp3, hg3⟩
        have HI3 := Lib.hid (HI2.out.call hlt hp3 hg3)
        clear HI2 hp3 hg3
        have c3 := HI3.out.1.err
        rw [HF.out] at c3
        go_wp2_with fail
        go_quiet (fail)
        go_wp2_with fail
        go_ret2
        exact ⟨[], 3, _, .inr ⟨by rw [HL.out]; exact hs, f, a, s1, HPAR.out, .inr (.inl ⟨HE.out, HR.out, rfl, rfl⟩)⟩, rfl, World.ownsRow_nil _ _ _ _, below_drewN (below_of_kept HB0.out (Nat.le_refl _) HI3.out.2.2) _⟩
      · have hrest : s1.rest = [] := by
          unfold St.ends at hen
          rw [he] at hen
          simpa using hen
        have HR := Lib.hid hrest
        have HE := Lib.hid he
        clear hrest hen he
        rintro e w2 ⟨rfl, hp2, hg2⟩
        have HI2 := Lib.hid (HI.out.call hlt hp2 hg2)
        clear HI hp2 hg2
        have c3 := HI2.out.1.err
        rw [HE.out] at c3
        have s2 := HI2.out.2.2.size
        go_wp2_with
          (at_builtin
           refine wpList_append_any _ rfl (.tmp 28) (.tmp 30) _ rfl w0.heap.size 31 i0 _ 7 56 Try.underlying23 hi hz0 hz1 hz2 rfl (by omega) (.slice A1 a.length c1) a.length (flatI a) rfl (HI2.out.2.1.alloc _) (w2.heap.size + 1) (some ⟨w2.heap.size, 0, none⟩) 1 1 (flatI [done]) rfl ?_ (flatI_one _) (by simp only [maxLen]; omega) (by omega) ?_ ?_
           · simpa [cellsI, word_zero, done] using Reads.of_own (HI2.out.lit done).2
           · simp; omega
           intro v3 w3 hown3 hg3 hat3)
        go_ret2
        rw [← flatI_append] at hown3
        have hgrow := (HI2.out.below ((Below.refl _ _).alloc (Nat.le_refl _) (Obj.cells #[.int .i64 6, .int .u64 0, .int .u64 0, .int .u64 0, .int .u64 0, .int .i64 0, .int .i64 0] 31))).grow hlt (HI2.out.2.1.alloc _) hown3 hg3
        have hl : (a ++ [done]).length = a.length + 1 := by simp
        exact ⟨a ++ [done], 0, v3, .inr ⟨by rw [HL.out]; exact hs, f, a, s1, HPAR.out, .inl ⟨HE.out, HR.out, rfl, rfl⟩⟩, rfl, by rw [hl]; exact own_base hown3 HB0.out.size, below_of_kept HB0.out (Nat.le_refl _) hgrow.2.2⟩
    · have hen : s1.ends = true := by unfold St.ends; simp [he]
      rw [hen]
      have hb : ((s1.e : Int) != 0) = true := by rw [bne_iff_ne]; omega
      have HE := Lib.hid he
      clear hen he
      rintro e w2 ⟨rfl, hp2, hg2⟩
      have HI2 := Lib.hid (HI.out.call hlt hp2 hg2)
      clear HI hp2 hg2
      have c3 := HI2.out.1.err
      go_wp2_with fail
      go_quiet (fail)
      go_wp2_with fail
      go_ret2
      exact ⟨[], s1.e, _, .inr ⟨by rw [HL.out]; exact hs, f, a, s1, HPAR.out, .inr (.inr ⟨HE.out, rfl, rfl⟩)⟩, rfl, World.ownsRow_nil _ _ _ _, below_drewN (below_of_kept HB0.out (Nat.le_refl _) HI2.out.2.2) _⟩
  · have hs' : 256 < s.size := by omega
    go_enter Try.func12, Try.ntmps12
    go_wp2
    go_ret2
    exact ⟨[], 4, _, .inl ⟨by rw [HL.out]; exact hs', rfl, rfl⟩, rfl, World.ownsRow_nil _ _ _ _, Below.refl _ _⟩
end Go.Proofs.Ythhgfahlamdgfaa
