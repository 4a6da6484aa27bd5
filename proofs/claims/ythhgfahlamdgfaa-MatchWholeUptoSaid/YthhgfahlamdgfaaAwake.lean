/- walk of awake: it returns true; what was there stays -/
import Derived.Test.YthhgfahlamdgfaaCompile
namespace Go.Proofs.Ythhgfahlamdgfaa
open Go.RowKit

/-- what a call of Compile hands back, and what it keeps -/
theorem compile_reads (w : World) (s : ByteArray) (hs0 : s.size ≤ 9223372036854775807) :
    Calls Try.prog 12 #[.string s] w fun e w' => ∃ a k A c, Compiles s.data.toList a k ∧ e = .returned (.tuple #[.slice A a.length c, .int .i64 (k : Int)]) ∧ Reads w' w'.heap.size 7 A a.length (flatI a) ∧ Below w.heap.size w w' :=
  (compile_any w s hs0).mono fun e w' ⟨a, k, v, hc, he, ho, hb⟩ => by
    obtain ⟨A, c, rfl, hr⟩ := own_reads ho
    exact ⟨a, k, A, c, hc, he, hr, hb⟩

def star1 : List Inst := [⟨2, 0, 1, 3⟩, ⟨1, 2 ^ 97, 0, 0⟩, ⟨3, 0, 0, 0⟩, done]
theorem star1_said : Compiles [97, 42] star1 0 :=
  .inr ⟨by decide, 12, [⟨2, 0, 1, 3⟩, ⟨1, 2 ^ 97, 0, 0⟩, ⟨3, 0, 0, 0⟩], ⟨[], 0, 0⟩, rfl, .inl ⟨rfl, rfl, rfl, rfl⟩⟩

theorem awake_any (w : World) : Calls Try.prog 11 #[] w fun e w' => e = .returned (.bool true) ∧ Below w.heap.size w w' := by
  go_enter Try.func11, Try.ntmps11
  go_wp2_with fail
  refine (compile_reads w { data := #[97, 42] } (by decide)).mono ?_
  rintro e w1 ⟨a, k, A, c, hc, rfl, hr, hb⟩
  obtain ⟨rfl, rfl⟩ := hc.one star1_said
  rw [show star1.length = 4 from rfl] at hr ⊢
  obtain ⟨b0, o0, hA, _, h0⟩ := Reads.inst hr (show 0 < 4 by omega)
  obtain ⟨b2, o2, hA2, _, h2⟩ := Reads.inst hr (show 2 < 4 by omega)
  obtain ⟨b3, o3, hA3, _, h3⟩ := Reads.inst hr (show 3 < 4 by omega)
  subst hA
  obtain ⟨rfl, rfl⟩ : b0 = b2 ∧ o0 = o2 := by injection hA2 with h; injection h with h1 h2; exact ⟨h1, h2⟩
  obtain ⟨rfl, rfl⟩ : b0 = b3 ∧ o0 = o3 := by injection hA3 with h; injection h with h1 h2; exact ⟨h1, h2⟩
  have c0 : w1.cell? ⟨b0, o0, none⟩ = some (.int .i64 2) := h0 0 (by omega)
  have c6 : w1.cell? ⟨b0, o0 + 6, none⟩ = some (.int .i64 3) := h0 6 (by omega)
  have c14 : w1.cell? ⟨b0, o0 + 14, none⟩ = some (.int .i64 3) := h2 0 (by omega)
  have c21 : w1.cell? ⟨b0, o0 + 21, none⟩ = some (.int .i64 6) := h3 0 (by omega)
  clear h0 h2 h3
  go_wp2_with fail
  go_ret
  exact ⟨rfl, hb⟩
end Go.Proofs.Ythhgfahlamdgfaa
