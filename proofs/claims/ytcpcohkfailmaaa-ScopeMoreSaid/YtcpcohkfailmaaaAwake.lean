/- walk of awake: it returns true; what was there stays -/
import Derived.Test.YtcpcohkfailmaaaTrusts
namespace Go.Proofs.Ytcpcohkfailmaaa
open Go.RowKit

theorem tr_awake (w : World) : Calls Try.prog 12 #[.slice none 0 0, .slice none 0 0, .int .i64 2, .slice none 0 0] w fun e w' => e = .returned (.int .u32 32773) ∧ Below w.heap.size w w' :=
  (tr_any w none none none 0 0 0 0 0 0 [] [] 2 [] (Scps.nil _ _ _) (Scps.nil _ _ _) (Strs.nil _ _ _) (by omega) (by omega) (by omega)).mono fun _ _ ⟨he, hb⟩ => ⟨by rw [he]; rfl, hb⟩

/-- one scope, all blocks below: a literal of the program's -/
theorem of_prev (w : World) (b : Nat) (key : ByteArray) (own : Int) (K : Option Addr) (m d : Nat) (keys : List ByteArray) (hb : b < w.heap.size) (h1 : w.cell? ⟨b, 0, none⟩ = some (.int .i64 2)) (h2 : w.cell? ⟨b, 1, none⟩ = some (.string key))
    (hk : Strs w w.heap.size K m keys) (hm : m ≤ 140737488351232) :
    Calls Try.prog 10 #[.slice (some ⟨b, 0, none⟩) 1 1, .int .i64 own, .slice K m d] w fun e w' => e = .returned (.int .u32 (stepMask 2 key own keys : Nat)) ∧ Below w.heap.size w w' :=
  (of_any w (some ⟨b, 0, none⟩) 1 1 [(2, key)] own K m d keys ⟨rfl, fun _ => ⟨b, 0, rfl, hb, fun k hk => by
    obtain rfl : k = 0 := by omega
    exact ⟨by simpa using h1, by simpa using h2⟩⟩⟩ hk (by omega) hm).mono fun _ _ ⟨he, hb⟩ => ⟨by rw [he]; simp [ofMask], hb⟩

theorem awake_any (w : World) : Calls Try.prog 9 #[] w fun e w' => e = .returned (.bool true) ∧ Below w.heap.size w w' := by
  go_enter Try.func9, Try.ntmps9
  go_wp2_with fail
  refine (tr_awake _).mono ?_
  rintro e w1 ⟨rfl, hb1⟩
  go_wp2_with fail
  refine (of_prev _ _ ({ data := #[] } : ByteArray) 3 _ _ _ [] (by simp) (by simp) (by simp) (Strs.nil _ _ _) (by omega)).mono ?_
  rintro e w2 ⟨rfl, hb2⟩
  have hs := step_prev ({ data := #[] } : ByteArray) (own := 3) [] (by omega) (by omega)
  rw [hs]
  go_wp2_with fail
  go_ret
  have h1 := hb1.size
  exact ⟨rfl, (hb1.alloc hb1.size _).trans (hb2.mono (by simp; omega))⟩
end Go.Proofs.Ytcpcohkfailmaaa
