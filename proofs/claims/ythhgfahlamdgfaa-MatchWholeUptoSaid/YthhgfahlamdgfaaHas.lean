/- has: a byte goes into a step's set -/
import Derived.Test.YthhgfahlamdgfaaPars
import Derived.Test.YthhgfahlamdgfaaInsts
namespace Go.Proofs.Ythhgfahlamdgfaa
open Go.RowKit

theorem has_0 (w : World) (h : Nat) (i : Inst) (hb : Blk w h 31 (cellsI i).toArray) (c : Nat) (h0 : 0 ≤ c) (h1 : c < 64) :
    Calls Try.prog 32 #[.pointer (some ⟨h, 0, none⟩), .int .u8 (c : Int)] w fun e w' => e = .returned (.tuple #[]) ∧ Blk w' h 31 (cellsI { i with set := i.set ||| 2 ^ c }).toArray ∧ w.grownBy w' (some h) := by
  obtain ⟨kind, set, x, y⟩ := i
  have d1 : w.cell? ⟨h, 1, none⟩ = some (.int .u64 (word set 0 : Int)) := by simpa [cellsI] using hb.cell 1
  have f1 := hb.frozen 1
  have e1 : (c : Int) / 64 = 0 := by omega
  have HB := Lib.hid hb
  clear hb
  go_enter Try.func32, Try.ntmps32
  go_wp2
  go_region
  go_end0
  refine ⟨rfl, ?_, only_drew (only_setCell (World.grownBy.refl _ _) (.inl rfl) _)⟩
  rw [word_has (m := set) (c := c) (j := 0) (by omega)]
  have hs := (HB.out.set_ 1 (.int .u64 ((word (set ||| 2 ^ c) 0 : Nat) : Int))).drew
  have o0 : word (set ||| 2 ^ c) 1 = word set 1 ∧ word (set ||| 2 ^ c) 2 = word set 2 ∧ word (set ||| 2 ^ c) 3 = word set 3 := ⟨word_other (by omega), word_other (by omega), word_other (by omega)⟩
  simp only [cellsI, o0] at hs ⊢
  simpa using hs

theorem has_1 (w : World) (h : Nat) (i : Inst) (hb : Blk w h 31 (cellsI i).toArray) (c : Nat) (h0 : 64 ≤ c) (h1 : c < 128) :
    Calls Try.prog 32 #[.pointer (some ⟨h, 0, none⟩), .int .u8 (c : Int)] w fun e w' => e = .returned (.tuple #[]) ∧ Blk w' h 31 (cellsI { i with set := i.set ||| 2 ^ c }).toArray ∧ w.grownBy w' (some h) := by
  obtain ⟨kind, set, x, y⟩ := i
  have d1 : w.cell? ⟨h, 2, none⟩ = some (.int .u64 (word set 1 : Int)) := by simpa [cellsI] using hb.cell 2
  have f1 := hb.frozen 2
  have e1 : (c : Int) / 64 = 1 := by omega
  have HB := Lib.hid hb
  clear hb
  go_enter Try.func32, Try.ntmps32
  go_wp2
  go_region
  go_end0
  refine ⟨rfl, ?_, only_drew (only_setCell (World.grownBy.refl _ _) (.inl rfl) _)⟩
  rw [word_has (m := set) (c := c) (j := 1) (by omega)]
  have hs := (HB.out.set_ 2 (.int .u64 ((word (set ||| 2 ^ c) 1 : Nat) : Int))).drew
  have o0 : word (set ||| 2 ^ c) 0 = word set 0 ∧ word (set ||| 2 ^ c) 2 = word set 2 ∧ word (set ||| 2 ^ c) 3 = word set 3 := ⟨word_other (by omega), word_other (by omega), word_other (by omega)⟩
  simp only [cellsI, o0] at hs ⊢
  simpa using hs

theorem has_2 (w : World) (h : Nat) (i : Inst) (hb : Blk w h 31 (cellsI i).toArray) (c : Nat) (h0 : 128 ≤ c) (h1 : c < 192) :
    Calls Try.prog 32 #[.pointer (some ⟨h, 0, none⟩), .int .u8 (c : Int)] w fun e w' => e = .returned (.tuple #[]) ∧ Blk w' h 31 (cellsI { i with set := i.set ||| 2 ^ c }).toArray ∧ w.grownBy w' (some h) := by
  obtain ⟨kind, set, x, y⟩ := i
  have d1 : w.cell? ⟨h, 3, none⟩ = some (.int .u64 (word set 2 : Int)) := by simpa [cellsI] using hb.cell 3
  have f1 := hb.frozen 3
  have e1 : (c : Int) / 64 = 2 := by omega
  have HB := Lib.hid hb
  clear hb
  go_enter Try.func32, Try.ntmps32
  go_wp2
  go_region
  go_end0
  refine ⟨rfl, ?_, only_drew (only_setCell (World.grownBy.refl _ _) (.inl rfl) _)⟩
  rw [word_has (m := set) (c := c) (j := 2) (by omega)]
  have hs := (HB.out.set_ 3 (.int .u64 ((word (set ||| 2 ^ c) 2 : Nat) : Int))).drew
  have o0 : word (set ||| 2 ^ c) 0 = word set 0 ∧ word (set ||| 2 ^ c) 1 = word set 1 ∧ word (set ||| 2 ^ c) 3 = word set 3 := ⟨word_other (by omega), word_other (by omega), word_other (by omega)⟩
  simp only [cellsI, o0] at hs ⊢
  simpa using hs

theorem has_3 (w : World) (h : Nat) (i : Inst) (hb : Blk w h 31 (cellsI i).toArray) (c : Nat) (h0 : 192 ≤ c) (h1 : c < 256) :
    Calls Try.prog 32 #[.pointer (some ⟨h, 0, none⟩), .int .u8 (c : Int)] w fun e w' => e = .returned (.tuple #[]) ∧ Blk w' h 31 (cellsI { i with set := i.set ||| 2 ^ c }).toArray ∧ w.grownBy w' (some h) := by
  obtain ⟨kind, set, x, y⟩ := i
  have d1 : w.cell? ⟨h, 4, none⟩ = some (.int .u64 (word set 3 : Int)) := by simpa [cellsI] using hb.cell 4
  have f1 := hb.frozen 4
  have e1 : (c : Int) / 64 = 3 := by omega
  have HB := Lib.hid hb
  clear hb
  go_enter Try.func32, Try.ntmps32
  go_wp2
  go_region
  go_end0
  refine ⟨rfl, ?_, only_drew (only_setCell (World.grownBy.refl _ _) (.inl rfl) _)⟩
  rw [word_has (m := set) (c := c) (j := 3) (by omega)]
  have hs := (HB.out.set_ 4 (.int .u64 ((word (set ||| 2 ^ c) 3 : Nat) : Int))).drew
  have o0 : word (set ||| 2 ^ c) 0 = word set 0 ∧ word (set ||| 2 ^ c) 1 = word set 1 ∧ word (set ||| 2 ^ c) 2 = word set 2 := ⟨word_other (by omega), word_other (by omega), word_other (by omega)⟩
  simp only [cellsI, o0] at hs ⊢
  simpa using hs

theorem has_nat (w : World) (h : Nat) (i : Inst) (hb : Blk w h 31 (cellsI i).toArray) (c : Nat) (hc : c < 256) (k : Int) (hk : k = (c : Int)) :
    Calls Try.prog 32 #[.pointer (some ⟨h, 0, none⟩), .int .u8 k] w fun e w' => e = .returned (.tuple #[]) ∧ Blk w' h 31 (cellsI { i with set := i.set ||| 2 ^ c }).toArray ∧ w.grownBy w' (some h) := by
  subst hk
  by_cases h0 : c < 64
  · exact has_0 w h i hb c (by omega) h0
  · by_cases h1 : c < 128
    · exact has_1 w h i hb c (by omega) h1
    · by_cases h2 : c < 192
      · exact has_2 w h i hb c (by omega) h2
      · exact has_3 w h i hb c (by omega) (by omega)
end Go.Proofs.Ythhgfahlamdgfaa
