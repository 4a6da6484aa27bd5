/- walk of SymbolRow -/
import Derived.Test.YtmomebakkpjdgaaDoorNil
import Derived.SliceStrings
namespace Go.Proofs.YtmomebakkpjdgaaDoor
open Go.RowKit Go.Maps

/-! ### a slice of texts -/
def Strs (w : World) (B : Nat) (A : Option Addr) (n : Nat) (ss : List ByteArray) : Prop :=
  ss.length = n ∧ (∀ s ∈ ss, s.size ≤ maxLen) ∧ (0 < n → ∃ b off, A = some ⟨b, off, none⟩ ∧ b < B ∧ ∀ k, k < n → w.cell? ⟨b, off + k, none⟩ = some (.string (ss.getD k ByteArray.empty)))
theorem Strs.nil (w : World) (B : Nat) (A : Option Addr) : Strs w B A 0 [] := ⟨rfl, by simp, fun h => by omega⟩
theorem Strs.below {w w' : World} {B n : Nat} {A : Option Addr} {ss : List ByteArray} (h : Strs w B A n ss) (hb : Below B w w') : Strs w' B A n ss := by
  refine ⟨h.1, h.2.1, fun hn => ?_⟩
  obtain ⟨b, off, hA, hlt, hc⟩ := h.2.2 hn
  exact ⟨b, off, hA, hlt, fun k hk => (hb.cell hlt).trans (hc k hk)⟩
theorem Strs.size {w : World} {B n : Nat} {A : Option Addr} {ss : List ByteArray} (h : Strs w B A n ss) {k : Nat} (hk : k < n) : (ss.getD k ByteArray.empty).size ≤ maxLen := by
  have hl : k < ss.length := by rw [h.1]; exact hk
  have : ss.getD k ByteArray.empty ∈ ss := by
    simp only [List.getD, List.getElem?_eq_getElem hl, Option.getD_some]
    exact List.getElem_mem hl
  exact h.2.1 _ this

theorem lt_of_cell {w : World} {a : Addr} {v : Value} (h : w.cell? a = some v) : a.block < w.heap.size := by
  unfold World.cell? at h
  rcases Nat.lt_or_ge a.block w.heap.size with hlt | hge
  · exact hlt
  · rw [Array.getElem?_eq_none hge] at h; cases h

open Go.WideShapes Go.ChangeShapes in
theorem open_strs {H : Type} {enc : TypeId × Value → H} {P : Program} {w : World} {base : Nat} {spare : Nat → Bool} {held : Bool} {t e : TypeId} {fuel : Nat} {A : Option Addr} {n c : Nat} {x : DataW H × List MemPlace} (ht : P.underlying t = some (.slice e)) (he : P.underlying e = some .string) (hc : P.cellsOf e = 1)
    (h : DataW.trod enc P w base spare held fuel t [.slice A n c] = some x) : ∃ ss, Strs w w.heap.size A n ss := by
  rcases open_strings ht he hc h with ⟨hcs, _⟩ | ⟨a, len', cap', ss, hcs, _, hl, hm, hz, hx, hcell, hws⟩
  · simp at hcs
    obtain ⟨rfl, rfl, rfl⟩ := hcs
    exact ⟨[], Strs.nil _ _ _⟩
  · simp at hcs
    obtain ⟨rfl, rfl, rfl⟩ := hcs
    have hlen : n ≤ ss.length := by rw [hz]; split <;> omega
    refine ⟨ss.take n, by simp [hlen], fun s hs => hws s (List.mem_of_mem_take hs), fun hn => ?_⟩
    obtain ⟨b, off, spot⟩ := a
    have h0 := hcell 0 (by omega)
    have hspot : spot = none := by simpa [Addr.add] using World.cell?_spot h0
    subst hspot
    refine ⟨b, off, rfl, by simpa [Addr.add] using lt_of_cell h0, fun k hk => ?_⟩
    have h1 := hcell k (by omega)
    rw [Go.WideShapes.add_plain] at h1
    rw [h1]
    simp [List.getD, hk]

/-! ### the plain law -/
structure RowInv (own P : List (List UInt8)) (F : List UInt8 → Option Nat) : Prop where
  seen : ∀ l, l ∈ P → ∃ k, numOf own l = some k ∧ F l = some (k + 1)
  new : ∀ l, ¬ l ∈ P → F l = none
  mine : ∀ l, l ∈ own → l ∈ P

theorem RowInv.start : RowInv [] [] (fun _ => none) := ⟨fun l h => by simp at h, fun _ _ => rfl, fun l h => by simp at h⟩
theorem RowInv.known {own P : List (List UInt8)} {F : List UInt8 → Option Nat} {l : List UInt8} {k : Nat} (h : RowInv own P F) (hk : numOf own l = some k) : RowInv own (P ++ [l]) (addNum F l (k + 1)) := by
  refine ⟨fun x hx => ?_, fun x hx => ?_, fun x hx => List.mem_append_left _ (h.mine x hx)⟩
  · unfold addNum
    by_cases e : x = l
    · subst e; rw [if_pos rfl]; exact ⟨k, hk, rfl⟩
    · rw [if_neg e]
      rcases List.mem_append.1 hx with hx | hx
      · exact h.seen x hx
      · exact absurd (List.mem_singleton.1 hx) e
  · rw [List.mem_append, not_or] at hx
    unfold addNum
    rw [if_neg (fun e => hx.2 (by rw [e]; exact List.mem_singleton.2 rfl))]
    exact h.new x hx.1
theorem RowInv.fresh {own P : List (List UInt8)} {F : List UInt8 → Option Nat} {l : List UInt8} (h : RowInv own P F) (hk : numOf own l = none) : RowInv (own ++ [l]) (P ++ [l]) (addNum F l (1024 + own.length + 1)) := by
  refine ⟨fun x hx => ?_, fun x hx => ?_, fun x hx => ?_⟩
  · rw [numOf_snoc hk]
    unfold addNum
    by_cases e : x = l
    · subst e; rw [if_pos rfl, if_pos rfl]; exact ⟨_, rfl, rfl⟩
    · rw [if_neg e, if_neg e]
      rcases List.mem_append.1 hx with hx | hx
      · exact h.seen x hx
      · exact absurd (List.mem_singleton.1 hx) e
  · rw [List.mem_append, not_or] at hx
    unfold addNum
    rw [if_neg (fun e => hx.2 (by rw [e]; exact List.mem_singleton.2 rfl))]
    exact h.new x hx.1
  · rcases List.mem_append.1 hx with hx | hx
    · exact List.mem_append_left _ (h.mine x hx)
    · exact List.mem_append_right _ hx
theorem RowInv.not_fresh {own P : List (List UInt8)} {F : List UInt8 → Option Nat} {l : List UInt8} (h : RowInv own P F) (hk : numOf own l = none) : F l = none := by
  refine h.new l (fun hl => ?_)
  obtain ⟨k, h1, _⟩ := h.seen l hl
  rw [hk] at h1; cases h1
theorem own_of_big {own : List (List UInt8)} {l : List UInt8} {k : Nat} (hk : numOf own l = some k) (h : 1024 ≤ k) : l ∈ own := by
  unfold numOf at hk
  split at hk
  · rename_i i hi
    injection hk with hk
    have := known_lt hi
    omega
  · obtain ⟨j, hj, _⟩ := Option.map_eq_some_iff.1 hk
    exact List.mem_of_getElem? (idx_get hj)
/-- what is found of a text that has a number: what it was, or a known one's that is new -/
theorem RowInv.was {own P : List (List UInt8)} {F : List UInt8 → Option Nat} {l : List UInt8} {k : Nat} (h : RowInv own P F) (hk : numOf own l = some k) : F l = some (k + 1) ∨ (F l = none ∧ k < 1024) := by
  by_cases hl : l ∈ P
  · obtain ⟨q, h1, h2⟩ := h.seen l hl
    rw [hk] at h1; injection h1 with h1; subst h1
    exact .inl h2
  · right
    refine ⟨h.new l hl, ?_⟩
    rcases Nat.lt_or_ge k 1024 with h1 | h1
    · exact h1
    · exact absurd (h.mine l (own_of_big hk h1)) hl

theorem numberOf_some {own : List (List UInt8)} {l : List UInt8} {k : Nat} (h : numOf own l = some k) : numberOf own l = (k, true, own) := by unfold numberOf; rw [h]
theorem numberOf_none {own : List (List UInt8)} {l : List UInt8} (h : numOf own l = none) (h1 : l.length ≤ 256) (h2 : own.length < 1000) : numberOf own l = (1024 + own.length, true, own ++ [l]) := by
  unfold numberOf; rw [h]; simp; omega
theorem numOf_lt {own : List (List UInt8)} {l : List UInt8} {k : Nat} (h : numOf own l = some k) (hl : own.length ≤ 1000) : k < 2024 := by
  unfold numOf at h
  split at h
  · rename_i i hi
    injection h with h
    have := known_lt hi
    omega
  · obtain ⟨j, hj, h⟩ := Option.map_eq_some_iff.1 h
    have := (List.getElem?_eq_some_iff.1 (idx_get hj)).1
    omega

/-- a map of another's is no block of a table -/
theorem Tab.not_map {w : World} {B gt bm fb n : Nat} {v : Value} {own : List (List UInt8)} {F : List UInt8 → Option Nat} (h : Tab w B gt bm v own) (hm : NumMap w fb n F) (hne : fb ≠ bm) {k : Nat} (hk : Foot gt bm v k) : k ≠ fb := by
  obtain ⟨es, clock, hf⟩ := hm.is
  rintro rfl
  rcases hk with rfl | hk | hk
  · have h1 : w.heap[k]? = _ := h.1
    rw [hf] at h1; cases h1
  · exact hne hk
  · rcases h.2.1.2 with ⟨rfl, _⟩ | ⟨g, cap, cur, rfl, _, hg, _⟩
    · simp [Value.ownBlock] at hk
    · have : g = k := by simpa [Value.ownBlock] using hk
      subst this
      rw [hf] at hg
      cases hg

/-- Own: a copy -/
theorem own_any (w : World) (B gt bm : Nat) (v : Value) (own : List (List UInt8)) (h : Tab w B gt bm v own) :
    Calls Tryd.prog 10 #[.pointer (some ⟨gt, 0, none⟩)] w fun e w' => ∃ v', e = .returned v' ∧ w'.ownsRow w.heap.size 9 1 v' own.length (own.map strV) ∧ Below w.heap.size w w' := by
  obtain ⟨hb, hown, _, _, _, hlen, _, _⟩ := h
  have c1 : w.cell? ⟨gt, 1, none⟩ = some v := by simpa using hb.cell 1
  rcases hown.2 with ⟨rfl, h0⟩ | ⟨g, cap, cur, rfl, hg, hh, hn, hcap, hsz, htake⟩
  · have ho : own = [] := List.eq_nil_of_length_eq_zero h0
    subst ho
    go_enter Tryd.func10, Tryd.ntmps10
    go_wp2_with fail
    refine (Tryd.slices_Clone_string_nil 0 0 w).mono ?_
    rintro e w1 ⟨rfl, rfl⟩
    go_wp2_with fail
    go_ret
    exact ⟨_, rfl, World.ownsRow_nil _ _ _ _, Below.refl _ _⟩
  · have hcell : ∀ j, j < (own.map (fun l => (⟨l.toArray⟩ : ByteArray))).length → w.cell? ⟨g, 0 + j, none⟩ = some (.string ((own.map (fun l => (⟨l.toArray⟩ : ByteArray))).getD j ByteArray.empty)) := by
      intro j hj
      rw [List.length_map] at hj
      have := hown.cellAt j (by omega)
      rw [Nat.zero_add, this]
      simp [strV, List.getD, List.getElem?_eq_getElem hj]
    have hc := Tryd.slices_Clone_string g 0 own.length cap (own.map (fun l => (⟨l.toArray⟩ : ByteArray))) w (by simp) (by omega) hcell
    go_enter Tryd.func10, Tryd.ntmps10
    go_wp2_with fail
    refine hc.mono ?_
    rintro e w1 ⟨v', rfl, ho, _, hbl⟩
    go_wp2_with fail
    go_ret
    refine ⟨v', rfl, ?_, hbl⟩
    rw [List.take_of_length_le (by simp), List.map_map] at ho
    exact ho
end Go.Proofs.YtmomebakkpjdgaaDoor
