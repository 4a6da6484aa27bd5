/- numbers of texts: lists; a map that holds them -/
import Derived.Test.YtmomebakkpjdgaaDoorProg
import Derived.Test.YtmomebakkpjdgaaDoorWords
import Derived.Maps.Own
import Derived.Maps.OwnOps
import Derived.Maps.OwnSet
import Derived.Maps.Views
import Derived.Lib.Hide
import Derived.StringKeys
namespace Go.Proofs.YtmomebakkpjdgaaDoor
open Go.RowKit Go.Maps Go.WideMaps

/-! ### where a text stands -/
def idx : List (List UInt8) → List UInt8 → Option Nat
  | [], _ => none
  | x :: L, l => if x = l then some 0 else (idx L l).map (· + 1)

theorem idx_get : ∀ {L : List (List UInt8)} {l : List UInt8} {i : Nat}, idx L l = some i → L[i]? = some l
  | [], _, _, h => by cases h
  | x :: L, l, i, h => by
    unfold idx at h
    split at h
    · rename_i hx
      injection h with h
      subst h hx
      rfl
    · obtain ⟨j, hj, rfl⟩ := Option.map_eq_some_iff.1 h
      have h2 := idx_get hj
      simpa using h2
theorem idx_none : ∀ {L : List (List UInt8)} {l : List UInt8}, idx L l = none → ¬ l ∈ L
  | [], _, _ => by simp
  | x :: L, l, h => by
    unfold idx at h
    split at h
    · cases h
    · rename_i hx
      have := idx_none (Option.map_eq_none_iff.1 h)
      rw [List.mem_cons]
      rintro (h1 | h1)
      · exact hx h1.symm
      · exact this h1
theorem idx_append (A B : List (List UInt8)) (l : List UInt8) : idx (A ++ B) l = match idx A l with | some i => some i | none => (idx B l).map (A.length + ·) := by
  induction A with
  | nil =>
    simp [idx]
  | cons x A ih =>
    rw [List.cons_append, idx, idx]
    split
    · rfl
    · rw [ih]
      cases idx A l with
      | some i => rfl
      | none =>
        cases idx B l with
        | none => rfl
        | some j => simp; omega

def addNum (f : List UInt8 → Option Nat) (s : List UInt8) (k : Nat) : List UInt8 → Option Nat := fun l => if l = s then some k else f l

theorem idx_snoc {A : List (List UInt8)} {s : List UInt8} (h : idx A s = none) (l : List UInt8) : idx (A ++ [s]) l = addNum (idx A) s A.length l := by
  rw [idx_append]
  unfold addNum
  by_cases hl : l = s
  · subst hl
    rw [h]; simp [idx]
  · rw [if_neg hl]
    cases hA : idx A l with
    | some i => rfl
    | none => simp [idx, Ne.symm hl]

/-- what each table knows of itself -/
def knownL : List (List UInt8) := [[114, 101, 97, 100], [119, 114, 105, 116, 101], [114, 101, 115, 111, 117, 114, 99, 101], [111, 112, 101, 114, 97, 116, 105, 111, 110], [114, 105, 103, 104, 116], [116, 105, 109, 101], [114, 111, 108, 101], [111, 119, 110, 101, 114], [116, 101, 110, 97, 110, 116], [117, 115, 101, 114], [116, 101, 97, 109], [115, 101, 114, 118, 105, 99, 101], [97, 100, 109, 105, 110], [101, 109, 97, 105, 108], [103, 114, 111, 117, 112], [109, 101, 109, 98, 101, 114]]

/-- a text's number -/
def numOf (own : List (List UInt8)) (l : List UInt8) : Option Nat := match idx knownL l with | some i => some i | none => (idx own l).map (1024 + ·)

theorem numOf_nil : numOf [] = idx knownL := by
  funext l
  unfold numOf
  cases idx knownL l <;> rfl
theorem numOf_snoc {own : List (List UInt8)} {s : List UInt8} (h : numOf own s = none) : numOf (own ++ [s]) = addNum (numOf own) s (1024 + own.length) := by
  funext l
  have hk : idx knownL s = none := by
    unfold numOf at h
    split at h
    · cases h
    · assumption
  have ho : idx own s = none := by
    unfold numOf at h
    rw [hk] at h
    exact Option.map_eq_none_iff.1 h
  unfold numOf
  rw [idx_snoc ho]
  unfold addNum
  by_cases hl : l = s
  · subst hl
    rw [hk]; simp
  · rw [if_neg hl, if_neg hl]

/-- each of its own has its number -/
def Good (own : List (List UInt8)) : Prop := ∀ i l, own[i]? = some l → numOf own l = some (1024 + i)
theorem good_nil : Good [] := fun i l h => by simp at h
theorem Good.snoc {own : List (List UInt8)} {s : List UInt8} (h : Good own) (hs : numOf own s = none) : Good (own ++ [s]) := by
  intro i l hi
  rw [numOf_snoc hs]
  unfold addNum
  rcases Nat.lt_or_ge i own.length with hlt | hge
  · rw [List.getElem?_append_left hlt] at hi
    have h1 := h i l hi
    rw [if_neg (fun e => by rw [e, hs] at h1; cases h1)]
    exact h1
  · rw [List.getElem?_append_right hge] at hi
    have : i - own.length = 0 := by
      rcases Nat.eq_zero_or_pos (i - own.length) with h0 | h0
      · exact h0
      · rw [List.getElem?_eq_none (by simp; omega)] at hi; cases hi
    rw [this] at hi
    injection hi with hi
    subst hi
    rw [if_pos rfl]
    congr 1; omega
theorem known_lt {l : List UInt8} {i : Nat} (h : idx knownL l = some i) : i < 16 := by
  have := (List.getElem?_eq_some_iff.1 (idx_get h)).1
  exact this

/-! ### a map that holds numbers -/
def NumMap (w : World) (bm n : Nat) (f : List UInt8 → Option Nat) : Prop :=
  ∃ D : DataW Unit, w.ownsMap Tryd.prog 9 (plainElem Tryd.prog 3) bm n D ∧ ∀ l, Maps.has D (.string l) = (f l).isSome ∧ ∀ k, f l = some k → ∀ z, D.atKey (.string l) z = .lit (.int .i64 (k : Int))

theorem keyLaw : Keyed Tryd.prog 9 := string_keyed Tryd.underlying9
theorem zero3 (w : World) : (zeroValue 3).run Tryd.prog w = .ok (.int .i64 0) w := by kernel_rfl
theorem key_mk {s : ByteArray} (hs : s.size ≤ maxLen) : keyOf Tryd.prog 9 (.string s) = some (.string s.data.toList) := keyOf_string_mk Tryd.underlying9 hs

theorem NumMap.made (w : World) : NumMap (w.alloc (.map #[] 0)) w.heap.size 0 (fun _ => none) :=
  ⟨.map [], World.ownsMap_made _ _ _ _, fun l => ⟨rfl, fun k h => by cases h⟩⟩
theorem NumMap.lt {w : World} {bm n : Nat} {f : List UInt8 → Option Nat} (h : NumMap w bm n f) : bm < w.heap.size := by
  obtain ⟨D, h, _⟩ := h; exact h.lt
theorem NumMap.mono {w : World} {bm n n' : Nat} {f : List UInt8 → Option Nat} (h : NumMap w bm n f) (hn : n ≤ n') : NumMap w bm n' f := by
  obtain ⟨D, h, h2⟩ := h; exact ⟨D, h.mono hn, h2⟩
theorem NumMap.heap {w w' : World} {bm n : Nat} {f : List UInt8 → Option Nat} (h : NumMap w bm n f) (hb : w'.heap[bm]? = w.heap[bm]?) : NumMap w' bm n f := by
  obtain ⟨D, ⟨es, clock, h1, h2⟩, h3⟩ := h
  exact ⟨D, ⟨es, clock, hb.trans h1, h2⟩, h3⟩
theorem NumMap.is {w : World} {bm n : Nat} {f : List UInt8 → Option Nat} (h : NumMap w bm n f) : ∃ es clock, w.heap[bm]? = some (.map es clock) := by
  obtain ⟨D, ⟨es, clock, h1, _⟩, _⟩ := h; exact ⟨es, clock, h1⟩
theorem NumMap.put {w' : World} {bm n k : Nat} {f : List UInt8 → Option Nat} {s : List UInt8} {D : DataW Unit} (hD : Maps.IsMap D)
    (hf : ∀ l, Maps.has D (.string l) = (f l).isSome ∧ ∀ k, f l = some k → ∀ z, D.atKey (.string l) z = .lit (.int .i64 (k : Int)))
    (h : w'.ownsMap Tryd.prog 9 (plainElem Tryd.prog 3) bm n (D.put (.string s) (.lit (.int .i64 (k : Int))))) : NumMap w' bm n (addNum f s k) := by
  refine ⟨_, h, fun l => ?_⟩
  by_cases hl : l = s
  · subst hl
    unfold addNum
    rw [if_pos rfl]
    refine ⟨has_put_same hD (by trivial) _, fun k' hk' z => ?_⟩
    injection hk' with hk'
    subst hk'
    exact atKey_put_same hD (by trivial) _ _
  · have hne : (Lit.string l) ≠ .string s := fun e => by injection e with e; exact hl e
    unfold addNum
    rw [if_neg hl]
    refine ⟨by rw [has_put_other hne]; exact (hf l).1, fun k' hk' z => ?_⟩
    rw [atKey_put_other hne]
    exact (hf l).2 k' hk' z
theorem NumMap.look {D : DataW Unit} {f : List UInt8 → Option Nat} (hf : ∀ l, Maps.has D (.string l) = (f l).isSome ∧ ∀ k, f l = some k → ∀ z, D.atKey (.string l) z = .lit (.int .i64 (k : Int))) {l : List UInt8} {c : Int}
    (hat : D.atKey (.string l) (.lit (.int .i64 0)) = .lit (.int .i64 c)) : (f l = none ∧ c = 0 ∧ Maps.has D (.string l) = false) ∨ ∃ k, f l = some k ∧ c = (k : Int) ∧ Maps.has D (.string l) = true := by
  obtain ⟨h1, h2⟩ := hf l
  cases hl : f l with
  | none =>
    rw [hl] at h1
    left
    refine ⟨rfl, ?_, h1⟩
    rw [atKey_of_not_has h1] at hat
    injection hat with hat
    injection hat with _ hat
    exact hat.symm
  | some k =>
    rw [hl] at h1
    right
    refine ⟨k, rfl, ?_, h1⟩
    rw [h2 k hl] at hat
    injection hat with hat
    injection hat with _ hat
    exact hat.symm
end Go.Proofs.YtmomebakkpjdgaaDoor
