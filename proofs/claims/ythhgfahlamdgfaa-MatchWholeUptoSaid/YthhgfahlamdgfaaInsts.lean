/- steps as cells, one behind the other -/
import Derived.Test.YthhgfahlamdgfaaBound
import Derived.Test.YthhgfahlamdgfaaWords
import Derived.Deep.MidRow
namespace Go.Proofs.Ythhgfahlamdgfaa
open Go.RowKit

def word (m j : Nat) : Nat := m / 2 ^ (64 * j) % 2 ^ 64
def cellsI (i : Inst) : List Value :=
  [.int .i64 (i.kind : Int), .int .u64 (word i.set 0 : Int), .int .u64 (word i.set 1 : Int), .int .u64 (word i.set 2 : Int), .int .u64 (word i.set 3 : Int), .int .i64 (i.x : Int), .int .i64 (i.y : Int)]
def flatI (l : List Inst) : List Value := l.flatMap cellsI
def zeroI : Inst := ⟨0, 0, 0, 0⟩

theorem flatI_length (l : List Inst) : (flatI l).length = l.length * 7 := by
  induction l with
  | nil => rfl
  | cons p l ih =>
    have e : flatI (p :: l) = cellsI p ++ flatI l := rfl
    rw [e, List.length_append, ih, List.length_cons, show (cellsI p).length = 7 from rfl]
    omega
theorem flatI_append (l r : List Inst) : flatI (l ++ r) = flatI l ++ flatI r := by simp [flatI]
theorem flatI_one (l : List Inst) : ∀ u ∈ flatI l, u.oneCell' = true := by
  intro u hu
  simp only [flatI, List.mem_flatMap, cellsI, List.mem_cons, List.not_mem_nil, or_false] at hu
  obtain ⟨p, _, h⟩ := hu
  rcases h with rfl | rfl | rfl | rfl | rfl | rfl | rfl <;> rfl

theorem flatI_get (l : List Inst) (k j : Nat) (hk : k < l.length) (hj : j < 7) : (flatI l)[k * 7 + j]? = (cellsI (l.getD k zeroI))[j]? := by
  induction l generalizing k with
  | nil => simp at hk
  | cons p l ih =>
    cases k with
    | zero =>
      simp only [flatI, List.flatMap_cons, Nat.zero_mul, Nat.zero_add]
      rw [List.getElem?_append_left (by simpa [cellsI] using hj)]
      rfl
    | succ k =>
      have e : (k + 1) * 7 + j = 7 + (k * 7 + j) := by omega
      rw [e]
      have h := ih k (by simpa using hk)
      simp only [flatI, List.flatMap_cons]
      rw [List.getElem?_append_right (by simp [cellsI])]
      simp only [cellsI, List.length_cons, List.length_nil, Nat.add_sub_cancel_left]
      simpa [flatI, cellsI, List.getD] using h

/-- the cells of step k of a slice of steps -/
theorem Reads.inst {w : World} {B n k : Nat} {A : Option Addr} {l : List Inst} (h : Reads w B 7 A n (flatI l)) (hk : k < n) :
    ∃ b off, A = some ⟨b, off, none⟩ ∧ b < B ∧ ∀ j, j < 7 → w.cell? ⟨b, off + k * 7 + j, none⟩ = (cellsI (l.getD k zeroI))[j]? := by
  have hl : l.length = n := by have := h.1; rw [flatI_length] at this; omega
  obtain ⟨ad, rfl, hb, hc⟩ := h.2 (by omega)
  obtain ⟨b, off, spot⟩ := ad
  have each : ∀ j, j < 7 → w.cell? ((⟨b, off, spot⟩ : Addr).add (k * 7 + j)) = (cellsI (l.getD k zeroI))[j]? := by
    intro j hj
    have g := flatI_get l k j (by omega) hj
    have hs : ∃ u, (cellsI (l.getD k zeroI))[j]? = some u := ⟨_, List.getElem?_eq_getElem (by simpa [cellsI] using hj)⟩
    obtain ⟨u, hu⟩ := hs
    rw [hu] at g ⊢
    exact hc _ u g
  have hspot : spot = none := by
    have g := flatI_get l 0 0 (by omega) (by omega)
    have h0 := hc 0 (.int .i64 ((l.getD 0 zeroI).kind : Int)) (by simpa [cellsI] using g)
    simpa [Addr.add] using World.cell?_spot h0
  subst hspot
  refine ⟨b, off, rfl, hb, fun j hj => ?_⟩
  rw [← each j hj, Go.WideShapes.add_plain, Nat.add_assoc]

/-! ### cells stored, one behind the other, into a row of the call's own -/
def setAll : List Value → Nat → List Value → List Value
  | xs, _, [] => xs
  | xs, o, v :: vs => setAll (xs.set o v) (o + 1) vs

theorem own_setCells {base e size g n cap : Nat} : ∀ (vs : List Value) (o : Nat) {w : World} {xs : List Value}, w.ownsRow base e size (.slice (some ⟨g, 0, none⟩) n cap) n xs →
    (w.setCells g o vs).ownsRow base e size (.slice (some ⟨g, 0, none⟩) n cap) n (setAll xs o vs) ∧ w.grownBy (w.setCells g o vs) (some g)
  | [], _, _, _, h => ⟨h, World.grownBy.refl _ _⟩
  | v :: vs, o, w, xs, h => by
    obtain ⟨h1, h2⟩ := h.stored o v
    obtain ⟨k1, k2⟩ := own_setCells vs (o + 1) h1
    exact ⟨k1, h2.trans k2⟩

theorem setAll_mid : ∀ (vs pre cur post : List Value), cur.length = vs.length → setAll (pre ++ cur ++ post) pre.length vs = pre ++ vs ++ post
  | [], pre, cur, post, h => by
    obtain rfl : cur = [] := List.eq_nil_of_length_eq_zero h
    rfl
  | v :: vs, pre, c :: cur, post, h => by
    have h' : cur.length = vs.length := by simpa using h
    have ih := setAll_mid vs (pre ++ [v]) cur post h'
    have e : ((pre ++ c :: cur ++ post).set pre.length v) = pre ++ [v] ++ cur ++ post := by
      rw [List.append_assoc, List.set_append_right _ _ (Nat.le_refl _)]
      simp
    rw [setAll, e]
    have e2 : pre.length + 1 = (pre ++ [v]).length := by simp
    rw [e2, ih]
    simp

theorem flatI_step (l : List Inst) (t n : Nat) (h : t < l.length) (hn : l.length = n) :
    setAll (flatI (l.take t ++ List.replicate (n - t) zeroI)) (t * 7) (cellsI (l.getD t zeroI)) = flatI (l.take (t + 1) ++ List.replicate (n - (t + 1)) zeroI) := by
  have e1 : List.replicate (n - t) zeroI = zeroI :: List.replicate (n - (t + 1)) zeroI := by
    rw [show n - t = (n - (t + 1)) + 1 by omega]; rfl
  have e2 : flatI (l.take t ++ List.replicate (n - t) zeroI) = flatI (l.take t) ++ cellsI zeroI ++ flatI (List.replicate (n - (t + 1)) zeroI) := by
    rw [e1, flatI_append]; simp [flatI]
  have e3 : (flatI (l.take t)).length = t * 7 := by rw [flatI_length]; simp; omega
  have e4 : (cellsI zeroI).length = (cellsI (l.getD t zeroI)).length := rfl
  rw [e2, ← e3, setAll_mid _ _ _ _ e4]
  rw [List.take_succ_eq_append_getElem h, flatI_append, flatI_append, show l.getD t zeroI = l[t] by simp [List.getD, List.getElem?_eq_getElem h]]
  simp [flatI]

theorem zeros_flat (n : Nat) : (madeCells (Value.agg #[.int .i64 0, .int .u64 0, .int .u64 0, .int .u64 0, .int .u64 0, .int .i64 0, .int .i64 0]).cells (n * 7)).toList = flatI (List.replicate n zeroI) := by
  apply List.ext_getElem?
  intro j
  have hl : (flatI (List.replicate n zeroI)).length = n * 7 := by rw [flatI_length]; simp
  by_cases hj : j < n * 7
  · have hk : j / 7 < (List.replicate n zeroI).length := by simp; omega
    have g := flatI_get (List.replicate n zeroI) (j / 7) (j % 7) hk (Nat.mod_lt _ (by omega))
    rw [show j / 7 * 7 + j % 7 = j by omega] at g
    rw [g]
    have e : (List.replicate n zeroI).getD (j / 7) zeroI = zeroI := by
      simp only [List.getD, List.getElem?_replicate]; split <;> rfl
    rw [e]
    have h7 : j % 7 < 7 := Nat.mod_lt _ (by omega)
    have hm : (madeCells (Value.agg #[.int .i64 0, .int .u64 0, .int .u64 0, .int .u64 0, .int .u64 0, .int .i64 0, .int .i64 0]).cells (n * 7)).toList[j]? = some (#[Value.int .i64 0, .int .u64 0, .int .u64 0, .int .u64 0, .int .u64 0, .int .i64 0, .int .i64 0][j % 7]!) := by
      simp [madeCells, Value.cells, hj]
    rw [hm]
    have h8 : j % 7 = 0 ∨ j % 7 = 1 ∨ j % 7 = 2 ∨ j % 7 = 3 ∨ j % 7 = 4 ∨ j % 7 = 5 ∨ j % 7 = 6 := by omega
    rcases h8 with h | h | h | h | h | h | h <;> rw [h] <;> rfl
  · rw [List.getElem?_eq_none (by simp [size_madeCells]; omega), List.getElem?_eq_none (by rw [hl]; omega)]

theorem moved_step {w wr : World} {B n t : Nat} {m : List Inst} (hown : wr.ownsRow B 31 7 (.slice (some ⟨B, 0, none⟩) n n) n (flatI (m.take t ++ List.replicate (n - t) zeroI))) (hlen : m.length = n) (ht : t < n)
    (hb : Below B w wr) (hB : B ≤ wr.heap.size) (o : Obj) {vs : List Value} (hvs : vs = cellsI (m.getD t zeroI)) :
    ((wr.alloc o).setCells B (t * 7) vs).ownsRow B 31 7 (.slice (some ⟨B, 0, none⟩) n n) n (flatI (m.take (t + 1) ++ List.replicate (n - (t + 1)) zeroI)) ∧ Below B w ((wr.alloc o).setCells B (t * 7) vs) := by
  subst hvs
  obtain ⟨h1, h2⟩ := own_setCells (cellsI (m.getD t zeroI)) (t * 7) (hown.alloc o)
  rw [flatI_step m t n (by omega) hlen] at h1
  exact ⟨h1, (hb.alloc hB o).grown h2 (by simp; omega) (by intro k hk; injection hk; omega)⟩

theorem moved_there {wr : World} {B n t : Nat} {m : List Inst} (hown : wr.ownsRow B 31 7 (.slice (some ⟨B, 0, none⟩) n n) n (flatI (m.take t ++ List.replicate (n - t) zeroI))) (ht : t < n) (o : Obj) :
    (wr.alloc o).there B (t * 7) 7 := fun j hj => by
  have hown := hown.alloc o
  have c := hown.cellAt (t * 7 + j) (by omega)
  exact ⟨by rw [c, List.getElem?_eq_getElem (by rw [hown.1]; omega)]; rfl, hown.frozenAt _⟩

theorem word_lt (m j : Nat) : word m j < 2 ^ 64 := Nat.mod_lt _ (Nat.two_pow_pos _)
theorem word_bit (m j i : Nat) : (word m j).testBit i = (decide (i < 64) && m.testBit (64 * j + i)) := by
  unfold word
  rw [Nat.testBit_mod_two_pow, Nat.testBit_div_two_pow, Nat.add_comm]
theorem word_other {m c j : Nat} (h : c / 64 ≠ j) : word (m ||| 2 ^ c) j = word m j := by
  apply Nat.eq_of_testBit_eq
  intro i
  rw [word_bit, word_bit, Nat.testBit_or, Nat.testBit_two_pow]
  by_cases hi : i < 64
  · have : decide (c = 64 * j + i) = false := by simp; omega
    rw [this, Bool.or_false]
  · simp [hi]
theorem word_same {m c j : Nat} (h : c / 64 = j) : word (m ||| 2 ^ c) j = word m j ||| 2 ^ (c % 64) := by
  apply Nat.eq_of_testBit_eq
  intro i
  rw [word_bit, Nat.testBit_or, Nat.testBit_or, Nat.testBit_two_pow, Nat.testBit_two_pow, word_bit]
  by_cases hi : i < 64
  · have : decide (c = 64 * j + i) = decide (c % 64 = i) := by rw [decide_eq_decide]; omega
    rw [this]
    simp [hi]
  · have : decide (c % 64 = i) = false := by simp; omega
    simp [hi, this]
theorem word_has {m c j : Nat} (h : c / 64 = j) :
    Value.int .u64 (bits .or .u64 (word m j : Int) (IntKind.u64.wrap (2 ^ (c % 64)))) = Value.int .u64 ((word (m ||| 2 ^ c) j : Nat) : Int) := by
  have hw := word_lt m j
  have hp : 2 ^ (c % 64) < 2 ^ 64 := Nat.pow_lt_pow_right (by omega) (Nat.mod_lt _ (by omega))
  have h64 : (2 : Nat) ^ 64 = 18446744073709551616 := by decide
  have e1 : (2 : Int) ^ (c % 64) = ((2 ^ (c % 64) : Nat) : Int) := by rw [Int.natCast_pow]; rfl
  have e2 : IntKind.u64.wrap ((2 ^ (c % 64) : Nat) : Int) = ((2 ^ (c % 64) : Nat) : Int) := by
    rw [IntKind.wrap_u64]
    generalize 2 ^ (c % 64) = z at hp
    omega
  rw [e1, e2, u64_or_nat _ _ (by omega) (by omega), word_same h]

theorem one7 (k a b c d x y : Int) : (#[Value.int .i64 k, .int .u64 a, .int .u64 b, .int .u64 c, .int .u64 d, .int .i64 x, .int .i64 y] : Array Value).all (·.oneCell') = true := by simp [Value.oneCell']

theorem moved_get {l : List Inst} {k t : Nat} {q : Inst} (h : l.getD t zeroI = q) : (moved l k).getD t zeroI = movedI k q := by
  subst h
  unfold moved
  by_cases ht : t < l.length
  · simp [List.getD, ht]
  · simp [List.getD, ht, movedI, zeroI]

end Go.Proofs.Ythhgfahlamdgfaa
