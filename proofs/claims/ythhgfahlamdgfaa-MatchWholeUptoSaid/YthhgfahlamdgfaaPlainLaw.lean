/- bytes behind backslashes: the plain law -/
import Derived.Test.YthhgfahlamdgfaaDeepLaw
namespace Go.Proofs.Ythhgfahlamdgfaa

/-- each byte behind a backslash -/
def esc : List UInt8 → List UInt8
  | [] => []
  | c :: s => 92 :: c :: esc s
def lit (c : UInt8) : Inst := ⟨1, 2 ^ c.toNat, 0, 0⟩
def lits (s : List UInt8) : List Inst := s.map lit

theorem esc_append (s t : List UInt8) : esc (s ++ t) = esc s ++ esc t := by
  induction s with
  | nil => rfl
  | cons c s ih => rw [List.cons_append, esc, ih]; rfl
theorem esc_length (s : List UInt8) : (esc s).length = 2 * s.length := by
  induction s with
  | nil => rfl
  | cons c s ih => rw [esc]; simp [ih]; omega
theorem lits_length (s : List UInt8) : (lits s).length = s.length := by unfold lits; simp
theorem esc_bare (s : List UInt8) {r : List UInt8} (h : Bare r) : Bare (esc s ++ r) := by
  cases s with
  | nil => exact h
  | cons c s => exact bare_cons _ (by decide) (by decide) (by decide)

/-- a byte behind a backslash is an atom -/
theorem parse_lit (c : UInt8) (r : List UInt8) (d : Nat) : Parses 3 [] ⟨92 :: c :: r, d, 0⟩ ([lit c], ⟨r, d, 0⟩) := by
  have := Parses.simple (out := []) (st := ⟨92 :: c :: r, d, 0⟩) (show (92 : UInt8) ≠ 40 by decide) (show (92 : UInt8) ≠ 91 by decide)
  rw [next_cons] at this
  exact this

theorem row_lits : ∀ (s : List UInt8) {out : List Inst} {r : List UInt8} {d : Nat} {q : List Inst × St}, Bare r → Parses 1 (out ++ lits s) ⟨r, d, 0⟩ q → Parses 1 out ⟨esc s ++ r, d, 0⟩ q
  | [], out, r, d, q, _, h => by
    rw [show lits [] = [] from rfl, List.append_nil] at h
    exact h
  | c :: s, out, r, d, q, hb, h => by
    refine Parses.row (row_first (c := 92) _ d (by decide) (by decide)) (Parses.piece (parse_lit c (esc s ++ r) d)) ?_
    rw [often_bare (esc_bare s hb)]
    refine row_lits s hb ?_
    rw [List.append_assoc]
    exact h

/-- what the law asks -/
theorem plain_said (s : List UInt8) (h : s.length ≤ 100) : Compiles (esc s) (lits s ++ [done]) 0 := by
  refine Alone.compiles ⟨0, Parses.alone ?_ (is_nil _ _ _)⟩ (by rw [esc_length]; omega)
  have := row_lits s (out := []) (r := []) (d := 0) bare_nil (Parses.stop (row_end _ (ends_nil _ _)))
  rw [List.append_nil, List.nil_append] at this
  exact this

/-! ### classes -/
def clsText (a b : UInt8) (n : Bool) : List UInt8 := 91 :: ((if n = true then [94] else []) ++ [92, a, 45, 92, b, 93])
def clsSet (a b : UInt8) (n : Bool) : Nat := if n = true then allBytes - addBits 0 a.toNat (b.toNat + 1 - a.toNat) else addBits 0 a.toNat (b.toNat + 1 - a.toNat)
def clsStep (a b : UInt8) (n : Bool) : Inst := ⟨1, clsSet a b n, 0, 0⟩

theorem addBits_bit (m a n j : Nat) : (addBits m a n).testBit j = (m.testBit j || (decide (a ≤ j) && decide (j < a + n))) := by
  induction n with
  | zero =>
    have : (decide (a ≤ j) && decide (j < a + 0)) = false := by
      rw [Bool.and_eq_false_iff, decide_eq_false_iff_not, decide_eq_false_iff_not]; omega
    rw [addBits, this, Bool.or_false]
  | succ n ih =>
    rw [addBits, Nat.testBit_or, ih, Nat.testBit_two_pow, Bool.or_assoc]
    congr 1
    rw [Bool.eq_iff_iff, Bool.or_eq_true, Bool.and_eq_true, Bool.and_eq_true]
    simp only [decide_eq_true_eq]
    omega

theorem cls_start (a b : UInt8) (n : Bool) (d : Nat) :
    classStart ⟨(if n = true then [94] else []) ++ [92, a, 45, 92, b, 93], d, 0⟩ = ⟨[92, a, 45, 92, b, 93], d, 0⟩ ∧
    (⟨(if n = true then [94] else []) ++ [92, a, 45, 92, b, 93], d, 0⟩ : St).is 94 = n := by
  cases n <;> exact ⟨rfl, rfl⟩

theorem cls_loop (a b : UInt8) (d : Nat) :
    classLoop 2 ⟨[92, a, 45, 92, b, 93], d, 0⟩ 0 = some (addBits 0 a.toNat (b.toNat + 1 - a.toNat), (⟨[93], d, 0⟩ : St).order a b) := by
  have h : classLoop 2 ⟨[92, a, 45, 92, b, 93], d, 0⟩ 0 = classLoop 1 ((⟨[93], d, 0⟩ : St).order a b) (addBits 0 a.toNat (b.toNat + 1 - a.toNat)) := rfl
  rw [h]
  unfold St.order
  split
  · rfl
  · rfl

theorem cls_of (a b : UInt8) (n : Bool) (d : Nat) :
    classOf 2 ⟨(if n = true then [94] else []) ++ [92, a, 45, 92, b, 93], d, 0⟩ = some (clsStep a b n, ((⟨[93], d, 0⟩ : St).order a b).next.2) := by
  unfold classOf
  rw [(cls_start a b n d).1, (cls_start a b n d).2, cls_loop]
  rfl

theorem cls_atom (a b : UInt8) (n : Bool) : Parses 3 [] ⟨clsText a b n, 0, 0⟩ ([clsStep a b n], ((⟨[93], 0, 0⟩ : St).order a b).next.2) :=
  Parses.cls (st := ⟨clsText a b n, 0, 0⟩) rfl (cls_of a b n 0)

theorem cls_len (a b : UInt8) (n : Bool) : (clsText a b n).length ≤ 256 := by
  unfold clsText
  cases n <;> simp
/-- what the law asks -/
theorem cls_ok (a b : UInt8) (n : Bool) (h : ¬ b < a) : Compiles (clsText a b n) [clsStep a b n, done] 0 := by
  have hp := cls_atom a b n
  have ho : ((⟨[93], 0, 0⟩ : St).order a b).next.2 = ⟨[], 0, 0⟩ := by unfold St.order; rw [if_neg h]; rfl
  rw [ho] at hp
  exact Alone.compiles ⟨0, Parses.atom (by decide) (by decide) (.inl rfl) hp⟩ (cls_len a b n)
theorem cls_bad (a b : UInt8) (n : Bool) (h : b < a) : Compiles (clsText a b n) [] 3 := by
  have hp := cls_atom a b n
  have ho : ((⟨[93], 0, 0⟩ : St).order a b).next.2 = ⟨[93], 0, 3⟩ := by unfold St.order; rw [if_pos h]; rfl
  rw [ho] at hp
  have h3 : (3 : Nat) ≠ 0 := by decide
  have hp := Parses.row (q := ([] ++ moved (often [clsStep a b n] ⟨[93], 0, 3⟩).1 0, (often [clsStep a b n] ⟨[93], 0, 3⟩).2)) (row_first (c := 91) _ 0 (by decide) (by decide)) (Parses.piece hp) (Parses.stop (row_end _ (ends_of_e (by rw [often_e]; exact h3))))
  obtain ⟨f, hf⟩ := Parses.alone (out := []) hp (is_of_e _ (by rw [often_e]; exact h3))
  exact .inr ⟨cls_len a b n, f, _, _, hf, .inr (.inr ⟨by rw [often_e]; exact h3, rfl, by rw [often_e]⟩)⟩

theorem cls_bit (a b : UInt8) (n : Bool) (j : Nat) (hj : j < 256) : (clsSet a b n).testBit j = (((decide (a.toNat ≤ j) && decide (j ≤ b.toNat))) != n) := by
  have hb : (decide (a.toNat ≤ j) && decide (j < a.toNat + (b.toNat + 1 - a.toNat))) = (decide (a.toNat ≤ j) && decide (j ≤ b.toNat)) := by
    rw [Bool.eq_iff_iff, Bool.and_eq_true, Bool.and_eq_true]
    simp only [decide_eq_true_eq]
    omega
  have hlt : addBits 0 a.toNat (b.toNat + 1 - a.toNat) < 2 ^ 256 := addBits_lt (Nat.two_pow_pos _) (by have := a.toNat_lt; have := b.toNat_lt; omega)
  unfold clsSet
  cases n
  · rw [if_neg (by decide), addBits_bit, hb, Nat.zero_testBit, Bool.false_or]; simp
  · rw [if_pos rfl, show allBytes - addBits 0 a.toNat (b.toNat + 1 - a.toNat) = 2 ^ 256 - (addBits 0 a.toNat (b.toNat + 1 - a.toNat) + 1) by unfold allBytes; omega,
      Nat.testBit_two_pow_sub_succ hlt, addBits_bit, hb, Nat.zero_testBit, Bool.false_or]
    simp [hj]
end Go.Proofs.Ythhgfahlamdgfaa
