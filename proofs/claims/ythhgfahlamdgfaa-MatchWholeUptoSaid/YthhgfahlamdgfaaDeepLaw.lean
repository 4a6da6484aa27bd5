/- parentheses within one another: the plain law -/
import Derived.Test.YthhgfahlamdgfaaRules
namespace Go.Proofs.Ythhgfahlamdgfaa

/-- here a row is at its end -/
def Shut (r : List UInt8) : Prop := r = [] ∨ r.head? = some 41
theorem Shut.bare {r : List UInt8} (h : Shut r) : Bare r := by
  rcases h with rfl | h
  · exact bare_nil
  · intro c hc
    rw [h] at hc
    injection hc with hc
    subst hc
    exact ⟨by decide, by decide, by decide⟩
theorem Shut.stops {r : List UInt8} (h : Shut r) (d : Nat) : ((⟨r, d, 0⟩ : St).ends || (⟨r, d, 0⟩ : St).is 124 || (⟨r, d, 0⟩ : St).is 41) = true := by
  rcases h with rfl | h
  · rw [ends_nil]; rfl
  · cases r with
    | nil => cases h
    | cons c r =>
      injection h with h
      subst h
      rw [is_cons, is_cons]; simp
theorem Shut.not_or {r : List UInt8} (h : Shut r) (d : Nat) : (⟨r, d, 0⟩ : St).is 124 = false := by
  rcases h with rfl | h
  · exact is_nil _ _ _
  · cases r with
    | nil => cases h
    | cons c r =>
      injection h with h
      subst h
      rw [is_cons]; rfl
theorem row_first {c : UInt8} (r : List UInt8) (d : Nat) (h1 : c ≠ 124) (h2 : c ≠ 41) : ((⟨c :: r, d, 0⟩ : St).ends || (⟨c :: r, d, 0⟩ : St).is 124 || (⟨c :: r, d, 0⟩ : St).is 41) = false := by
  rw [ends_cons, is_cons, is_cons]; simp [h1, h2]

/-- a pattern that is one atom -/
theorem Parses.atom {c : UInt8} {s r : List UInt8} {d : Nat} {x : List Inst} (h1 : c ≠ 124) (h2 : c ≠ 41) (hr : Shut r) (h : Parses 3 [] ⟨c :: s, d, 0⟩ (x, ⟨r, d, 0⟩)) : Parses 0 [] ⟨c :: s, d, 0⟩ (x, ⟨r, d, 0⟩) := by
  refine Parses.alone ?_ (hr.not_or d)
  refine Parses.row (row_first s d h1 h2) (Parses.piece h) ?_
  rw [often_bare hr.bare, List.nil_append, List.length_nil, moved_zero]
  exact Parses.stop (hr.stops d)

def stepA : Inst := ⟨1, 2 ^ 97, 0, 0⟩
def rep (n : Nat) (c : UInt8) : List UInt8 := List.replicate n c
theorem rep_back (n : Nat) (c : UInt8) (r : List UInt8) : rep (n + 1) c ++ r = rep n c ++ c :: r := by
  unfold rep
  rw [List.replicate_succ', List.append_assoc]; rfl

theorem parse_a (s : List UInt8) (d : Nat) : Parses 3 [] ⟨97 :: s, d, 0⟩ ([stepA], ⟨s, d, 0⟩) := by
  have := Parses.simple (out := []) (st := ⟨97 :: s, d, 0⟩) (show (97 : UInt8) ≠ 40 by decide) (show (97 : UInt8) ≠ 91 by decide)
  rw [next_cons] at this
  exact this

theorem deep_ok : ∀ (n d : Nat) (r : List UInt8), d + n ≤ 20 → Shut r → Parses 0 [] ⟨rep n 40 ++ 97 :: (rep n 41 ++ r), d, 0⟩ ([stepA], ⟨r, d, 0⟩)
  | 0, d, r, _, hr => Parses.atom (by decide) (by decide) hr (parse_a r d)
  | n + 1, d, r, hd, hr => by
    rw [rep_back n 41]
    refine Parses.atom (c := 40) (s := rep n 40 ++ 97 :: (rep n 41 ++ 41 :: r)) (by decide) (by decide) hr ?_
    refine Parses.open (by rw [next_cons]) (by rw [next_cons]) ?_
    rw [next_cons]
    have ih := deep_ok n (d + 1) (41 :: r) (by omega) (.inr rfl)
    have := Parses.group (out := []) (st := ⟨rep n 40 ++ 97 :: (rep n 41 ++ 41 :: r), d, 0⟩) (show d ≠ 20 by omega) ih
    exact this

theorem deep_bad : ∀ (n d : Nat) (s : List UInt8), d ≤ 20 → 20 < d + n → ∃ r, Parses 0 [] ⟨rep n 40 ++ s, d, 0⟩ r ∧ r.2.e = 4
  | 0, d, _, h1, h2 => by omega
  | n + 1, d, s, h1, h2 => by
    have at_ : ∃ r, Parses 3 [] ⟨40 :: (rep n 40 ++ s), d, 0⟩ r ∧ r.2.e = 4 := by
      by_cases hd : d = 20
      · refine ⟨_, Parses.open (by rw [next_cons]) (by rw [next_cons]) (Parses.deep (by rw [next_cons]; exact hd)), ?_⟩
        rw [next_cons]
        rfl
      · obtain ⟨r, hr, he⟩ := deep_bad n (d + 1) s (by omega) (by omega)
        refine ⟨_, Parses.open (by rw [next_cons]) (by rw [next_cons]) (Parses.group (by rw [next_cons]; exact hd) (by rw [next_cons]; exact hr)), ?_⟩
        show (closes r.2).e = 4
        rw [closes_of_e (by omega)]; exact he
    obtain ⟨r, hr, he⟩ := at_
    refine ⟨_, Parses.alone (Parses.row (row_first (c := 40) (rep n 40 ++ s) d (by decide) (by decide)) (Parses.piece hr) (Parses.stop (row_end _ (ends_of_e ?_)))) (is_of_e _ ?_), ?_⟩
    · rw [often_e]; omega
    · show (often r.1 r.2).2.e ≠ 0
      rw [often_e]; omega
    · show (often r.1 r.2).2.e = 4
      rw [often_e]; exact he

theorem deep_open : ∀ (n d : Nat), d + n + 1 ≤ 20 → ∃ r, Parses 0 [] ⟨rep (n + 1) 40 ++ [97], d, 0⟩ r ∧ r.2.e = 3
  | n, d, hd => by
    have at_ : ∃ r, Parses 3 [] ⟨40 :: (rep n 40 ++ [97]), d, 0⟩ r ∧ r.2.e = 3 := by
      cases n with
      | zero =>
        refine ⟨_, Parses.open (by rw [next_cons]) (by rw [next_cons]) (Parses.group (r := ([stepA], ⟨[], d + 1, 0⟩)) (by rw [next_cons]; show d ≠ 20; omega) (by rw [next_cons]; exact deep_ok 0 (d + 1) [] (by omega) (.inl rfl))), ?_⟩
        rfl
      | succ n =>
        obtain ⟨r, hr, he⟩ := deep_open n (d + 1) (by omega)
        refine ⟨_, Parses.open (by rw [next_cons]) (by rw [next_cons]) (Parses.group (by rw [next_cons]; show d ≠ 20; omega) (by rw [next_cons]; exact hr)), ?_⟩
        show (closes r.2).e = 3
        rw [closes_of_e (by omega)]; exact he
    obtain ⟨r, hr, he⟩ := at_
    refine ⟨_, Parses.alone (Parses.row (row_first (c := 40) (rep n 40 ++ [97]) d (by decide) (by decide)) (Parses.piece hr) (Parses.stop (row_end _ (ends_of_e ?_)))) (is_of_e _ ?_), ?_⟩
    · rw [often_e]; omega
    · show (often r.1 r.2).2.e ≠ 0
      rw [often_e]; omega
    · show (often r.1 r.2).2.e = 3
      rw [often_e]; exact he

theorem rep_length (n : Nat) (c : UInt8) : (rep n c).length = n := by unfold rep; simp

/-- what the law asks -/
theorem deep_said (n : Nat) (h : n ≤ 20) : Compiles (rep n 40 ++ 97 :: rep n 41) [stepA, done] 0 ∧ Compiles (rep n 40 ++ 97 :: (rep n 41 ++ [41])) [] 3 := by
  constructor
  · have := deep_ok n 0 [] (by omega) (.inl rfl)
    rw [List.append_nil] at this
    exact Alone.compiles ⟨0, this⟩ (by simp [rep_length]; omega)
  · obtain ⟨f, hf⟩ := deep_ok n 0 [41] (by omega) (.inr rfl)
    exact .inr ⟨by simp [rep_length]; omega, f, _, _, hf, .inr (.inl ⟨rfl, by simp, rfl, rfl⟩)⟩
theorem deep_over (n : Nat) (h : 20 < n) (h' : n < 30) : Compiles (rep n 40 ++ 97 :: rep n 41) [] 4 := by
  obtain ⟨r, hr, he⟩ := deep_bad n 0 (97 :: rep n 41) (by omega) (by omega)
  exact compiles_bad hr he (by simp [rep_length]; omega)
theorem deep_left (n : Nat) (h : n ≤ 20) : ∃ x k, Compiles (rep n 40 ++ [97]) x k ∧ (k = 0 ↔ n = 0) := by
  cases n with
  | zero => exact ⟨_, 0, Alone.compiles ⟨0, deep_ok 0 0 [] (by omega) (.inl rfl)⟩ (by decide), by simp⟩
  | succ n =>
    obtain ⟨⟨a, st⟩, ⟨f, hf⟩, he⟩ := deep_open n 0 (by omega)
    have he : st.e = 3 := he
    exact ⟨[], 3, .inr ⟨by simp [rep_length]; omega, f, a, st, hf, .inr (.inr ⟨by omega, rfl, he.symm⟩)⟩, by simp⟩
end Go.Proofs.Ythhgfahlamdgfaa
