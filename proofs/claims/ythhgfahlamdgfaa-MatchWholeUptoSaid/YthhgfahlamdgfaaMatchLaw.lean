/- what the patterns of the laws of matching fit. Plain. -/
import Derived.Test.YthhgfahlamdgfaaWays
namespace Go.Proofs.Ythhgfahlamdgfaa

/-- whether a text, or a part of it, fits a pattern; or the error -/
def Fits (p t : List UInt8) (whole r : Bool) (k : Nat) : Prop :=
  (256 < t.length ∧ r = false ∧ k = 1) ∨ (t.length ≤ 256 ∧ ((k ≠ 0 ∧ r = false ∧ Compiles p [] k) ∨ ∃ a, Compiles p a 0 ∧ k = 0 ∧ (r = true ↔ if whole = true then WholeAcc a t else FindAcc a t)))

theorem Alone.inside {a : List UInt8} {x : List Inst} (h : Alone a x) : AllInside x := by
  obtain ⟨d, f, hf⟩ := h
  exact parse_inside hf (by omega)

theorem Fits.whole {p t : List UInt8} {x : List Inst} {r : Bool} {k : Nat} (h : Fits p t true r k) (hx : AllInside x) (hp : Compiles p (x ++ [done]) 0) (ht : t.length ≤ 256) : k = 0 ∧ (r = true ↔ Fit x t 0 t.length) := by
  rcases h with ⟨h, _⟩ | ⟨_, ⟨h1, _, h2⟩ | ⟨a, h1, h2, h3⟩⟩
  · omega
  · exact absurd (h2.one hp).2 h1
  · obtain ⟨rfl, _⟩ := h1.one hp
    rw [if_pos rfl, whole_fit hx] at h3
    exact ⟨h2, h3⟩
theorem Fits.find {p t : List UInt8} {x : List Inst} {r : Bool} {k : Nat} (h : Fits p t false r k) (hx : AllInside x) (hp : Compiles p (x ++ [done]) 0) (ht : t.length ≤ 256) : k = 0 ∧ (r = true ↔ ∃ i j, i ≤ t.length ∧ Fit x t i j) := by
  rcases h with ⟨h, _⟩ | ⟨_, ⟨h1, _, h2⟩ | ⟨a, h1, h2, h3⟩⟩
  · omega
  · exact absurd (h2.one hp).2 h1
  · obtain ⟨rfl, _⟩ := h1.one hp
    rw [if_neg (by decide), find_fit hx] at h3
    exact ⟨h2, h3⟩
theorem Fits.bad {p t : List UInt8} {w r : Bool} {k e : Nat} (h : Fits p t w r k) (hp : Compiles p [] e) (he : e ≠ 0) (ht : t.length ≤ 256) : k = e ∧ r = false := by
  rcases h with ⟨h, _⟩ | ⟨_, ⟨_, h1, h2⟩ | ⟨a, h1, _, _⟩⟩
  · omega
  · exact ⟨(h2.one hp).2, h1⟩
  · exact absurd (h1.one hp).2.symm he
theorem compiles_split {p : List UInt8} {a : List Inst} {k : Nat} (h : Compiles p a k) : (k ≠ 0 ∧ a = []) ∨ (k = 0 ∧ ∃ x, a = x ++ [done] ∧ Alone p x) := by
  rcases h with ⟨_, rfl, rfl⟩ | ⟨hl, f, a0, st, hp, h | h | h⟩
  · exact .inl ⟨by decide, rfl⟩
  · obtain ⟨h1, h2, h3, h4⟩ := h
    obtain ⟨x, hx, ha, _⟩ := Compiles.alone (a := p) (x := a) (.inr ⟨hl, f, a0, st, hp, .inl ⟨h1, h2, h3, rfl⟩⟩)
    exact .inr ⟨h4, x, hx, ha⟩
  · exact .inl ⟨by rw [h.2.2.2]; decide, h.2.2.1⟩
  · exact .inl ⟨by rw [h.2.2]; exact h.1, h.2.1⟩
/-- either there is a program, or an error, of both -/
theorem Fits.cases {p t : List UInt8} {w r : Bool} {k : Nat} (h : Fits p t w r k) (ht : t.length ≤ 256) : (k ≠ 0 ∧ r = false ∧ Compiles p [] k) ∨ (k = 0 ∧ ∃ x, Alone p x ∧ Compiles p (x ++ [done]) 0) := by
  rcases h with ⟨h, _⟩ | ⟨_, h | ⟨a, h1, h2, _⟩⟩
  · omega
  · exact .inl h
  · rcases compiles_split h1 with ⟨h3, _⟩ | ⟨_, x, rfl, hx⟩
    · exact absurd rfl h3
    · exact .inr ⟨h2, x, hx, h1⟩

/-! ### texts of patterns -/
def stepFirst : Inst := ⟨4, 0, 0, 0⟩
def stepLast : Inst := ⟨5, 0, 0, 0⟩
def stepAny : Inst := ⟨1, allBytes, 0, 0⟩
theorem parse_first (r : List UInt8) (d : Nat) : Parses 3 [] ⟨94 :: r, d, 0⟩ ([stepFirst], ⟨r, d, 0⟩) := by
  have := Parses.simple (out := []) (st := ⟨94 :: r, d, 0⟩) (show (94 : UInt8) ≠ 40 by decide) (show (94 : UInt8) ≠ 91 by decide)
  rw [next_cons] at this
  exact this
theorem parse_last (r : List UInt8) (d : Nat) : Parses 3 [] ⟨36 :: r, d, 0⟩ ([stepLast], ⟨r, d, 0⟩) := by
  have := Parses.simple (out := []) (st := ⟨36 :: r, d, 0⟩) (show (36 : UInt8) ≠ 40 by decide) (show (36 : UInt8) ≠ 91 by decide)
  rw [next_cons] at this
  exact this
theorem parse_dot (r : List UInt8) (d : Nat) : Parses 3 [] ⟨46 :: r, d, 0⟩ ([stepAny], ⟨r, d, 0⟩) := by
  have := Parses.simple (out := []) (st := ⟨46 :: r, d, 0⟩) (show (46 : UInt8) ≠ 40 by decide) (show (46 : UInt8) ≠ 91 by decide)
  rw [next_cons] at this
  exact this
theorem often_star (x : List Inst) (r : List UInt8) (d : Nat) : often x ⟨42 :: r, d, 0⟩ = (starOf x, ⟨r, d, 0⟩) := rfl
theorem often_plus (x : List Inst) (r : List UInt8) (d : Nat) : often x ⟨43 :: r, d, 0⟩ = (plusOf x, ⟨r, d, 0⟩) := rfl
theorem often_maybe (x : List Inst) (r : List UInt8) (d : Nat) : often x ⟨63 :: r, d, 0⟩ = (maybeOf x, ⟨r, d, 0⟩) := rfl
theorem moved_one {i : Inst} (o : Nat) (h : i.kind ≠ 2) (h' : i.kind ≠ 3) : moved [i] o = [i] := by
  show [movedI o i] = [i]
  unfold movedI
  rw [if_neg h, if_neg h']

/-- a pattern that is a row -/
theorem row_whole {p : List UInt8} {x : List Inst} (h : Parses 1 [] ⟨p, 0, 0⟩ (x, ⟨[], 0, 0⟩)) : Alone p x := ⟨0, Parses.alone h (is_nil _ _ _)⟩
theorem row_stop (x : List Inst) : Parses 1 x ⟨[], 0, 0⟩ (x, ⟨[], 0, 0⟩) := Parses.stop (row_end _ (ends_nil _ _))
theorem row_one {c : UInt8} {r q : List UInt8} {x out : List Inst} {res : List Inst × St} (h1 : c ≠ 124) (h2 : c ≠ 41) (h : Parses 3 [] ⟨c :: r, 0, 0⟩ (x, ⟨q, 0, 0⟩)) (hq : Bare q) (hr : Parses 1 (out ++ moved x out.length) ⟨q, 0, 0⟩ res) :
    Parses 1 out ⟨c :: r, 0, 0⟩ res := by
  refine Parses.row (row_first _ 0 h1 h2) (Parses.piece h) ?_
  rw [often_bare hq]; exact hr

theorem alone_nil : Alone [] [] := row_whole (row_stop [])
theorem alone_esc (s : List UInt8) : Alone (esc s) (lits s) := by
  refine row_whole ?_
  have := row_lits s (out := []) (r := []) (d := 0) bare_nil (row_stop _)
  rw [List.append_nil, List.nil_append] at this
  exact this
/-- '^' ahead -/
theorem alone_begin (s : List UInt8) : Alone (94 :: esc s) ([stepFirst] ++ moved (lits s) [stepFirst].length) := by
  refine row_whole (row_one (by decide) (by decide) (parse_first _ 0) ?_ ?_)
  · have := esc_bare s bare_nil; rwa [List.append_nil] at this
  · have := row_lits s (out := [stepFirst]) (r := []) (d := 0) bare_nil (row_stop _)
    rw [List.append_nil] at this
    rw [moved_lits]
    exact this
/-- '$' behind -/
theorem alone_end (s : List UInt8) : Alone (esc s ++ [36]) (lits s ++ moved [stepLast] (lits s).length) := by
  refine row_whole ?_
  refine row_lits s (out := []) (r := [36]) (d := 0) (bare_cons _ (by decide) (by decide) (by decide)) ?_
  rw [List.nil_append]
  exact row_one (by decide) (by decide) (parse_last _ 0) bare_nil (row_stop _)
/-- '.*' behind -/
theorem alone_rest (s : List UInt8) : Alone (esc s ++ [46, 42]) (lits s ++ moved (starOf [stepAny]) (lits s).length) := by
  refine row_whole ?_
  refine row_lits s (out := []) (r := [46, 42]) (d := 0) (bare_cons _ (by decide) (by decide) (by decide)) ?_
  rw [List.nil_append]
  refine Parses.row (row_first _ 0 (by decide) (by decide)) (Parses.piece (parse_dot _ 0)) ?_
  rw [often_star]
  exact row_stop _

/-- in parentheses, from '^' to '$' -/
def wrapOf (x : List Inst) : List Inst := ([stepFirst] ++ moved x [stepFirst].length) ++ moved [stepLast] ([stepFirst] ++ moved x [stepFirst].length).length
theorem wrap_row {a : List UInt8} {x : List Inst} (h : Held a x) : Alone (94 :: 40 :: (a ++ [41, 36])) (wrapOf x) := by
  refine row_whole (row_one (by decide) (by decide) (parse_first _ 0) (bare_cons _ (by decide) (by decide) (by decide)) ?_)
  refine h.row (s := [36]) (bare_cons _ (by decide) (by decide) (by decide)) ?_
  exact row_one (by decide) (by decide) (parse_last _ 0) bare_nil (row_stop _)
theorem wrap_said {a : List UInt8} {x : List Inst} (ha : Alone a x) (hl : a.length ≤ 240) :
    Compiles (94 :: 40 :: (a ++ [41, 36])) (wrapOf x ++ [done]) 0 ∨ Compiles (94 :: 40 :: (a ++ [41, 36])) [] 4 := by
  have l1 : (94 :: 40 :: (a ++ [41, 36])).length ≤ 256 := by simp; omega
  rcases ha.held with h | h
  · exact .inl (Alone.compiles (wrap_row h) l1)
  · right
    obtain ⟨r, hr, he⟩ := h.row [stepFirst] [36]
    refine compiles_bad (r := r) (Parses.alone (row_one (by decide) (by decide) (parse_first _ 0) (bare_cons _ (by decide) (by decide) (by decide)) hr) (is_of_e _ (by omega))) he l1
theorem maybe_said {a : List UInt8} {x : List Inst} (ha : Alone a x) (hl : a.length ≤ 240) :
    Compiles (40 :: (a ++ [41, 63])) (maybeOf x ++ [done]) 0 ∨ Compiles (40 :: (a ++ [41, 63])) [] 4 := by
  have l1 : (40 :: (a ++ [41, 63])).length ≤ 256 := by simp; omega
  rcases ha.held with h | h
  · refine .inl (Alone.compiles (row_whole (Parses.row (row_open _) (Parses.piece (h [63])) ?_)) l1)
    rw [often_maybe, List.nil_append, List.length_nil, moved_zero]
    exact row_stop _
  · right
    obtain ⟨r, hr, he⟩ := h.row [] [63]
    exact compiles_bad (Parses.alone hr (is_of_e _ (by omega))) he l1

theorem inside_seq {x y : List Inst} (hx : AllInside x) (hy : AllInside y) : AllInside (x ++ moved y x.length) := by
  intro i hi
  rw [List.length_append, moved_length]
  rcases List.mem_append.1 hi with hi | hi
  · exact (hx i hi).more (by omega)
  · exact (moved_inside hy _ i hi).more (by omega)
theorem inside_first : AllInside [stepFirst] := by
  intro i hi
  obtain rfl := List.mem_singleton.1 hi
  exact ⟨Nat.zero_le _, Nat.zero_le _, by decide, by decide, Nat.two_pow_pos _⟩
theorem inside_last : AllInside [stepLast] := by
  intro i hi
  obtain rfl := List.mem_singleton.1 hi
  exact ⟨Nat.zero_le _, Nat.zero_le _, by decide, by decide, Nat.two_pow_pos _⟩
theorem inside_any : AllInside [stepAny] := inside_char _ (by unfold allBytes; omega)
theorem inside_star {x : List Inst} (h : AllInside x) : AllInside (starOf x) := by
  have := often_inside h ⟨[42], 0, 0⟩
  rwa [often_star] at this
theorem inside_plus {x : List Inst} (h : AllInside x) : AllInside (plusOf x) := by
  have := often_inside h ⟨[43], 0, 0⟩
  rwa [often_plus] at this
theorem inside_maybe {x : List Inst} (h : AllInside x) : AllInside (maybeOf x) := by
  have := often_inside h ⟨[63], 0, 0⟩
  rwa [often_maybe] at this
theorem inside_wrap {x : List Inst} (h : AllInside x) : AllInside (wrapOf x) := inside_seq (inside_seq inside_first h) inside_last

theorem fit_wrap {x : List Inst} {t : List UInt8} {i j : Nat} (hx : AllInside x) : Fit (wrapOf x) t i j ↔ i = 0 ∧ j = t.length ∧ Fit x t 0 t.length := by
  unfold wrapOf
  rw [fit_seq (inside_seq inside_first hx) inside_last]
  constructor
  · rintro ⟨m, h1, h2⟩
    obtain ⟨rfl, rfl⟩ := fit_last.1 h2
    obtain ⟨m2, h3, h4⟩ := (fit_seq inside_first hx).1 h1
    obtain ⟨rfl, rfl⟩ := fit_first.1 h3
    exact ⟨rfl, rfl, h4⟩
  · rintro ⟨rfl, rfl, h⟩
    exact ⟨t.length, (fit_seq inside_first hx).2 ⟨0, fit_first.2 ⟨rfl, rfl⟩, h⟩, fit_last.2 ⟨rfl, rfl⟩⟩
theorem fit_begin {s t : List UInt8} {i j : Nat} : Fit ([stepFirst] ++ moved (lits s) [stepFirst].length) t i j ↔ i = 0 ∧ j = s.length ∧ Has t 0 s := by
  rw [fit_seq inside_first (lits_inside s)]
  constructor
  · rintro ⟨m, h1, h2⟩
    obtain ⟨rfl, rfl⟩ := fit_first.1 h1
    obtain ⟨rfl, h3⟩ := fit_lits.1 h2
    exact ⟨rfl, Nat.zero_add _, h3⟩
  · rintro ⟨rfl, rfl, h⟩
    exact ⟨0, fit_first.2 ⟨rfl, rfl⟩, fit_lits.2 ⟨(Nat.zero_add _).symm, h⟩⟩
theorem fit_end {s t : List UInt8} {i j : Nat} : Fit (lits s ++ moved [stepLast] (lits s).length) t i j ↔ j = t.length ∧ i + s.length = t.length ∧ Has t i s := by
  rw [fit_seq (lits_inside s) inside_last]
  constructor
  · rintro ⟨m, h1, h2⟩
    obtain ⟨rfl, h3⟩ := fit_lits.1 h1
    obtain ⟨h4, h5⟩ := fit_last.1 h2
    exact ⟨h5, h4, h3⟩
  · rintro ⟨rfl, h1, h2⟩
    exact ⟨i + s.length, fit_lits.2 ⟨rfl, h2⟩, fit_last.2 ⟨h1, rfl⟩⟩
theorem any_bit (c : UInt8) : allBytes.testBit c.toNat = true := by
  unfold allBytes
  rw [Nat.testBit_two_pow_sub_one, decide_eq_true_eq]
  exact c.toNat_lt
theorem chain_any {t : List UInt8} : ∀ (n i : Nat), i + n ≤ t.length → Chain (Fit [stepAny] t) i (i + n)
  | 0, i, _ => .refl _
  | n + 1, i, h => by
    have h1 : i < t.length := by omega
    refine .step (m := i + 1) (fit_char.2 ⟨rfl, t[i], List.getElem?_eq_getElem h1, any_bit _⟩) ?_
    have := chain_any (t := t) n (i + 1) (by omega)
    rwa [show i + 1 + n = i + (n + 1) by omega] at this
theorem fit_rest {s t : List UInt8} : Fit (lits s ++ moved (starOf [stepAny]) (lits s).length) t 0 t.length ↔ Has t 0 s := by
  rw [fit_seq (lits_inside s) (inside_star inside_any)]
  constructor
  · rintro ⟨m, h1, _⟩
    exact (fit_lits.1 h1).2
  · intro h
    refine ⟨s.length, fit_lits.2 ⟨(Nat.zero_add _).symm, h⟩, (fit_star inside_any).2 ?_⟩
    have hl : s.length ≤ t.length := by
      rcases Nat.eq_zero_or_pos s.length with h0 | h0
      · omega
      · have := h (s.length - 1) (by omega)
        rw [Nat.zero_add, List.getElem?_eq_getElem (show s.length - 1 < s.length by omega)] at this
        have := (List.getElem?_eq_some_iff.1 this).1
        omega
    have := chain_any (t := t) (t.length - s.length) s.length (by omega)
    rwa [show s.length + (t.length - s.length) = t.length by omega] at this

/-- a text has itself -/
theorem has_mid (a s b : List UInt8) : Has (a ++ s ++ b) a.length s := fun k hk => by
  rw [List.append_assoc, List.getElem?_append_right (by omega), show a.length + k - a.length = k by omega, List.getElem?_append_left hk]
theorem has_begin (s b : List UInt8) : Has (s ++ b) 0 s := has_mid [] s b
theorem has_end (a s : List UInt8) : Has (a ++ s) a.length s := by have := has_mid a s []; rwa [List.append_nil] at this
theorem has_self (s : List UInt8) : Has s 0 s := by have := has_mid [] s []; rwa [List.append_nil] at this
/-- it begins with it -/
theorem has_take {s t : List UInt8} : Has t 0 s ↔ s.length ≤ t.length ∧ t.take s.length = s := by
  constructor
  · intro h
    have hl : s.length ≤ t.length := by
      rcases Nat.eq_zero_or_pos s.length with h0 | h0
      · omega
      · have := h (s.length - 1) (by omega)
        rw [Nat.zero_add, List.getElem?_eq_getElem (show s.length - 1 < s.length by omega)] at this
        have := (List.getElem?_eq_some_iff.1 this).1
        omega
    refine ⟨hl, List.ext_getElem? fun k => ?_⟩
    by_cases hk : k < s.length
    · rw [List.getElem?_take_of_lt hk, ← h k hk, Nat.zero_add]
    · rw [List.getElem?_eq_none (by rw [List.length_take]; omega), List.getElem?_eq_none (by omega)]
  · rintro ⟨_, h⟩ k hk
    rw [Nat.zero_add]
    have e := congrArg (fun l => l[k]?) h
    rw [List.getElem?_take_of_lt hk] at e
    exact e

/-! ### the same byte, again and again -/
theorem rep_at {n : Nat} {c : UInt8} {i : Nat} (h : i < n) : (rep n c)[i]? = some c := by unfold rep; rw [List.getElem?_replicate, if_pos h]
theorem fit_rep1 {n : Nat} {c : UInt8} {i j : Nat} : Fit [lit c] (rep n c) i j ↔ j = i + 1 ∧ i < n := by
  rw [show [lit c] = [⟨1, 2 ^ c.toNat, 0, 0⟩] from rfl, fit_char]
  constructor
  · rintro ⟨h, b, hb, _⟩
    have := (List.getElem?_eq_some_iff.1 hb).1
    rw [rep_length] at this
    exact ⟨h, this⟩
  · rintro ⟨h, hi⟩
    exact ⟨h, c, rep_at hi, pow_inj_bit.2 rfl⟩
theorem fit_rep2 {n : Nat} {c : UInt8} {i j : Nat} : Fit (lits [c, c]) (rep n c) i j ↔ j = i + 2 ∧ i + 1 < n := by
  rw [fit_lits]
  constructor
  · rintro ⟨h, hb⟩
    have := hb 1 (by simp)
    have h2 : (rep n c)[i + 1]? = some c := this.trans rfl
    have := (List.getElem?_eq_some_iff.1 h2).1
    rw [rep_length] at this
    exact ⟨h, this⟩
  · rintro ⟨h, hi⟩
    refine ⟨h, fun k hk => ?_⟩
    have hk : k < 2 := hk
    rw [rep_at (by omega)]
    have : k = 0 ∨ k = 1 := by omega
    rcases this with rfl | rfl <;> rfl
theorem chain_rep1 {n : Nat} {c : UInt8} : ∀ k i, i + k = n → Chain (Fit [lit c] (rep n c)) i n
  | 0, i, h => by obtain rfl : i = n := by omega
                  exact .refl _
  | k + 1, i, h => .step (fit_rep1.2 ⟨rfl, by omega⟩) (chain_rep1 k (i + 1) (by omega))
theorem chain_rep2 {n : Nat} {c : UInt8} : ∀ k i, i + 2 * k = n → Chain (Fit (lits [c, c]) (rep n c)) i n
  | 0, i, h => by obtain rfl : i = n := by omega
                  exact .refl _
  | k + 1, i, h => .step (fit_rep2.2 ⟨rfl, by omega⟩) (chain_rep2 k (i + 2) (by omega))
theorem chain_even {n : Nat} {c : UInt8} {i j : Nat} (h : Chain (Fit (lits [c, c]) (rep n c)) i j) : i % 2 = j % 2 := by
  induction h with
  | refl => rfl
  | step h _ ih => have := (fit_rep2.1 h).1; omega
theorem inside_lit (c : UInt8) : AllInside [lit c] := lits_inside [c]
theorem star_rep {n : Nat} {c : UInt8} : Fit (starOf [lit c]) (rep n c) 0 n := (fit_star (inside_lit c)).2 (chain_rep1 n 0 (by omega))
theorem plus_rep {n : Nat} {c : UInt8} : Fit (plusOf [lit c]) (rep n c) 0 n ↔ 0 < n := by
  rw [fit_plus (inside_lit c)]
  constructor
  · rintro ⟨m, h, _⟩; exact (fit_rep1.1 h).2
  · intro h; exact ⟨1, fit_rep1.2 ⟨rfl, h⟩, chain_rep1 (n - 1) 1 (by omega)⟩
theorem maybe_rep {n : Nat} {c : UInt8} : Fit (maybeOf [lit c]) (rep n c) 0 n ↔ n < 2 := by
  rw [fit_maybe (inside_lit c), fit_rep1]; omega
theorem twice_rep {n : Nat} {c : UInt8} : Fit (starOf (lits [c, c])) (rep n c) 0 n ↔ n % 2 = 0 := by
  rw [fit_star (lits_inside [c, c])]
  constructor
  · intro h; have := chain_even h; omega
  · intro h; exact chain_rep2 (n / 2) 0 (by omega)

theorem alone_lit_star (c : UInt8) : Alone [92, c, 42] (starOf [lit c]) := by
  refine row_whole (Parses.row (row_first _ 0 (by decide) (by decide)) (Parses.piece (parse_lit c [42] 0)) ?_)
  rw [often_star, List.nil_append, List.length_nil, moved_zero]
  exact row_stop _
theorem alone_lit_plus (c : UInt8) : Alone [92, c, 43] (plusOf [lit c]) := by
  refine row_whole (Parses.row (row_first _ 0 (by decide) (by decide)) (Parses.piece (parse_lit c [43] 0)) ?_)
  rw [often_plus, List.nil_append, List.length_nil, moved_zero]
  exact row_stop _
theorem alone_lit_maybe (c : UInt8) : Alone [92, c, 63] (maybeOf [lit c]) := by
  refine row_whole (Parses.row (row_first _ 0 (by decide) (by decide)) (Parses.piece (parse_lit c [63] 0)) ?_)
  rw [often_maybe, List.nil_append, List.length_nil, moved_zero]
  exact row_stop _
theorem alone_twice (c : UInt8) : Alone [40, 92, c, 92, c, 41, 42] (starOf (lits [c, c])) := by
  have hg : Parses 0 [] ⟨[92, c, 92, c, 41, 42], 1, 0⟩ (lits [c, c], ⟨[41, 42], 1, 0⟩) := by
    refine Parses.alone ?_ ((Shut.not_or (.inr rfl)) 1)
    have := row_lits [c, c] (out := []) (r := [41, 42]) (d := 1) (bare_cons _ (by decide) (by decide) (by decide)) (Parses.stop ((Shut.stops (.inr rfl)) 1))
    exact this
  have ha : Parses 3 [] ⟨[40, 92, c, 92, c, 41, 42], 0, 0⟩ (lits [c, c], ⟨[42], 0, 0⟩) := by
    refine Parses.open (by rw [next_cons]) (by rw [next_cons]) ?_
    rw [next_cons]
    exact Parses.group (out := []) (st := ⟨[92, c, 92, c, 41, 42], 0, 0⟩) (show (0 : Nat) ≠ 20 by decide) hg
  refine row_whole (Parses.row (row_open _) (Parses.piece ha) ?_)
  rw [often_star, List.nil_append, List.length_nil, moved_zero]
  exact row_stop _
end Go.Proofs.Ythhgfahlamdgfaa
