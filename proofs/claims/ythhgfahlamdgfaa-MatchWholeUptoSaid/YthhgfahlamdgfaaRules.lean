/- the parser by rules, whatever the fuel; a pattern in parentheses -/
import Derived.Test.YthhgfahlamdgfaaLocal
namespace Go.Proofs.Ythhgfahlamdgfaa

def Parses (t : Nat) (out : List Inst) (st : St) (r : List Inst × St) : Prop := ∃ f, parse f t out st = some r

theorem Parses.alone {out : List Inst} {st : St} {r : List Inst × St} (h : Parses 1 [] st r) (hr : r.2.is 124 = false) : Parses 0 out st r := by
  obtain ⟨f, hf⟩ := h
  exact ⟨f + 1, by rw [parse, hf, Option.bind_some, hr]; rfl⟩
theorem Parses.alts {out : List Inst} {st : St} {r q : List Inst × St} (h : Parses 1 [] st r) (hr : r.2.is 124 = true) (hq : Parses 0 [] r.2.skip q) : Parses 0 out st (either r.1 q.1, q.2) := by
  obtain ⟨f, hf⟩ := h
  obtain ⟨g, hg⟩ := hq
  refine ⟨max f g + 1, ?_⟩
  rw [parse, parse_le (Nat.le_max_left f g) hf, Option.bind_some, if_pos hr, parse_le (Nat.le_max_right f g) hg, Option.bind_some]
theorem Parses.stop {out : List Inst} {st : St} (h : (st.ends || st.is 124 || st.is 41) = true) : Parses 1 out st (out, st) := ⟨1, by rw [parse, if_pos h]⟩
theorem Parses.row {out : List Inst} {st : St} {r q : List Inst × St} (h : (st.ends || st.is 124 || st.is 41) = false) (hr : Parses 2 [] st r) (hq : Parses 1 (out ++ moved r.1 out.length) r.2 q) : Parses 1 out st q := by
  obtain ⟨f, hf⟩ := hr
  obtain ⟨g, hg⟩ := hq
  refine ⟨max f g + 1, ?_⟩
  rw [parse, h, if_neg Bool.false_ne_true, parse_le (Nat.le_max_left f g) hf, Option.bind_some, parse_le (Nat.le_max_right f g) hg]
theorem Parses.piece {out : List Inst} {st : St} {r : List Inst × St} (h : Parses 3 [] st r) : Parses 2 out st (often r.1 r.2) := by
  obtain ⟨f, hf⟩ := h
  exact ⟨f + 1, by rw [parse, hf, Option.bind_some]⟩
theorem Parses.simple {out : List Inst} {st : St} (h1 : st.next.1 ≠ 40) (h2 : st.next.1 ≠ 91) : Parses 3 out st ([(simpleAtom st.next.1 st.next.2).1], (simpleAtom st.next.1 st.next.2).2) :=
  ⟨1, by rw [parse, if_neg (fun h => h1 h.1), if_neg h2]⟩
theorem Parses.cls {out : List Inst} {st : St} {f : Nat} {r : Inst × St} (h : st.next.1 = 91) (hc : classOf f st.next.2 = some r) : Parses 3 out st ([r.1], r.2) :=
  ⟨f + 1, by rw [parse, if_neg (fun h1 => by rw [h] at h1; exact absurd h1.1 (by decide)), if_pos h, hc, Option.bind_some]⟩
theorem Parses.open {out : List Inst} {st : St} {r : List Inst × St} (h1 : st.next.1 = 40) (h2 : st.next.2.e = 0) (h : Parses 4 [] st.next.2 r) : Parses 3 out st r := by
  obtain ⟨f, hf⟩ := h
  exact ⟨f + 1, by rw [parse, if_pos ⟨h1, h2⟩, hf]⟩
theorem Parses.deep {out : List Inst} {st : St} (h : st.deep = 20) : Parses 4 out st ([], st.fails 4) := ⟨1, by rw [parse, if_pos h]⟩
theorem Parses.group {out : List Inst} {st : St} {r : List Inst × St} (h : st.deep ≠ 20) (hr : Parses 0 [] { st with deep := st.deep + 1 } r) : Parses 4 out st (r.1, closes r.2) := by
  obtain ⟨f, hf⟩ := hr
  exact ⟨f + 1, by rw [parse, if_neg h, hf, Option.bind_some]⟩

theorem next_cons (c : UInt8) (r : List UInt8) (d : Nat) : (⟨c :: r, d, 0⟩ : St).next = (c, ⟨r, d, 0⟩) := rfl
theorem is_cons (c b : UInt8) (r : List UInt8) (d : Nat) : (⟨c :: r, d, 0⟩ : St).is b = (c == b) := by simp [St.is, St.ends]
theorem is_nil (b : UInt8) (d k : Nat) : (⟨[], d, k⟩ : St).is b = false := by simp [St.is, St.ends]
theorem ends_cons (c : UInt8) (r : List UInt8) (d : Nat) : (⟨c :: r, d, 0⟩ : St).ends = false := rfl
theorem ends_nil (d k : Nat) : (⟨[], d, k⟩ : St).ends = true := by simp [St.ends]

theorem moved_zero (l : List Inst) : moved l 0 = l := by
  induction l with
  | nil => rfl
  | cons i l ih =>
    unfold moved at ih ⊢
    rw [List.map_cons, ih]
    have : movedI 0 i = i := by unfold movedI; split <;> first | rfl | (split <;> rfl)
    rw [this]

/-- a pattern by itself -/
def Alone (a : List UInt8) (x : List Inst) : Prop := ∃ d, Parses 0 [] ⟨a, 0, 0⟩ (x, ⟨[], d, 0⟩)

theorem Compiles.alone {a : List UInt8} {x : List Inst} (h : Compiles a x 0) : ∃ x0, x = x0 ++ [done] ∧ Alone a x0 ∧ a.length ≤ 256 := by
  rcases h with ⟨_, _, h⟩ | ⟨hl, f, a0, st, hp, h | h | h⟩
  · cases h
  · obtain ⟨h1, h2, h3, _⟩ := h
    obtain ⟨rest, d, e⟩ := st
    obtain rfl : e = 0 := h1
    obtain rfl : rest = [] := h2
    exact ⟨a0, h3, ⟨d, f, hp⟩, hl⟩
  · exact absurd h.2.2.2 (by decide)
  · exact (h.1 h.2.2.symm).elim
theorem Alone.compiles {a : List UInt8} {x : List Inst} (h : Alone a x) (hl : a.length ≤ 256) : Compiles a (x ++ [done]) 0 := by
  obtain ⟨d, f, hf⟩ := h
  exact .inr ⟨hl, f, x, _, hf, .inl ⟨rfl, rfl, rfl, rfl⟩⟩
theorem compiles_bad {a : List UInt8} {r : List Inst × St} (h : Parses 0 [] ⟨a, 0, 0⟩ r) (he : r.2.e = 4) (_hl : a.length ≤ 256) : Compiles a [] 4 := by
  obtain ⟨f, hf⟩ := h
  exact .inr ⟨_hl, f, r.1, r.2, hf, .inr (.inr ⟨by omega, rfl, he.symm⟩)⟩

/-- it stands in parentheses, one deep -/
def Held (a : List UInt8) (x : List Inst) : Prop := ∀ s, Parses 3 [] ⟨40 :: (a ++ 41 :: s), 0, 0⟩ (x, ⟨s, 0, 0⟩)
/-- it is too deep there -/
def Sunk (a : List UInt8) : Prop := ∀ s, ∃ r, Parses 3 [] ⟨40 :: (a ++ 41 :: s), 0, 0⟩ r ∧ r.2.e = 4

theorem Alone.held {a : List UInt8} {x : List Inst} (h : Alone a x) : Held a x ∨ Sunk a := by
  obtain ⟨d, f, hf⟩ := h
  have hd : d = 0 := parse_deep hf
  subst hd
  rcases parse_local 1 hf rfl with hl | hl
  · left; intro s
    refine Parses.open (by rw [next_cons]) (by rw [next_cons]) ?_
    rw [next_cons]
    refine Parses.group (r := (x, ⟨41 :: s, 1, 0⟩)) (show (0 : Nat) ≠ 20 by decide) ⟨f, ?_⟩
    exact hl s
  · right; intro s
    obtain ⟨r2, h2, h3⟩ := hl s
    refine ⟨(r2.1, closes r2.2), Parses.open (by rw [next_cons]) (by rw [next_cons]) ?_, ?_⟩
    · rw [next_cons]
      exact Parses.group (r := r2) (show (0 : Nat) ≠ 20 by decide) ⟨f, h2⟩
    · show (closes r2.2).e = 4
      rw [closes_of_e (by omega), h3]

theorem row_open (a : List UInt8) : ((⟨40 :: a, 0, 0⟩ : St).ends || (⟨40 :: a, 0, 0⟩ : St).is 124 || (⟨40 :: a, 0, 0⟩ : St).is 41) = false := by
  rw [ends_cons, is_cons, is_cons]; decide
theorem row_end (st : St) (h : st.ends = true) : (st.ends || st.is 124 || st.is 41) = true := by rw [h]; rfl
theorem often_not {x : List Inst} {st : St} (h1 : st.is 42 = false) (h2 : st.is 43 = false) (h3 : st.is 63 = false) : often x st = (x, st) := by
  unfold often; rw [h1, h2, h3]; rfl

/-- nothing says how often -/
def Bare (s : List UInt8) : Prop := ∀ c, s.head? = some c → c ≠ 42 ∧ c ≠ 43 ∧ c ≠ 63
theorem often_bare {x : List Inst} {s : List UInt8} (h : Bare s) (d : Nat) : often x ⟨s, d, 0⟩ = (x, ⟨s, d, 0⟩) := by
  cases s with
  | nil => exact often_not (is_nil _ _ _) (is_nil _ _ _) (is_nil _ _ _)
  | cons c r =>
    obtain ⟨h1, h2, h3⟩ := h c rfl
    exact often_not (by rw [is_cons]; simpa using h1) (by rw [is_cons]; simpa using h2) (by rw [is_cons]; simpa using h3)

/-- a row begins with parentheses -/
theorem Held.row {a : List UInt8} {x out : List Inst} (h : Held a x) {s : List UInt8} (hs : Bare s) {q : List Inst × St} (hq : Parses 1 (out ++ moved x out.length) ⟨s, 0, 0⟩ q) : Parses 1 out ⟨40 :: (a ++ 41 :: s), 0, 0⟩ q := by
  refine Parses.row (row_open _) (Parses.piece (h s)) ?_
  rw [often_bare hs]
  exact hq
theorem Sunk.row {a : List UInt8} (h : Sunk a) (out : List Inst) (s : List UInt8) : ∃ r, Parses 1 out ⟨40 :: (a ++ 41 :: s), 0, 0⟩ r ∧ r.2.e = 4 := by
  obtain ⟨r, hr, he⟩ := h s
  refine ⟨_, Parses.row (row_open _) (Parses.piece hr) (Parses.stop (row_end _ (ends_of_e ?_))), ?_⟩
  · rw [often_e]; omega
  · show (often r.1 r.2).2.e = 4
    rw [often_e]; exact he

theorem bare_nil : Bare [] := fun c h => by cases h
theorem bare_cons {c : UInt8} (r : List UInt8) (h1 : c ≠ 42) (h2 : c ≠ 43) (h3 : c ≠ 63) : Bare (c :: r) := fun d h => by
  injection h with h; subst h; exact ⟨h1, h2, h3⟩

/-- of two patterns -/
theorem pairs {a b : List UInt8} {x y : List Inst} (ha : Alone a x) (hb : Alone b y) (hl : a.length + b.length ≤ 240) :
    (Compiles (40 :: (a ++ 41 :: 124 :: 40 :: (b ++ [41]))) (either x y ++ [done]) 0 ∧ Compiles (40 :: (a ++ 41 :: 40 :: (b ++ [41]))) (x ++ moved y x.length ++ [done]) 0) ∨
    Compiles (40 :: (a ++ 41 :: 124 :: 40 :: (b ++ [41]))) [] 4 := by
  have l1 : (40 :: (a ++ 41 :: 124 :: 40 :: (b ++ [41]))).length ≤ 256 := by simp; omega
  have l2 : (40 :: (a ++ 41 :: 40 :: (b ++ [41]))).length ≤ 256 := by simp; omega
  have b124 : ∀ s : List UInt8, ((⟨124 :: s, 0, 0⟩ : St).ends || (⟨124 :: s, 0, 0⟩ : St).is 124 || (⟨124 :: s, 0, 0⟩ : St).is 41) = true := by
    intro s; rw [is_cons]; simp
  have row1 : ∀ s, Held a x → Parses 1 [] ⟨40 :: (a ++ 41 :: 124 :: s), 0, 0⟩ (x, ⟨124 :: s, 0, 0⟩) := by
    intro s h
    refine h.row (bare_cons _ (by decide) (by decide) (by decide)) ?_
    rw [List.nil_append, List.length_nil, moved_zero]
    exact Parses.stop (b124 s)
  have row2 : ∀ out, Held b y → Parses 1 out ⟨40 :: (b ++ [41]), 0, 0⟩ (out ++ moved y out.length, ⟨[], 0, 0⟩) := by
    intro out h
    exact h.row bare_nil (Parses.stop (row_end _ (ends_nil _ _)))
  rcases ha.held with h1 | h1
  · rcases hb.held with h2 | h2
    · left
      constructor
      · refine Alone.compiles ⟨0, ?_⟩ l1
        refine Parses.alts (q := (y, ⟨[], 0, 0⟩)) (row1 _ h1) (by rw [is_cons]; rfl) ?_
        refine Parses.alone ?_ (is_nil _ _ _)
        have := row2 [] h2
        rw [List.nil_append, List.length_nil, moved_zero] at this
        exact this
      · refine Alone.compiles ⟨0, ?_⟩ l2
        refine Parses.alone ?_ (is_nil _ _ _)
        refine h1.row (bare_cons _ (by decide) (by decide) (by decide)) ?_
        rw [List.nil_append, List.length_nil, moved_zero]
        exact row2 x h2
    · right
      obtain ⟨r, hr, he⟩ := h2.row [] []
      refine compiles_bad (Parses.alts (row1 _ h1) (by rw [is_cons]; rfl) (Parses.alone hr (is_of_e _ (by omega)))) he l1
  · right
    obtain ⟨r, hr, he⟩ := h1.row [] (124 :: 40 :: (b ++ [41]))
    exact compiles_bad (Parses.alone hr (is_of_e _ (by omega))) he l1
end Go.Proofs.Ythhgfahlamdgfaa
