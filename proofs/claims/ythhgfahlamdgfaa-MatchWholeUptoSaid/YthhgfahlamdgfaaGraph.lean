/- What a program fits: paths through its steps. Plain; no program in sight. -/
import Derived.Test.YthhgfahlamdgfaaPlainLaw
namespace Go.Proofs.Ythhgfahlamdgfaa

/-- from one step to the next without a byte; f: the text begins here, l: it ends here -/
def Eps (P : List Inst) (f l : Bool) (k q : Nat) : Prop :=
  ((P.getD k zeroI).kind = 2 ∧ (q = (P.getD k zeroI).x ∨ q = (P.getD k zeroI).y)) ∨ ((P.getD k zeroI).kind = 3 ∧ q = (P.getD k zeroI).x) ∨
  ((P.getD k zeroI).kind = 4 ∧ f = true ∧ q = k + 1) ∨ ((P.getD k zeroI).kind = 5 ∧ l = true ∧ q = k + 1)
/-- a step takes a byte -/
def Eats (P : List Inst) (c : UInt8) (k : Nat) : Prop := (P.getD k zeroI).kind = 1 ∧ (P.getD k zeroI).set.testBit c.toNat = true

/-- from step k at place i to step q at place j; n: so many steps -/
inductive Path (P : List Inst) (t : List UInt8) : Nat → Nat → Nat → Nat → Nat → Prop
  | refl (i k : Nat) : Path P t 0 i k i k
  | eps {n i k m j q : Nat} (h : Eps P (i == 0) (i == t.length) k m) (r : Path P t n i m j q) : Path P t (n + 1) i k j q
  | eat {n i k j q : Nat} {c : UInt8} (hc : t[i]? = some c) (h : Eats P c k) (r : Path P t n (i + 1) (k + 1) j q) : Path P t (n + 1) i k j q

def Goes (P : List Inst) (t : List UInt8) (i k j q : Nat) : Prop := ∃ n, Path P t n i k j q
theorem Goes.refl (P : List Inst) (t : List UInt8) (i k : Nat) : Goes P t i k i k := ⟨0, .refl i k⟩
theorem Goes.eps {P : List Inst} {t : List UInt8} {i k m j q : Nat} (h : Eps P (i == 0) (i == t.length) k m) (r : Goes P t i m j q) : Goes P t i k j q := by
  obtain ⟨n, r⟩ := r; exact ⟨n + 1, .eps h r⟩
theorem Goes.eat {P : List Inst} {t : List UInt8} {i k j q : Nat} {c : UInt8} (hc : t[i]? = some c) (h : Eats P c k) (r : Goes P t (i + 1) (k + 1) j q) : Goes P t i k j q := by
  obtain ⟨n, r⟩ := r; exact ⟨n + 1, .eat hc h r⟩
theorem Path.trans {P : List Inst} {t : List UInt8} {n i k j q a b : Nat} (h : Path P t n i k j q) (r : Goes P t j q a b) : Goes P t i k a b := by
  induction h with
  | refl => exact r
  | eps h _ ih => exact Goes.eps h (ih r)
  | eat hc h _ ih => exact Goes.eat hc h (ih r)
theorem Goes.trans {P : List Inst} {t : List UInt8} {i k j q a b : Nat} (h : Goes P t i k j q) (r : Goes P t j q a b) : Goes P t i k a b := by
  obtain ⟨n, h⟩ := h; exact h.trans r
theorem Path.le {P : List Inst} {t : List UInt8} {n i k j q : Nat} (h : Path P t n i k j q) : i ≤ j := by
  induction h with
  | refl => exact Nat.le_refl _
  | eps _ _ ih => exact ih
  | eat _ _ _ ih => omega
theorem Path.end_ {P : List Inst} {t : List UInt8} {n i k j q : Nat} (h : Path P t n i k j q) (hi : i ≤ t.length) : j ≤ t.length := by
  induction h with
  | refl => exact hi
  | eps _ _ ih => exact ih hi
  | eat hc _ _ ih =>
    have := List.getElem?_eq_some_iff.1 hc
    obtain ⟨h1, _⟩ := this
    exact ih h1

/-- x stands in P at o -/
def Stands (x P : List Inst) (o : Nat) : Prop := ∀ k, k < x.length → P.getD (o + k) zeroI = movedI o (x.getD k zeroI)

theorem movedI_kind (o : Nat) (i : Inst) : (movedI o i).kind = i.kind := by unfold movedI; split <;> first | rfl | (split <;> rfl)
theorem movedI_set (o : Nat) (i : Inst) : (movedI o i).set = i.set := by unfold movedI; split <;> first | rfl | (split <;> rfl)
theorem movedI_x {i : Inst} (o : Nat) (h : i.kind = 2 ∨ i.kind = 3) : (movedI o i).x = o + i.x := by
  unfold movedI
  rcases h with h | h
  · rw [if_pos h]; exact Nat.add_comm _ _
  · rw [if_neg (by omega), if_pos h]; exact Nat.add_comm _ _
theorem movedI_y {i : Inst} (o : Nat) (h : i.kind = 2) : (movedI o i).y = o + i.y := by
  unfold movedI
  rw [if_pos h]; exact Nat.add_comm _ _

theorem getD_over {x : List Inst} {k : Nat} (h : x.length ≤ k) : x.getD k zeroI = zeroI := by simp [List.getD, List.getElem?_eq_none h]
theorem eps_lt {P : List Inst} {f l : Bool} {k q : Nat} (h : Eps P f l k q) : k < P.length := by
  rcases Nat.lt_or_ge k P.length with hk | hk
  · exact hk
  · rw [Eps, getD_over hk] at h
    simp [zeroI] at h
theorem eats_lt {P : List Inst} {c : UInt8} {k : Nat} (h : Eats P c k) : k < P.length := by
  rcases Nat.lt_or_ge k P.length with hk | hk
  · exact hk
  · rw [Eats, getD_over hk] at h
    simp [zeroI] at h

theorem Stands.eps {x P : List Inst} {o k q : Nat} {f l : Bool} (hs : Stands x P o) (h : Eps x f l k q) : Eps P f l (o + k) (o + q) := by
  unfold Eps
  rw [hs k (eps_lt h), movedI_kind]
  rcases h with ⟨h1, h2⟩ | ⟨h1, h2⟩ | ⟨h1, h2, h3⟩ | ⟨h1, h2, h3⟩
  · left
    rw [movedI_x o (.inl h1), movedI_y o h1]
    exact ⟨h1, by omega⟩
  · right; left
    rw [movedI_x o (.inr h1)]
    exact ⟨h1, by omega⟩
  · exact .inr (.inr (.inl ⟨h1, h2, by omega⟩))
  · exact .inr (.inr (.inr ⟨h1, h2, by omega⟩))
theorem Stands.eats {x P : List Inst} {o k : Nat} {c : UInt8} (hs : Stands x P o) (h : Eats x c k) : Eats P c (o + k) := by
  unfold Eats
  rw [hs k (eats_lt h), movedI_kind, movedI_set]
  exact h
theorem Stands.path {x P : List Inst} {t : List UInt8} {o n i k j q : Nat} (hs : Stands x P o) (h : Path x t n i k j q) : Path P t n i (o + k) j (o + q) := by
  induction h with
  | refl => exact .refl _ _
  | eps h _ ih => exact .eps (hs.eps h) ih
  | eat hc h _ ih => exact .eat hc (hs.eats h) ih
theorem Stands.goes {x P : List Inst} {t : List UInt8} {o i k j q : Nat} (hs : Stands x P o) (h : Goes x t i k j q) : Goes P t i (o + k) j (o + q) := by
  obtain ⟨n, h⟩ := h; exact ⟨n, hs.path h⟩

/-- each step goes to one of these, or to the end -/
theorem Stands.eps_back {x P : List Inst} {o k q : Nat} {f l : Bool} (hs : Stands x P o) (hi : AllInside x) (hk : k < x.length) (h : Eps P f l (o + k) q) : ∃ m, m ≤ x.length ∧ q = o + m ∧ Eps x f l k m := by
  have hin := hi _ (List.getElem_mem hk)
  have hg : x.getD k zeroI = x[k] := by simp [List.getD, List.getElem?_eq_getElem hk]
  rw [Eps, hs k hk, movedI_kind, hg] at h
  unfold Eps
  rw [hg]
  rcases h with ⟨h1, h2⟩ | ⟨h1, h2⟩ | ⟨h1, h2, h3⟩ | ⟨h1, h2, h3⟩
  · rw [movedI_x o (.inl h1), movedI_y o h1] at h2
    rcases h2 with h2 | h2
    · exact ⟨_, hin.1, h2, .inl ⟨h1, .inl rfl⟩⟩
    · exact ⟨_, hin.2.1, h2, .inl ⟨h1, .inr rfl⟩⟩
  · rw [movedI_x o (.inr h1)] at h2
    exact ⟨_, hin.1, h2, .inr (.inl ⟨h1, rfl⟩)⟩
  · exact ⟨k + 1, hk, by omega, .inr (.inr (.inl ⟨h1, h2, rfl⟩))⟩
  · exact ⟨k + 1, hk, by omega, .inr (.inr (.inr ⟨h1, h2, rfl⟩))⟩

/-- a path that begins there goes out at the end, or it stays -/
theorem Stands.exit {x P : List Inst} {t : List UInt8} {o n i j q : Nat} (hs : Stands x P o) (hi : AllInside x) {p : Nat} (h : Path P t n i p j q) :
    ∀ k, p = o + k → k ≤ x.length → (∃ m, m < x.length ∧ q = o + m) ∨ ∃ m c, c ≤ n ∧ Goes x t i k m x.length ∧ Path P t c m (o + x.length) j q := by
  induction h with
  | refl i p =>
    intro k hp hk
    rcases Nat.lt_or_ge k x.length with h1 | h1
    · exact .inl ⟨k, h1, hp⟩
    · obtain rfl : k = x.length := by omega
      right
      exact ⟨i, 0, Nat.le_refl _, Goes.refl _ _ _ _, by rw [hp]; exact .refl _ _⟩
  | @eps n i p m j q h r ih =>
    intro k hp hk
    rcases Nat.lt_or_ge k x.length with h1 | h1
    · subst hp
      obtain ⟨m2, hm, rfl, he⟩ := hs.eps_back hi h1 h
      rcases ih m2 rfl hm with h2 | ⟨m3, c, hc, h3, h4⟩
      · exact .inl h2
      · exact .inr ⟨m3, c, by omega, Goes.eps he h3, h4⟩
    · obtain rfl : k = x.length := by omega
      right
      exact ⟨i, n + 1, Nat.le_refl _, Goes.refl _ _ _ _, by rw [← hp]; exact .eps h r⟩
  | @eat n i p j q c hc h r ih =>
    intro k hp hk
    rcases Nat.lt_or_ge k x.length with h1 | h1
    · subst hp
      have he : Eats x c k := by
        rw [Eats, hs k h1, movedI_kind, movedI_set] at h
        exact h
      rcases ih (k + 1) (by omega) h1 with h2 | ⟨m3, c3, hc3, h3, h4⟩
      · exact .inl h2
      · exact .inr ⟨m3, c3, by omega, Goes.eat hc he h3, h4⟩
    · obtain rfl : k = x.length := by omega
      right
      exact ⟨i, n + 1, Nat.le_refl _, Goes.refl _ _ _ _, by rw [← hp]; exact .eat hc h r⟩

/-- a part of the text, from i to j, fits -/
def Fit (x : List Inst) (t : List UInt8) (i j : Nat) : Prop := Goes x t i 0 j x.length

theorem Fit.put {x P : List Inst} {t : List UInt8} {o i j : Nat} (hs : Stands x P o) (h : Fit x t i j) : Goes P t i o j (o + x.length) := hs.goes h
theorem Stands.out {x P : List Inst} {t : List UInt8} {o n i j q : Nat} (hs : Stands x P o) (hi : AllInside x) (h : Path P t n i o j q) (hq : o + x.length ≤ q) : ∃ m c, c ≤ n ∧ Fit x t i m ∧ Path P t c m (o + x.length) j q := by
  rcases hs.exit hi h 0 rfl (Nat.zero_le _) with ⟨m, h1, h2⟩ | h
  · omega
  · exact h

theorem getD_left {x : List Inst} (y : List Inst) {k : Nat} (h : k < x.length) : (x ++ y).getD k zeroI = x.getD k zeroI := by
  simp [List.getD, List.getElem?_append_left h]
theorem getD_right (x y : List Inst) (k : Nat) : (x ++ y).getD (x.length + k) zeroI = y.getD k zeroI := by
  simp [List.getD, List.getElem?_append_right]
theorem movedI_zero (i : Inst) : movedI 0 i = i := by unfold movedI; split <;> first | rfl | (split <;> rfl)
theorem moved_getD (l : List Inst) (o k : Nat) : (moved l o).getD k zeroI = movedI o (l.getD k zeroI) := moved_get rfl

theorem stands_left (x y : List Inst) : Stands x (x ++ y) 0 := fun k hk => by rw [Nat.zero_add, movedI_zero, getD_left y hk]
theorem stands_mid (a x y : List Inst) : Stands x (a ++ moved x a.length ++ y) a.length := fun k hk => by
  rw [List.append_assoc, getD_right, getD_left y (by rw [moved_length]; exact hk), moved_getD x _ k]

/-- where a step goes nowhere -/
theorem Path.stuck {P : List Inst} {t : List UInt8} {n i k j q : Nat} (h : Path P t n i k j q) (hk : (P.getD k zeroI).kind = 0 ∨ (P.getD k zeroI).kind = 6) : i = j ∧ k = q := by
  cases h with
  | refl => exact ⟨rfl, rfl⟩
  | eps h _ => unfold Eps at h; omega
  | eat _ h _ => unfold Eats at h; omega
theorem kind_over {x : List Inst} {k : Nat} (h : x.length ≤ k) : (x.getD k zeroI).kind = 0 := by rw [getD_over h]; rfl

theorem Path.first {P : List Inst} {t : List UInt8} {n i k j q : Nat} (h : Path P t n i k j q) (hne : k ≠ q) :
    ∃ c, n = c + 1 ∧ ((∃ m, Eps P (i == 0) (i == t.length) k m ∧ Path P t c i m j q) ∨ ∃ b, t[i]? = some b ∧ Eats P b k ∧ Path P t c (i + 1) (k + 1) j q) := by
  cases h with
  | refl => exact absurd rfl hne
  | eps h r => exact ⟨_, rfl, .inl ⟨_, h, r⟩⟩
  | eat hc h r => exact ⟨_, rfl, .inr ⟨_, hc, h, r⟩⟩
theorem Path.split {P : List Inst} {t : List UInt8} {n i k j q : Nat} {s : Inst} (h : Path P t n i k j q) (hg : P.getD k zeroI = s) (hk : s.kind = 2) (hne : k ≠ q) :
    ∃ c, n = c + 1 ∧ (Path P t c i s.x j q ∨ Path P t c i s.y j q) := by
  obtain ⟨c, hc, ⟨m, h1, h2⟩ | ⟨b, _, h1, _⟩⟩ := h.first hne
  · refine ⟨c, hc, ?_⟩
    rw [Eps, hg] at h1
    rcases h1 with ⟨_, rfl | rfl⟩ | h1 | h1 | h1
    · exact .inl h2
    · exact .inr h2
    · omega
    · omega
    · omega
  · rw [Eats, hg] at h1; omega
theorem Path.jump {P : List Inst} {t : List UInt8} {n i k j q : Nat} {s : Inst} (h : Path P t n i k j q) (hg : P.getD k zeroI = s) (hk : s.kind = 3) (hne : k ≠ q) :
    ∃ c, n = c + 1 ∧ Path P t c i s.x j q := by
  obtain ⟨c, hc, ⟨m, h1, h2⟩ | ⟨b, _, h1, _⟩⟩ := h.first hne
  · refine ⟨c, hc, ?_⟩
    rw [Eps, hg] at h1
    rcases h1 with h1 | ⟨_, rfl⟩ | h1 | h1
    · omega
    · exact h2
    · omega
    · omega
  · rw [Eats, hg] at h1; omega
theorem Goes.x {P : List Inst} {t : List UInt8} {i k j q : Nat} {s : Inst} (hg : P.getD k zeroI = s) (hk : s.kind = 2 ∨ s.kind = 3) (r : Goes P t i s.x j q) : Goes P t i k j q := by
  refine Goes.eps (m := s.x) ?_ r
  unfold Eps
  rw [hg]
  rcases hk with hk | hk
  · exact Or.inl ⟨hk, Or.inl rfl⟩
  · exact Or.inr (Or.inl ⟨hk, rfl⟩)
theorem Goes.y {P : List Inst} {t : List UInt8} {i k j q : Nat} {s : Inst} (hg : P.getD k zeroI = s) (hk : s.kind = 2) (r : Goes P t i s.y j q) : Goes P t i k j q := by
  refine Goes.eps (m := s.y) ?_ r
  unfold Eps
  rw [hg]
  exact Or.inl ⟨hk, Or.inr rfl⟩

/-- one behind the other -/
theorem fit_seq {x y : List Inst} {t : List UInt8} {i j : Nat} (hx : AllInside x) (hy : AllInside y) : Fit (x ++ moved y x.length) t i j ↔ ∃ m, Fit x t i m ∧ Fit y t m j := by
  have h1 : Stands x (x ++ moved y x.length) 0 := stands_left _ _
  have h2 : Stands y (x ++ moved y x.length) x.length := by have := stands_mid x y []; rwa [List.append_nil] at this
  have hl : (x ++ moved y x.length).length = x.length + y.length := by rw [List.length_append, moved_length]
  unfold Fit
  constructor
  · rintro ⟨n, h⟩
    rw [hl] at h
    obtain ⟨m, c, _, h3, h4⟩ := h1.out hx h (by omega)
    rw [Nat.zero_add] at h4
    obtain ⟨m2, c2, _, h5, h6⟩ := h2.out hy h4 (Nat.le_refl _)
    obtain ⟨rfl, _⟩ := h6.stuck (.inl (kind_over (by omega)))
    exact ⟨m, h3, h5⟩
  · rintro ⟨m, h3, h4⟩
    rw [hl]
    have := h1.goes h3
    simp only [Nat.zero_add] at this
    exact this.trans (h2.goes h4)

/-- one of two -/
theorem fit_either {x y : List Inst} {t : List UInt8} {i j : Nat} (hx : AllInside x) (hy : AllInside y) : Fit (either x y) t i j ↔ Fit x t i j ∨ Fit y t i j := by
  have hP : either x y = [⟨2, 0, 1, x.length + 2⟩] ++ moved x 1 ++ ([⟨3, 0, x.length + 2 + y.length, 0⟩] ++ moved y (x.length + 2)) := by unfold either; simp
  have hP2 : either x y = ([⟨2, 0, 1, x.length + 2⟩] ++ moved x 1 ++ [⟨3, 0, x.length + 2 + y.length, 0⟩]) ++ moved y (x.length + 2) ++ [] := by unfold either; simp
  have h1 : Stands x (either x y) 1 := by rw [hP]; exact stands_mid [⟨2, 0, 1, x.length + 2⟩] x _
  have hl2 : ([⟨2, 0, 1, x.length + 2⟩] ++ moved x 1 ++ [⟨3, 0, x.length + 2 + y.length, 0⟩] : List Inst).length = x.length + 2 := by simp [moved_length]
  have h2 : Stands y (either x y) (x.length + 2) := by
    have := stands_mid ([⟨2, 0, 1, x.length + 2⟩] ++ moved x 1 ++ [⟨3, 0, x.length + 2 + y.length, 0⟩] : List Inst) y []
    rw [hl2] at this
    rw [hP2]; exact this
  have hl : (either x y).length = x.length + 2 + y.length := by rw [hP2, List.length_append, List.length_append, hl2, moved_length]; simp
  have e0 : (either x y).getD 0 zeroI = ⟨2, 0, 1, x.length + 2⟩ := rfl
  have e1 : (either x y).getD (1 + x.length) zeroI = ⟨3, 0, x.length + 2 + y.length, 0⟩ := by
    rw [hP, show 1 + x.length = ([⟨2, 0, 1, x.length + 2⟩] ++ moved x 1 : List Inst).length + 0 by simp [moved_length]; omega, getD_right]; rfl
  unfold Fit
  rw [hl]
  constructor
  · rintro ⟨n, h⟩
    obtain ⟨_, _, r | r⟩ := h.split e0 rfl (by omega)
    · obtain ⟨m, c, _, h3, h4⟩ := h1.out hx r (by omega)
      obtain ⟨_, _, r⟩ := h4.jump e1 rfl (by omega)
      obtain ⟨rfl, _⟩ := r.stuck (.inl (kind_over (by rw [hl]; exact Nat.le_refl _)))
      exact .inl h3
    · obtain ⟨m, c, _, h3, h4⟩ := h2.out hy r (Nat.le_refl _)
      obtain ⟨rfl, _⟩ := h4.stuck (.inl (kind_over (by rw [hl]; exact Nat.le_refl _)))
      exact .inr h3
  · rintro (h | h)
    · exact Goes.x e0 (.inl rfl) ((h1.goes h).trans (Goes.x e1 (.inr rfl) (Goes.refl _ _ _ _)))
    · exact Goes.y e0 rfl (h2.goes h)

/-- as often as it is -/
inductive Chain (R : Nat → Nat → Prop) : Nat → Nat → Prop
  | refl (i : Nat) : Chain R i i
  | step {i m j : Nat} (h : R i m) (r : Chain R m j) : Chain R i j

def starOf (x : List Inst) : List Inst := (⟨2, 0, 1, x.length + 2⟩ :: moved x 1) ++ [⟨3, 0, 0, 0⟩]
def plusOf (x : List Inst) : List Inst := x ++ [⟨2, 0, 0, x.length + 1⟩]
def maybeOf (x : List Inst) : List Inst := ⟨2, 0, 1, x.length + 1⟩ :: moved x 1

theorem fit_star {x : List Inst} {t : List UInt8} {i j : Nat} (hx : AllInside x) : Fit (starOf x) t i j ↔ Chain (Fit x t) i j := by
  have h1 : Stands x (starOf x) 1 := stands_mid [⟨2, 0, 1, x.length + 2⟩] x _
  have hl : (starOf x).length = x.length + 2 := by unfold starOf; simp [moved_length]
  have e0 : (starOf x).getD 0 zeroI = ⟨2, 0, 1, x.length + 2⟩ := rfl
  have e1 : (starOf x).getD (1 + x.length) zeroI = ⟨3, 0, 0, 0⟩ := by
    unfold starOf
    rw [show 1 + x.length = ((⟨2, 0, 1, x.length + 2⟩ : Inst) :: moved x 1).length + 0 by simp [moved_length]; omega, getD_right]; rfl
  unfold Fit
  rw [hl]
  constructor
  · rintro ⟨n, h⟩
    induction n using Nat.strongRecOn generalizing i with
    | ind n ih =>
      obtain ⟨c1, hc1, r | r⟩ := h.split e0 rfl (by omega)
      · obtain ⟨m, c, hc, h3, h4⟩ := h1.out hx r (by omega)
        obtain ⟨c2, hc2, r⟩ := h4.jump e1 rfl (by omega)
        exact .step h3 (ih c2 (by omega) r)
      · obtain ⟨rfl, _⟩ := r.stuck (.inl (kind_over (by rw [hl]; exact Nat.le_refl _)))
        exact .refl _
  · intro h
    induction h with
    | refl i => exact Goes.y e0 rfl (Goes.refl _ _ _ _)
    | step h _ ih => exact Goes.x e0 (.inl rfl) ((h1.goes h).trans (Goes.x e1 (.inr rfl) ih))

theorem fit_plus {x : List Inst} {t : List UInt8} {i j : Nat} (hx : AllInside x) : Fit (plusOf x) t i j ↔ ∃ m, Fit x t i m ∧ Chain (Fit x t) m j := by
  have h1 : Stands x (plusOf x) 0 := stands_left _ _
  have hl : (plusOf x).length = x.length + 1 := by unfold plusOf; simp
  have e1 : (plusOf x).getD x.length zeroI = ⟨2, 0, 0, x.length + 1⟩ := getD_right x [⟨2, 0, 0, x.length + 1⟩] 0
  have fwd : ∀ m, Chain (Fit x t) m j → Goes (plusOf x) t m x.length j (x.length + 1) := by
    intro m h
    induction h with
    | refl i => exact Goes.y e1 rfl (Goes.refl _ _ _ _)
    | step h _ ih =>
      refine Goes.x e1 (.inl rfl) ?_
      have := h1.goes h
      simp only [Nat.zero_add] at this
      exact this.trans ih
  unfold Fit
  rw [hl]
  constructor
  · rintro ⟨n, h⟩
    clear fwd
    induction n using Nat.strongRecOn generalizing i with
    | ind n ih =>
      obtain ⟨m, c, hc, h3, h4⟩ := h1.out hx h (by omega)
      rw [Nat.zero_add] at h4
      obtain ⟨c2, hc2, r | r⟩ := h4.split e1 rfl (by omega)
      · obtain ⟨m2, h5, h6⟩ := ih c2 (by omega) r
        exact ⟨m, h3, .step h5 h6⟩
      · obtain ⟨rfl, _⟩ := r.stuck (.inl (kind_over (by rw [hl]; exact Nat.le_refl _)))
        exact ⟨_, h3, .refl _⟩
  · rintro ⟨m, h, hc⟩
    have := h1.goes h
    simp only [Nat.zero_add] at this
    exact this.trans (fwd m hc)

theorem fit_maybe {x : List Inst} {t : List UInt8} {i j : Nat} (hx : AllInside x) : Fit (maybeOf x) t i j ↔ i = j ∨ Fit x t i j := by
  have h1 : Stands x (maybeOf x) 1 := by have := stands_mid [⟨2, 0, 1, x.length + 1⟩] x []; rw [List.append_nil] at this; exact this
  have hl : (maybeOf x).length = x.length + 1 := by unfold maybeOf; simp [moved_length]
  have e0 : (maybeOf x).getD 0 zeroI = ⟨2, 0, 1, x.length + 1⟩ := rfl
  unfold Fit
  rw [hl]
  constructor
  · rintro ⟨n, h⟩
    obtain ⟨_, _, r | r⟩ := h.split e0 rfl (by omega)
    · obtain ⟨m, c, _, h3, h4⟩ := h1.out hx r (by omega)
      obtain ⟨rfl, _⟩ := h4.stuck (.inl (kind_over (by rw [hl]; omega)))
      exact .inr h3
    · obtain ⟨rfl, _⟩ := r.stuck (.inl (kind_over (by rw [hl]; exact Nat.le_refl _)))
      exact .inl rfl
  · rintro (rfl | h)
    · exact Goes.y e0 rfl (Goes.refl _ _ _ _)
    · have := h1.goes h
      rw [Nat.add_comm 1 x.length] at this
      exact Goes.x e0 (.inl rfl) this

/-- one step -/
theorem fit_first {t : List UInt8} {i j : Nat} : Fit [⟨4, 0, 0, 0⟩] t i j ↔ i = 0 ∧ j = 0 := by
  have e0 : ([⟨4, 0, 0, 0⟩] : List Inst).getD 0 zeroI = ⟨4, 0, 0, 0⟩ := rfl
  constructor
  · rintro ⟨n, h⟩
    cases h with
    | eps h r =>
      rw [Eps, e0] at h
      rcases h with h | h | ⟨_, h, rfl⟩ | h
      · cases h.1
      · cases h.1
      · obtain ⟨rfl, _⟩ := r.stuck (.inl rfl)
        have := beq_iff_eq.1 h
        exact ⟨this, this⟩
      · cases h.1
    | eat _ h _ => rw [Eats, e0] at h; cases h.1
  · rintro ⟨rfl, rfl⟩
    exact Goes.eps (m := 1) (.inr (.inr (.inl ⟨rfl, rfl, rfl⟩))) (Goes.refl _ _ _ _)
theorem fit_last {t : List UInt8} {i j : Nat} : Fit [⟨5, 0, 0, 0⟩] t i j ↔ i = t.length ∧ j = t.length := by
  have e0 : ([⟨5, 0, 0, 0⟩] : List Inst).getD 0 zeroI = ⟨5, 0, 0, 0⟩ := rfl
  constructor
  · rintro ⟨n, h⟩
    cases h with
    | eps h r =>
      rw [Eps, e0] at h
      rcases h with h | h | h | ⟨_, h, rfl⟩
      · cases h.1
      · cases h.1
      · cases h.1
      · obtain ⟨rfl, _⟩ := r.stuck (.inl rfl)
        have := beq_iff_eq.1 h
        exact ⟨this, this⟩
    | eat _ h _ => rw [Eats, e0] at h; cases h.1
  · rintro ⟨rfl, rfl⟩
    exact Goes.eps (m := 1) (.inr (.inr (.inr ⟨rfl, by simp, rfl⟩))) (Goes.refl _ _ _ _)
theorem fit_char {t : List UInt8} {m i j : Nat} : Fit [⟨1, m, 0, 0⟩] t i j ↔ j = i + 1 ∧ ∃ c, t[i]? = some c ∧ m.testBit c.toNat = true := by
  have e0 : ([⟨1, m, 0, 0⟩] : List Inst).getD 0 zeroI = ⟨1, m, 0, 0⟩ := rfl
  constructor
  · rintro ⟨n, h⟩
    cases h with
    | eps h r =>
      rw [Eps, e0] at h
      rcases h with h | h | h | h
      · cases h.1
      · cases h.1
      · cases h.1
      · cases h.1
    | eat hc h r =>
      rw [Eats, e0] at h
      obtain ⟨rfl, _⟩ := r.stuck (.inl rfl)
      exact ⟨rfl, _, hc, h.2⟩
  · rintro ⟨rfl, c, hc, h⟩
    exact Goes.eat hc ⟨rfl, h⟩ (Goes.refl _ _ _ _)
theorem fit_nil {t : List UInt8} {i j : Nat} : Fit [] t i j ↔ i = j := by
  constructor
  · rintro ⟨n, h⟩
    exact (h.stuck (.inl rfl)).1
  · rintro rfl; exact Goes.refl _ _ _ _

/-- the text has s from place i on -/
def Has (t : List UInt8) (i : Nat) (s : List UInt8) : Prop := ∀ k, k < s.length → t[i + k]? = s[k]?
theorem inside_char (m : Nat) (hm : m < 2 ^ 256) : AllInside [⟨1, m, 0, 0⟩] := by
  intro i hi
  obtain rfl := List.mem_singleton.1 hi
  exact ⟨Nat.zero_le _, Nat.zero_le _, (show 1 ≤ 1 by decide), (show 1 ≤ 5 by decide), hm⟩
theorem pow_inj_bit {a b : UInt8} : (2 ^ a.toNat).testBit b.toNat = true ↔ b = a := by
  rw [Nat.testBit_two_pow, decide_eq_true_eq]
  constructor
  · intro h; exact UInt8.toNat_inj.1 h.symm
  · rintro rfl; rfl
theorem moved_lits (s : List UInt8) (o : Nat) : moved (lits s) o = lits s := by
  unfold moved lits
  rw [List.map_map]
  apply List.map_congr_left
  intro c _
  rfl
theorem lits_inside (s : List UInt8) : AllInside (lits s) := by
  intro i hi
  obtain ⟨c, _, rfl⟩ := List.mem_map.1 hi
  exact ⟨Nat.zero_le _, Nat.zero_le _, (show 1 ≤ 1 by decide), (show 1 ≤ 5 by decide), Nat.pow_lt_pow_right (by omega) c.toNat_lt⟩
theorem fit_lits {t : List UInt8} : ∀ {s : List UInt8} {i j : Nat}, Fit (lits s) t i j ↔ j = i + s.length ∧ Has t i s
  | [], i, j => by
    rw [show lits [] = [] from rfl, fit_nil]
    constructor
    · rintro rfl; exact ⟨rfl, fun k hk => by cases hk⟩
    · rintro ⟨rfl, _⟩; rfl
  | c :: s, i, j => by
    have e : lits (c :: s) = lits [c] ++ moved (lits s) (lits [c]).length := by rw [moved_lits]; rfl
    rw [e, fit_seq (lits_inside [c]) (lits_inside s)]
    constructor
    · rintro ⟨m, h1, h2⟩
      obtain ⟨rfl, b, hb, hs⟩ := fit_char.1 h1
      obtain rfl := pow_inj_bit.1 hs
      obtain ⟨rfl, h3⟩ := fit_lits.1 h2
      refine ⟨by simp; omega, fun k hk => ?_⟩
      cases k with
      | zero => simpa using hb
      | succ k =>
        have := h3 k (by simpa using hk)
        rw [show i + (k + 1) = i + 1 + k by omega, this]
        simp
    · rintro ⟨rfl, h⟩
      refine ⟨i + 1, fit_char.2 ⟨rfl, c, by simpa using h 0 (by simp), pow_inj_bit.2 rfl⟩, fit_lits.2 ⟨by simp; omega, fun k hk => ?_⟩⟩
      have := h (k + 1) (by simpa using hk)
      rw [show i + 1 + k = i + (k + 1) by omega, this]
      simp

/-! ### what the whole program says -/
def WholeAcc (P : List Inst) (t : List UInt8) : Prop := ∃ k, Goes P t 0 0 t.length k ∧ (P.getD k zeroI).kind = 6
def FindAcc (P : List Inst) (t : List UInt8) : Prop := ∃ i j k, i ≤ t.length ∧ Goes P t i 0 j k ∧ (P.getD k zeroI).kind = 6

theorem done_at {x : List Inst} (hx : AllInside x) {k : Nat} (h : ((x ++ [done]).getD k zeroI).kind = 6) : k = x.length := by
  rcases Nat.lt_trichotomy k x.length with h1 | h1 | h1
  · rw [getD_left _ h1, show x.getD k zeroI = x[k] by simp [List.getD, List.getElem?_eq_getElem h1]] at h
    have := hx _ (List.getElem_mem h1)
    obtain ⟨_, _, _, h5, _⟩ := this
    omega
  · exact h1
  · rw [kind_over (by simp; omega)] at h; cases h
theorem done_is (x : List Inst) : ((x ++ [done]).getD x.length zeroI).kind = 6 := by
  have := getD_right x [done] 0
  rw [Nat.add_zero] at this
  rw [this]; rfl
theorem goes_done {x : List Inst} {t : List UInt8} {i j : Nat} (hx : AllInside x) : Goes (x ++ [done]) t i 0 j x.length ↔ Fit x t i j := by
  constructor
  · rintro ⟨n, h⟩
    obtain ⟨m, c, _, h3, h4⟩ := (stands_left x [done]).out hx h (by omega)
    rw [Nat.zero_add] at h4
    obtain ⟨rfl, _⟩ := h4.stuck (.inr (done_is x))
    exact h3
  · intro h
    have := (stands_left x [done]).goes h
    rwa [Nat.zero_add, Nat.zero_add] at this
theorem whole_fit {x : List Inst} {t : List UInt8} (hx : AllInside x) : WholeAcc (x ++ [done]) t ↔ Fit x t 0 t.length := by
  constructor
  · rintro ⟨k, h, hk⟩
    obtain rfl := done_at hx hk
    exact (goes_done hx).1 h
  · intro h; exact ⟨_, (goes_done hx).2 h, done_is x⟩
theorem find_fit {x : List Inst} {t : List UInt8} (hx : AllInside x) : FindAcc (x ++ [done]) t ↔ ∃ i j, i ≤ t.length ∧ Fit x t i j := by
  constructor
  · rintro ⟨i, j, k, hi, h, hk⟩
    obtain rfl := done_at hx hk
    exact ⟨i, j, hi, (goes_done hx).1 h⟩
  · rintro ⟨i, j, hi, h⟩; exact ⟨i, j, _, hi, (goes_done hx).2 h, done_is x⟩
end Go.Proofs.Ythhgfahlamdgfaa
