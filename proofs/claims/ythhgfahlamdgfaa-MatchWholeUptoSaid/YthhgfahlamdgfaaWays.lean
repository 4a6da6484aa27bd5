/- the steps that may be next: what enter, takes and fits compute. Plain. -/
import Derived.Test.YthhgfahlamdgfaaGraph
namespace Go.Proofs.Ythhgfahlamdgfaa

/-- marks: a step is in -/
def In (A : List Bool) (k : Nat) : Prop := A[k]? = some true

/-- reached without a byte -/
inductive EpsPath (P : List Inst) (f l : Bool) : Nat → Nat → Prop
  | refl (k : Nat) : EpsPath P f l k k
  | step {k m q : Nat} (h : Eps P f l k m) (r : EpsPath P f l m q) : EpsPath P f l k q
theorem EpsPath.snoc {P : List Inst} {f l : Bool} {k m q : Nat} (h : EpsPath P f l k m) (r : Eps P f l m q) : EpsPath P f l k q := by
  induction h with
  | refl => exact .step r (.refl _)
  | step h _ ih => exact .step h (ih r)

def Closed (P : List Inst) (f l : Bool) (A : List Bool) : Prop := ∀ k, In A k → ∀ q, Eps P f l k q → In A q
/-- done says whether the last step is in -/
def DoneOf (P : List Inst) (A : List Bool) (d : Bool) : Prop := d = true ↔ ∃ k, In A k ∧ (P.getD k zeroI).kind = 6

/-- what enter hands back -/
structure Entered (P : List Inst) (f l : Bool) (A : List Bool) (i : Nat) (A' : List Bool) (d' : Bool) : Prop where
  len : A'.length = A.length
  said : ∀ k, In A' k ↔ In A k ∨ EpsPath P f l i k
  shut : Closed P f l A'
  isDone : DoneOf P A' d'

/-- amid enter: T is what is to do -/
structure Entering (P : List Inst) (f l : Bool) (A : List Bool) (i : Nat) (T : List Nat) (A' : List Bool) (d' : Bool) : Prop where
  len : A'.length = A.length
  from_ : ∀ k, In A' k → In A k ∨ EpsPath P f l i k
  todo : ∀ k, k ∈ T → EpsPath P f l i k ∧ k < P.length
  keeps : ∀ k, In A k → In A' k
  shut : ∀ k, In A' k → ∀ q, Eps P f l k q → In A' q ∨ q ∈ T
  begun : In A' i ∨ i ∈ T
  isDone : DoneOf P A' d'

theorem Entering.start {P : List Inst} {f l : Bool} {A : List Bool} {i : Nat} {d : Bool} (hc : Closed P f l A) (hd : DoneOf P A d) (hi : i < P.length) : Entering P f l A i [i] A d :=
  ⟨rfl, fun _ h => .inl h, fun k hk => by rw [List.mem_singleton] at hk; subst hk; exact ⟨.refl _, hi⟩, fun _ h => h, fun k hk q hq => .inl (hc k hk q hq), .inr (List.mem_singleton.2 rfl), hd⟩

theorem Entering.ends {P : List Inst} {f l : Bool} {A : List Bool} {i : Nat} {A' : List Bool} {d' : Bool} (h : Entering P f l A i [] A' d') : Entered P f l A i A' d' := by
  have hs : Closed P f l A' := fun k hk q hq => by
    rcases h.shut k hk q hq with h | h
    · exact h
    · cases h
  refine ⟨h.len, fun k => ⟨h.from_ k, ?_⟩, hs, h.isDone⟩
  rintro (h1 | h1)
  · exact h.keeps k h1
  · have h0 : In A' i := by
      rcases h.begun with h | h
      · exact h
      · cases h
    clear h
    induction h1 with
    | refl => exact h0
    | step h _ ih => exact ih (hs _ h0 _ h)

/-- it was there -/
theorem Entering.known {P : List Inst} {f l : Bool} {A : List Bool} {i k : Nat} {T : List Nat} {A' : List Bool} {d' : Bool} (h : Entering P f l A i (T ++ [k]) A' d') (hk : In A' k) : Entering P f l A i T A' d' := by
  refine ⟨h.len, h.from_, fun q hq => h.todo q (List.mem_append_left _ hq), h.keeps, ?_, ?_, h.isDone⟩
  · intro a ha q hq
    rcases h.shut a ha q hq with h1 | h1
    · exact .inl h1
    · rcases List.mem_append.1 h1 with h1 | h1
      · exact .inr h1
      · obtain rfl := List.mem_singleton.1 h1; exact .inl hk
  · rcases h.begun with h1 | h1
    · exact .inl h1
    · rcases List.mem_append.1 h1 with h1 | h1
      · exact .inr h1
      · obtain rfl := List.mem_singleton.1 h1; exact .inl hk

theorem in_set {A : List Bool} {k q : Nat} (hk : k < A.length) : In (A.set k true) q ↔ In A q ∨ q = k := by
  unfold In
  rw [List.getElem?_set]
  by_cases h : k = q
  · subst h; simp [hk]
  · rw [if_neg h]
    constructor
    · exact .inl
    · rintro (h1 | h1)
      · exact h1
      · exact absurd h1.symm h
theorem in_lt {A : List Bool} {k : Nat} (h : In A k) : k < A.length := (List.getElem?_eq_some_iff.1 h).1

/-- a step is marked, and those that it goes to are noted -/
theorem Entering.mark {P : List Inst} {f l : Bool} {A : List Bool} {i k : Nat} {T S : List Nat} {A' : List Bool} {d' e' : Bool} (h : Entering P f l A i (T ++ [k]) A' d') (hk : k < A'.length)
    (hin : ∀ q, q ∈ S → Eps P f l k q ∧ q < P.length) (hall : ∀ q, Eps P f l k q → q ∈ S) (he : e' = true ↔ d' = true ∨ (P.getD k zeroI).kind = 6) : Entering P f l A i (T ++ S) (A'.set k true) e' := by
  have hkp := (h.todo k (List.mem_append_right _ (List.mem_singleton.2 rfl))).1
  refine ⟨by rw [List.length_set]; exact h.len, ?_, ?_, fun q hq => (in_set hk).2 (.inl (h.keeps q hq)), ?_, ?_, ?_⟩
  · intro q hq
    rcases (in_set hk).1 hq with h1 | rfl
    · exact h.from_ q h1
    · exact .inr hkp
  · intro q hq
    rcases List.mem_append.1 hq with h1 | h1
    · exact h.todo q (List.mem_append_left _ h1)
    · exact ⟨hkp.snoc (hin q h1).1, (hin q h1).2⟩
  · intro a ha q hq
    rcases (in_set hk).1 ha with h1 | rfl
    · rcases h.shut a h1 q hq with h2 | h2
      · exact .inl ((in_set hk).2 (.inl h2))
      · rcases List.mem_append.1 h2 with h2 | h2
        · exact .inr (List.mem_append_left _ h2)
        · obtain rfl := List.mem_singleton.1 h2; exact .inl ((in_set hk).2 (.inr rfl))
    · exact .inr (List.mem_append_right _ (hall q hq))
  · rcases h.begun with h1 | h1
    · exact .inl ((in_set hk).2 (.inl h1))
    · rcases List.mem_append.1 h1 with h1 | h1
      · exact .inr (List.mem_append_left _ h1)
      · obtain rfl := List.mem_singleton.1 h1; exact .inl ((in_set hk).2 (.inr rfl))
  · unfold DoneOf
    rw [he, show d' = true ↔ _ from h.isDone]
    constructor
    · rintro (⟨q, h1, h2⟩ | h1)
      · exact ⟨q, (in_set hk).2 (.inl h1), h2⟩
      · exact ⟨k, (in_set hk).2 (.inr rfl), h1⟩
    · rintro ⟨q, h1, h2⟩
      rcases (in_set hk).1 h1 with h1 | rfl
      · exact .inl ⟨q, h1, h2⟩
      · exact .inr h2

/-- how many are not in -/
def outs (A : List Bool) : Nat := A.countP (fun b => !b)
theorem outs_set {A : List Bool} {k : Nat} (hk : k < A.length) (h : ¬ In A k) : outs (A.set k true) + 1 = outs A := by
  induction A generalizing k with
  | nil => cases hk
  | cons b A ih =>
    cases k with
    | zero =>
      have hb : b = false := by
        cases b
        · rfl
        · exact absurd rfl h
      subst hb
      simp [outs]
    | succ k =>
      have := ih (k := k) (by simpa using hk) (by simpa [In] using h)
      unfold outs at this ⊢
      rw [List.set_cons_succ, List.countP_cons, List.countP_cons]
      omega
theorem outs_le (A : List Bool) : outs A ≤ A.length := List.countP_le_length

/-! ### position by position -/
/-- the marks of place j; a: the places where it may begin -/
def MarksAt (P : List Inst) (t : List UInt8) (a : Nat → Prop) (j : Nat) (A : List Bool) : Prop := ∀ k, In A k ↔ ∃ i, a i ∧ i ≤ j ∧ Goes P t i 0 j k

theorem Path.last {P : List Inst} {t : List UInt8} {n i k j q : Nat} (h : Path P t n i k (j + 1) q) :
    (i = j + 1 ∧ EpsPath P (j + 1 == 0) (j + 1 == t.length) k q) ∨ ∃ m c, t[j]? = some c ∧ Goes P t i k j m ∧ Eats P c m ∧ EpsPath P (j + 1 == 0) (j + 1 == t.length) (m + 1) q := by
  generalize hj : j + 1 = j1 at h
  induction h with
  | refl i k => exact .inl ⟨hj.symm ▸ rfl, .refl _⟩
  | eps h r ih =>
    rcases ih hj with ⟨h1, h2⟩ | ⟨m, c, h1, h2, h3, h4⟩
    · subst h1
      subst hj
      exact .inl ⟨rfl, .step h h2⟩
    · exact .inr ⟨m, c, h1, Goes.eps h h2, h3, h4⟩
  | @eat n i k j2 q c hc h r ih =>
    rcases ih hj with ⟨h1, h2⟩ | ⟨m, c2, h1, h2, h3, h4⟩
    · obtain rfl : i = j := by omega
      exact .inr ⟨k, c, hc, Goes.refl _ _ _ _, h, h2⟩
    · exact .inr ⟨m, c2, h1, Goes.eat hc h h2, h3, h4⟩
theorem EpsPath.goes {P : List Inst} {t : List UInt8} {j k q : Nat} (h : EpsPath P (j == 0) (j == t.length) k q) : Goes P t j k j q := by
  induction h with
  | refl => exact Goes.refl _ _ _ _
  | step h _ ih => exact Goes.eps h ih
theorem Path.stays {P : List Inst} {t : List UInt8} {n i k j q : Nat} (h : Path P t n i k j q) (hij : j ≤ i) : i = j ∧ EpsPath P (j == 0) (j == t.length) k q := by
  induction h with
  | refl => exact ⟨rfl, .refl _⟩
  | eps h r ih =>
    obtain ⟨rfl, h2⟩ := ih hij
    exact ⟨rfl, .step h h2⟩
  | eat _ _ r _ => have := r.le; omega

/-- behind a byte -/
structure Taken (P : List Inst) (c : UInt8) (l : Bool) (A : List Bool) (n : Nat) (A' : List Bool) (d' : Bool) : Prop where
  len : A'.length = A.length
  said : ∀ k, In A' k ↔ ∃ m, m < n ∧ In A m ∧ Eats P c m ∧ EpsPath P false l (m + 1) k
  shut : Closed P false l A'
  isDone : DoneOf P A' d'

theorem not_in_false {n k : Nat} : ¬ In (List.replicate n false) k := by
  unfold In
  rw [List.getElem?_replicate]
  split
  · intro h; cases h
  · intro h; cases h
theorem done_none (P : List Inst) (n : Nat) : DoneOf P (List.replicate n false) false :=
  Iff.intro (fun h => Bool.noConfusion h) (fun ⟨_, h, _⟩ => absurd h not_in_false)
theorem closed_none (P : List Inst) (f l : Bool) (n : Nat) : Closed P f l (List.replicate n false) := fun _ h => absurd h not_in_false
theorem Taken.start (P : List Inst) (c : UInt8) (l : Bool) (A : List Bool) : Taken P c l A 0 (List.replicate A.length false) false :=
  ⟨by simp, fun k => ⟨fun h => absurd h not_in_false, fun ⟨_, h, _⟩ => by omega⟩, closed_none _ _ _ _, done_none _ _⟩
theorem Taken.not {P : List Inst} {c : UInt8} {l : Bool} {A : List Bool} {n : Nat} {A' : List Bool} {d' : Bool} (h : Taken P c l A n A' d') (hn : ¬ (In A n ∧ Eats P c n)) : Taken P c l A (n + 1) A' d' := by
  refine ⟨h.len, fun k => ?_, h.shut, h.isDone⟩
  rw [h.said]
  constructor
  · rintro ⟨m, h1, h2⟩; exact ⟨m, by omega, h2⟩
  · rintro ⟨m, h1, h2, h3, h4⟩
    refine ⟨m, ?_, h2, h3, h4⟩
    rcases Nat.lt_or_ge m n with h5 | h5
    · exact h5
    · obtain rfl : m = n := by omega
      exact absurd ⟨h2, h3⟩ hn
theorem Taken.yes {P : List Inst} {c : UInt8} {l : Bool} {A : List Bool} {n : Nat} {A' A2 : List Bool} {d' d2 : Bool} (h : Taken P c l A n A' d') (h1 : In A n) (h2 : Eats P c n) (he : Entered P false l A' (n + 1) A2 d2) : Taken P c l A (n + 1) A2 d2 := by
  refine ⟨by rw [he.len, h.len], fun k => ?_, he.shut, he.isDone⟩
  rw [he.said, h.said]
  constructor
  · rintro (⟨m, h3, h4⟩ | h3)
    · exact ⟨m, by omega, h4⟩
    · exact ⟨n, by omega, h1, h2, h3⟩
  · rintro ⟨m, h3, h4, h5, h6⟩
    rcases Nat.lt_or_ge m n with h7 | h7
    · exact .inl ⟨m, h7, h4, h5, h6⟩
    · obtain rfl : m = n := by omega
      exact .inr h6

/-- the first place -/
theorem marks_first {P : List Inst} {t : List UInt8} {a : Nat → Prop} {A : List Bool} {d : Bool} {n : Nat} (ha : a 0) (h : Entered P true (t.length == 0) (List.replicate n false) 0 A d) : MarksAt P t a 0 A := by
  intro k
  rw [h.said]
  constructor
  · rintro (h | h)
    · exact absurd h not_in_false
    · refine ⟨0, ha, Nat.le_refl _, EpsPath.goes ?_⟩
      rw [show (0 == t.length) = (t.length == 0) by rw [Bool.eq_iff_iff, beq_iff_eq, beq_iff_eq]; omega]
      exact h
  · rintro ⟨i, _, hi, m, hp⟩
    right
    obtain ⟨rfl, h2⟩ := hp.stays (by omega)
    rw [show (0 == t.length) = (t.length == 0) by rw [Bool.eq_iff_iff, beq_iff_eq, beq_iff_eq]; omega] at h2
    exact h2

/-- the next place, where it may not begin -/
theorem marks_next {P : List Inst} {t : List UInt8} {a : Nat → Prop} {A A' : List Bool} {d : Bool} {n j : Nat} {c : UInt8} (ha : ¬ a (j + 1)) (hA : MarksAt P t a j A) (hn : A.length ≤ n) (hc : t[j]? = some c)
    (h : Taken P c (j + 1 == t.length) A n A' d) : MarksAt P t a (j + 1) A' := by
  intro k
  rw [h.said]
  constructor
  · rintro ⟨m, _, h1, h2, h3⟩
    obtain ⟨i, hi, hij, hg⟩ := (hA m).1 h1
    exact ⟨i, hi, by omega, hg.trans (Goes.eat hc h2 (EpsPath.goes h3))⟩
  · rintro ⟨i, hi, hij, x, hp⟩
    rcases hp.last with ⟨rfl, _⟩ | ⟨m, c2, h1, h2, h3, h4⟩
    · exact absurd hi ha
    · rw [hc] at h1
      injection h1 with h1
      subst h1
      have hm : In A m := (hA m).2 ⟨i, hi, by obtain ⟨_, h2⟩ := h2; exact h2.le, h2⟩
      exact ⟨m, by have := in_lt hm; omega, hm, h3, h4⟩
/-- the next place, where it may begin -/
theorem marks_more {P : List Inst} {t : List UInt8} {a : Nat → Prop} {A A' A2 : List Bool} {d d2 : Bool} {n j : Nat} {c : UInt8} (ha : a (j + 1)) (hA : MarksAt P t a j A) (hn : A.length ≤ n) (hc : t[j]? = some c)
    (h : Taken P c (j + 1 == t.length) A n A' d) (he : Entered P false (j + 1 == t.length) A' 0 A2 d2) : MarksAt P t a (j + 1) A2 := by
  intro k
  rw [he.said, h.said]
  constructor
  · rintro (⟨m, _, h1, h2, h3⟩ | h1)
    · obtain ⟨i, hi, hij, hg⟩ := (hA m).1 h1
      exact ⟨i, hi, by omega, hg.trans (Goes.eat hc h2 (EpsPath.goes h3))⟩
    · exact ⟨j + 1, ha, Nat.le_refl _, EpsPath.goes h1⟩
  · rintro ⟨i, hi, hij, x, hp⟩
    rcases hp.last with ⟨rfl, h1⟩ | ⟨m, c2, h1, h2, h3, h4⟩
    · exact .inr h1
    · left
      rw [hc] at h1
      injection h1 with h1
      subst h1
      have hm : In A m := (hA m).2 ⟨i, hi, by obtain ⟨_, h2⟩ := h2; exact h2.le, h2⟩
      exact ⟨m, by have := in_lt hm; omega, hm, h3, h4⟩
end Go.Proofs.Ythhgfahlamdgfaa
