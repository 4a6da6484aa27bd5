/- the plain law of the parser: what a pattern is by itself it is in parentheses, too -/
import Derived.Test.YthhgfahlamdgfaaPiece
namespace Go.Proofs.Ythhgfahlamdgfaa

/-- the same, with a closing parenthesis behind it, and deeper -/
def St.lift (s : List UInt8) (d : Nat) (st : St) : St := ⟨st.rest ++ 41 :: s, st.deep + d, st.e⟩

/-! ### an error stays -/
theorem fails_stays {st : St} (k : Nat) (h : st.e ≠ 0) : st.fails k = st := by unfold St.fails; rw [if_neg h]
theorem ends_of_e {st : St} (h : st.e ≠ 0) : st.ends = true := by unfold St.ends; simp [h]
theorem is_of_e {st : St} (c : UInt8) (h : st.e ≠ 0) : st.is c = false := by unfold St.is; rw [ends_of_e h]; rfl
theorem next_of_e {st : St} (h : st.e ≠ 0) : st.next = (0, st) := by unfold St.next; rw [if_pos (ends_of_e h), fails_stays 3 h]
theorem member_of_e {st : St} (h : st.e ≠ 0) : st.member = (0, st) := by unfold St.member; rw [next_of_e h]; rfl
theorem skip_e (st : St) : st.skip.e = st.e := rfl
theorem fails_e {st : St} {k : Nat} (hk : k ≠ 0) (h : (st.fails k).e = 0) : False := by
  unfold St.fails at h; split at h
  · exact hk h
  · rename_i h1; exact h1 h
theorem next_e {st : St} (h : st.next.2.e = 0) : st.e = 0 ∧ ∃ c r, st.rest = c :: r ∧ st.next = (c, st.skip) := by
  by_cases he : st.ends = true
  · unfold St.next at h; rw [if_pos he] at h; exact (fails_e (by omega) h).elim
  · have h0 : st.e = 0 := Decidable.byContradiction fun h0 => he (ends_of_e h0)
    cases hr : st.rest with
    | nil => exact (he (by unfold St.ends; rw [hr]; simp)).elim
    | cons c r => exact ⟨h0, c, r, rfl, by unfold St.next; rw [if_neg he, hr]; rfl⟩
theorem closes_of_e {st : St} (h : st.e ≠ 0) : (closes st).e = st.e := by
  unfold closes
  rw [next_of_e h]
  show (if (0 : UInt8) = 41 then st else st.fails 3).e = st.e
  rw [if_neg (by decide), fails_stays 3 h]
theorem often_of_e {st : St} (a : List Inst) (h : st.e ≠ 0) : often a st = (a, st) := by
  unfold often; simp [is_of_e _ h]
theorem often_e (a : List Inst) (st : St) : (often a st).2.e = st.e := by
  unfold often; split
  · rfl
  · split
    · rfl
    · split <;> rfl
theorem member_e {st : St} (h : st.member.2.e = 0) : st.e = 0 := by
  unfold St.member at h; split at h
  · exact (next_e (next_e h).1).1
  · exact (next_e h).1
theorem order_e {st : St} {a b : UInt8} (h : (st.order a b).e = 0) : st.order a b = st ∧ st.e = 0 := by
  unfold St.order at h ⊢; split at h
  · exact (fails_e (by omega) h).elim
  · rename_i hc; rw [if_neg hc]; exact ⟨rfl, h⟩
theorem second_e {st : St} {a : UInt8} (h : (st.second a).2.e = 0) : st.e = 0 := by
  unfold St.second at h; split at h
  · exact (show st.skip.e = 0 from member_e h)
  · exact h
theorem classLoop_e : ∀ {f : Nat} {st : St} {m : Nat} {r : Nat × St}, classLoop f st m = some r → r.2.e = 0 → st.e = 0
  | 0, _, _, _, h, _ => by cases h
  | f + 1, st, m, r, h, h0 => by
    unfold classLoop at h
    split at h
    · injection h with h; rw [← h] at h0; exact h0
    · exact member_e (second_e (order_e (classLoop_e h h0)).2)
theorem classStart_e {st : St} (h : (classStart st).e = 0) : st.e = 0 := by
  unfold classStart at h
  have key : ∀ s : St, (if s.is 93 = true then s.fails 3 else s).e = 0 → s.e = 0 := by
    intro s hs; split at hs
    · exact (fails_e (by omega) hs).elim
    · exact hs
  have := key _ h
  split at this
  · exact this
  · exact this
theorem classOf_e {f : Nat} {st : St} {r : Inst × St} (h : classOf f st = some r) (h0 : r.2.e = 0) : st.e = 0 := by
  unfold classOf at h
  obtain ⟨q, hq, hr⟩ := Option.bind_eq_some_iff.1 h
  injection hr with hr
  rw [← hr] at h0
  exact classStart_e (classLoop_e hq (next_e h0).1)
theorem simpleAtom_e {c : UInt8} {st : St} (h : (simpleAtom c st).2.e = 0) : st.e = 0 := by
  unfold simpleAtom at h
  repeat' split at h
  all_goals first | exact h | exact (next_e h).1 | exact (fails_e (by omega) h).elim
theorem closes_e {st : St} (h : (closes st).e = 0) : st.e = 0 ∧ ∃ r, st.rest = 41 :: r ∧ closes st = ⟨r, st.deep - 1, 0⟩ := by
  have h1 : (if st.next.1 = 41 then st.next.2 else st.next.2.fails 3).e = 0 := h
  split at h1
  · rename_i hc
    obtain ⟨h0, c, r, hr, hn⟩ := next_e h1
    rw [hn] at hc
    have hc' : c = 41 := hc
    subst hc'
    refine ⟨h0, r, hr, ?_⟩
    unfold closes
    rw [hn]
    simp only [if_true]
    unfold St.skip
    rw [hr, h0]
    rfl
  · exact (fails_e (by omega) h1).elim
theorem parse_e : ∀ {f t : Nat} {out : List Inst} {st : St} {r : List Inst × St}, parse f t out st = some r → r.2.e = 0 → st.e = 0
  | 0, _, _, _, _, h, _ => by simp [parse] at h
  | f + 1, 0, out, st, r, h, h0 => by
    rw [parse] at h
    obtain ⟨q, hq, hr⟩ := Option.bind_eq_some_iff.1 h
    split at hr
    · obtain ⟨q2, hq2, hr2⟩ := Option.bind_eq_some_iff.1 hr
      injection hr2 with hr2
      rw [← hr2] at h0
      exact parse_e hq (show q.2.skip.e = 0 from parse_e hq2 h0)
    · injection hr with hr; subst hr; exact parse_e hq h0
  | f + 1, 1, out, st, r, h, h0 => by
    rw [parse] at h
    split at h
    · injection h with h; rw [← h] at h0; exact h0
    · obtain ⟨q, hq, hr⟩ := Option.bind_eq_some_iff.1 h
      exact parse_e hq (parse_e hr h0)
  | f + 1, 2, out, st, r, h, h0 => by
    rw [parse] at h
    obtain ⟨q, hq, hr⟩ := Option.bind_eq_some_iff.1 h
    injection hr with hr
    rw [← hr, often_e] at h0
    exact parse_e hq h0
  | f + 1, 3, out, st, r, h, h0 => by
    rw [parse] at h
    split at h
    · exact (next_e (parse_e h h0)).1
    · split at h
      · obtain ⟨q, hq, hr⟩ := Option.bind_eq_some_iff.1 h
        injection hr with hr
        rw [← hr] at h0
        exact (next_e (classOf_e hq h0)).1
      · injection h with h
        rw [← h] at h0
        exact (next_e (simpleAtom_e h0)).1
  | f + 1, 4, out, st, r, h, h0 => by
    rw [parse] at h
    split at h
    · injection h with h; rw [← h] at h0; exact (fails_e (by omega) h0).elim
    · obtain ⟨q, hq, hr⟩ := Option.bind_eq_some_iff.1 h
      injection hr with hr
      rw [← hr] at h0
      exact (show ({ st with deep := st.deep + 1 } : St).e = 0 from parse_e hq (closes_e h0).1)
  | f + 1, t + 5, out, st, r, h, _ => by simp [parse] at h

/-! ### with more behind it -/
theorem lift_ends (s : List UInt8) (d : Nat) {st : St} (h : st.e = 0) : (st.lift s d).ends = false := by
  unfold St.ends St.lift; simp [h]
theorem lift_is (s : List UInt8) (d : Nat) {st : St} {c : UInt8} (hc : c ≠ 41) : (st.lift s d).is c = st.is c := by
  by_cases h0 : st.e = 0
  · unfold St.is
    rw [lift_ends s d h0]
    cases hr : st.rest with
    | nil =>
      have : st.ends = true := by unfold St.ends; rw [hr]; simp
      rw [this]
      simp [St.lift, hr, Ne.symm hc]
    | cons a r =>
      have : st.ends = false := by unfold St.ends; rw [hr, h0]; rfl
      rw [this]
      simp [St.lift, hr]
  · rw [is_of_e c h0, is_of_e c (by exact h0)]
theorem lift_skip (s : List UInt8) (d : Nat) {st : St} (h : st.rest ≠ []) : (st.lift s d).skip = st.skip.lift s d := by
  cases hr : st.rest with
  | nil => exact (h hr).elim
  | cons a r => simp [St.lift, St.skip, hr]
theorem lift_next (s : List UInt8) (d : Nat) {st : St} (h : st.next.2.e = 0) : (st.lift s d).next = (st.next.1, st.next.2.lift s d) := by
  obtain ⟨h0, c, r, hr, hn⟩ := next_e h
  rw [hn]
  unfold St.next
  rw [lift_ends s d h0]
  simp [St.lift, St.skip, hr]
theorem is_at {st : St} {c : UInt8} (h : st.is c = true) : st.e = 0 ∧ ∃ r, st.rest = c :: r := by
  unfold St.is at h
  rw [Bool.and_eq_true] at h
  obtain ⟨h1, h2⟩ := h
  have h0 : st.e = 0 := Decidable.byContradiction fun h0 => by rw [ends_of_e h0] at h1; cases h1
  refine ⟨h0, ?_⟩
  cases hr : st.rest with
  | nil => rw [hr] at h2; cases h2
  | cons a r =>
    rw [hr] at h2
    have : a = c := by simpa using h2
    exact ⟨r, by rw [this]⟩
theorem lift_member (s : List UInt8) (d : Nat) {st : St} (h : st.member.2.e = 0) : (st.lift s d).member = (st.member.1, st.member.2.lift s d) := by
  unfold St.member at h ⊢
  split at h
  · rename_i hc
    rw [if_pos hc]
    have h1 := (next_e h).1
    rw [lift_next s d h1]
    rw [if_pos hc]
    exact lift_next s d h
  · rename_i hc
    rw [if_neg hc]
    rw [lift_next s d h]
    rw [if_neg hc]

theorem next_mem {st : St} {c : UInt8} (h : c ∈ st.next.2.rest) : c ∈ st.rest := by
  unfold St.next at h; split at h
  · have : (st.fails 3).rest = st.rest := by unfold St.fails; split <;> rfl
    rwa [this] at h
  · exact List.mem_of_mem_tail h
theorem member_mem {st : St} {c : UInt8} (h : c ∈ st.member.2.rest) : c ∈ st.rest := by
  unfold St.member at h; split at h
  · exact next_mem (next_mem h)
  · exact next_mem h
theorem second_mem {st : St} {a c : UInt8} (h : c ∈ (st.second a).2.rest) : c ∈ st.rest := by
  unfold St.second at h; split at h
  · exact List.mem_of_mem_tail (member_mem (st := st.skip) h)
  · exact h
theorem order_mem {st : St} {a b c : UInt8} (h : c ∈ (st.order a b).rest) : c ∈ st.rest := by
  unfold St.order at h; split at h
  · have : (st.fails 3).rest = st.rest := by unfold St.fails; split <;> rfl
    rwa [this] at h
  · exact h
theorem classLoop_mem : ∀ {f : Nat} {st : St} {m : Nat} {r : Nat × St}, classLoop f st m = some r → r.2.is 93 = true → (93 : UInt8) ∈ st.rest
  | 0, _, _, _, h, _ => by cases h
  | f + 1, st, m, r, h, h0 => by
    unfold classLoop at h
    split at h
    · injection h with h
      rw [← h] at h0
      obtain ⟨_, t, ht⟩ := is_at h0
      rw [ht]; simp
    · exact member_mem (second_mem (order_mem (classLoop_mem h h0)))
theorem classLoop_exit : ∀ {f : Nat} {st : St} {m : Nat} {r : Nat × St}, classLoop f st m = some r → (r.2.ends || r.2.is 93) = true
  | 0, _, _, _, h => by cases h
  | f + 1, st, m, r, h => by
    unfold classLoop at h
    split at h
    · rename_i hc; injection h with h; rw [← h]; exact hc
    · exact classLoop_exit h

theorem lift_ranges (s : List UInt8) (d : Nat) {st : St} (h : st.rest ≠ [45]) : (st.lift s d).ranges = st.ranges := by
  unfold St.ranges
  rw [lift_is s d (by decide)]
  cases hi : st.is 45 with
  | false => rfl
  | true =>
    obtain ⟨_, r, hr⟩ := is_at hi
    cases r with
    | nil => exact (h hr).elim
    | cons c r => simp [St.lift, hr]
theorem lift_second (s : List UInt8) (d : Nat) {st : St} {a : UInt8} (h : (st.second a).2.e = 0) (hm : (93 : UInt8) ∈ (st.second a).2.rest) :
    (st.lift s d).second a = ((st.second a).1, (st.second a).2.lift s d) := by
  have hne : st.rest ≠ [45] := by
    intro hr
    have := second_mem hm
    rw [hr] at this
    simp at this
  unfold St.second at h ⊢
  rw [lift_ranges s d hne]
  split at h
  · rename_i hc
    rw [if_pos hc]
    have hr : st.rest ≠ [] := by
      have hc' := hc
      unfold St.ranges at hc'
      rw [Bool.and_eq_true] at hc'
      obtain ⟨_, r, hr⟩ := is_at hc'.1
      rw [hr]; simp
    rw [lift_skip s d hr, if_pos hc]
    exact lift_member s d h
  · rename_i hc
    rw [if_neg hc, if_neg hc]
theorem lift_order (s : List UInt8) (d : Nat) {st : St} {a b : UInt8} (h : (st.order a b).e = 0) : (st.lift s d).order a b = st.lift s d := by
  unfold St.order at h ⊢; split at h
  · exact (fails_e (by omega) h).elim
  · rename_i hc; rw [if_neg hc]

theorem lift_classLoop (s : List UInt8) (d : Nat) : ∀ {f : Nat} {st : St} {m : Nat} {r : Nat × St}, classLoop f st m = some r → r.2.is 93 = true → classLoop f (st.lift s d) m = some (r.1, r.2.lift s d)
  | 0, _, _, _, h, _ => by cases h
  | f + 1, st, m, r, h, h0 => by
    have he := classLoop_e h (is_at h0).1
    unfold classLoop at h ⊢
    rw [lift_ends s d he, lift_is s d (by decide), Bool.false_or]
    split at h
    · injection h with h
      rw [← h] at h0 ⊢
      rw [if_pos h0]
    · rename_i hc
      have hc' : ¬ st.is 93 = true := fun h1 => hc (by rw [h1]; simp)
      rw [if_neg hc']
      have h1 := order_e (classLoop_e h (is_at h0).1)
      have h2 := second_e h1.2
      have h3 := order_mem (classLoop_mem h h0)
      rw [lift_member s d h2, lift_second s d h1.2 h3]
      show classLoop f (((st.member.2.second st.member.1).2.lift s d).order st.member.1 (st.member.2.second st.member.1).1) _ = _
      rw [lift_order s d (by rw [h1.1]; exact h1.2)]
      rw [h1.1] at h
      exact lift_classLoop s d h h0

theorem lift_classOf (s : List UInt8) (d : Nat) {f : Nat} {st : St} {r : Inst × St} (h : classOf f st = some r) (h0 : r.2.e = 0) : classOf f (st.lift s d) = some (r.1, r.2.lift s d) := by
  unfold classOf at h ⊢
  obtain ⟨q, hq, hr⟩ := Option.bind_eq_some_iff.1 h
  injection hr with hr
  rw [← hr] at h0 ⊢
  have h1 := next_e h0
  obtain ⟨g0, c, t, ht, _⟩ := h1
  have h2 := classLoop_exit hq
  have h3 : q.2.ends = false := by unfold St.ends; rw [ht, g0]; rfl
  rw [h3, Bool.false_or] at h2
  have h4 := classLoop_e hq g0
  have h5 : classStart (st.lift s d) = (classStart st).lift s d := by
    unfold classStart at h4 ⊢
    rw [lift_is s d (by decide)]
    have key : ∀ x : St, (if x.is 93 = true then x.fails 3 else x).e = 0 → (if (x.lift s d).is 93 = true then (x.lift s d).fails 3 else x.lift s d) = (if x.is 93 = true then x.fails 3 else x).lift s d := by
      intro x hx
      rw [lift_is s d (by decide)]
      split at hx
      · exact (fails_e (by omega) hx).elim
      · rename_i hc; rw [if_neg hc, if_neg hc]
    by_cases hc : st.is 94 = true
    · rw [if_pos hc] at h4 ⊢
      obtain ⟨_, t, ht⟩ := is_at hc
      rw [lift_skip s d (by rw [ht]; simp)]
      rw [if_pos hc]
      exact key _ h4
    · rw [if_neg hc] at h4 ⊢
      rw [if_neg hc]
      exact key _ h4
  rw [h5, lift_classLoop s d hq h2, Option.bind_some, lift_is s d (by decide), lift_next s d h0]

theorem lift_simple (s : List UInt8) (d : Nat) {c : UInt8} {st : St} (h : (simpleAtom c st).2.e = 0) : simpleAtom c (st.lift s d) = ((simpleAtom c st).1, (simpleAtom c st).2.lift s d) := by
  unfold simpleAtom at h ⊢
  split at h
  · rename_i hc; simp only [if_pos hc]
  rename_i hc1; simp only [if_neg hc1]
  split at h
  · rename_i hc; simp only [if_pos hc]
  rename_i hc2; simp only [if_neg hc2]
  split at h
  · rename_i hc; simp only [if_pos hc]
  rename_i hc3; simp only [if_neg hc3]
  split at h
  · rename_i hc; simp only [if_pos hc]; rw [lift_next s d h]
  rename_i hc4; simp only [if_neg hc4]
  split at h
  · exact (fails_e (by omega) h).elim
  · rename_i hc; simp only [if_neg hc]

theorem lift_often (s : List UInt8) (d : Nat) (a : List Inst) (st : St) : often a (st.lift s d) = ((often a st).1, (often a st).2.lift s d) := by
  have sk : ∀ c, st.is c = true → (st.lift s d).skip = st.skip.lift s d := by
    intro c hc
    obtain ⟨_, t, ht⟩ := is_at hc
    exact lift_skip s d (by rw [ht]; simp)
  unfold often
  rw [lift_is s d (by decide), lift_is s d (by decide), lift_is s d (by decide)]
  by_cases h1 : st.is 42 = true
  · simp only [if_pos h1]; rw [sk _ h1]
  simp only [if_neg h1]
  by_cases h2 : st.is 43 = true
  · simp only [if_pos h2]; rw [sk _ h2]
  simp only [if_neg h2]
  by_cases h3 : st.is 63 = true
  · simp only [if_pos h3]; rw [sk _ h3]
  simp only [if_neg h3]

theorem lift_closes (s : List UInt8) (d : Nat) {st : St} (hd : 1 ≤ st.deep) (h : (closes st).e = 0) : closes (st.lift s d) = (closes st).lift s d := by
  obtain ⟨h0, r, hr, hc⟩ := closes_e h
  rw [hc]
  unfold closes
  have hn : (st.lift s d).next = (41, ⟨r ++ 41 :: s, st.deep + d, 0⟩) := by
    unfold St.next
    rw [lift_ends s d h0]
    simp [St.lift, St.skip, hr, h0]
  rw [hn]
  simp [St.lift]
  omega

/-- a pattern by itself, and with a closing parenthesis behind it, and deeper: the same, or it is too deep, whatever comes behind it -/
theorem parse_local (d : Nat) : ∀ {f t : Nat} {out : List Inst} {st : St} {r : List Inst × St}, parse f t out st = some r → r.2.e = 0 →
    (∀ s, parse f t out (st.lift s d) = some (r.1, r.2.lift s d)) ∨ (∀ s, ∃ r2, parse f t out (st.lift s d) = some r2 ∧ r2.2.e = 4)
  | 0, _, _, _, _, h, _ => by simp [parse] at h
  | f + 1, 0, out, st, r, h, h0 => by
    rw [parse] at h
    obtain ⟨q, hq, hr⟩ := Option.bind_eq_some_iff.1 h
    split at hr
    · rename_i hc
      obtain ⟨q2, hq2, hr2⟩ := Option.bind_eq_some_iff.1 hr
      injection hr2 with hr2
      rw [← hr2] at h0
      have g1 := is_at hc
      have hsk : ∀ s, (q.2.lift s d).skip = q.2.skip.lift s d := by
        obtain ⟨_, t, ht⟩ := g1
        intro s; exact lift_skip s d (by rw [ht]; simp)
      rcases parse_local d hq g1.1 with hl | hl
      · rcases parse_local d hq2 h0 with hm | hm
        · left; intro s
          rw [parse, hl s, Option.bind_some]
          simp only [lift_is s d (show (124 : UInt8) ≠ 41 by decide), if_pos hc, hsk, hm s, Option.bind_some]
          rw [← hr2]
        · right; intro s
          obtain ⟨r2, h2, h3⟩ := hm s
          rw [parse, hl s, Option.bind_some]
          simp only [lift_is s d (show (124 : UInt8) ≠ 41 by decide), if_pos hc, hsk, h2, Option.bind_some]
          exact ⟨_, rfl, h3⟩
      · right; intro s
        obtain ⟨r2, h2, h3⟩ := hl s
        rw [parse, h2, Option.bind_some, is_of_e _ (by omega)]
        exact ⟨_, rfl, h3⟩
    · rename_i hc
      injection hr with hr
      subst hr
      rcases parse_local d hq h0 with hl | hl
      · left; intro s
        rw [parse, hl s, Option.bind_some]
        simp only [lift_is s d (show (124 : UInt8) ≠ 41 by decide), if_neg hc]
      · right; intro s
        obtain ⟨r2, h2, h3⟩ := hl s
        rw [parse, h2, Option.bind_some, is_of_e _ (by omega)]
        exact ⟨_, rfl, h3⟩
  | f + 1, 1, out, st, r, h, h0 => by
    have he := parse_e h h0
    rw [parse] at h
    split at h
    · rename_i hc
      injection h with h
      subst h
      left; intro s
      rw [parse, lift_ends s d he, lift_is s d (by decide), if_pos]
      by_cases h1 : st.is 124 = true
      · rw [h1]; rfl
      · by_cases h2 : st.is 41 = true
        · obtain ⟨_, t, ht⟩ := is_at h2
          have : (st.lift s d).is 41 = true := by unfold St.is; rw [lift_ends s d he]; simp [St.lift, ht]
          rw [this]; simp
        · have h3 : st.ends = true := by
            cases h4 : st.ends with
            | true => rfl
            | false => rw [h4] at hc; simp [h1, h2] at hc
          have h5 : st.rest = [] := by
            unfold St.ends at h3; rw [he] at h3; simpa using h3
          have : (st.lift s d).is 41 = true := by unfold St.is; rw [lift_ends s d he]; simp [St.lift, h5]
          rw [this]; simp
    · rename_i hc
      obtain ⟨q, hq, hr⟩ := Option.bind_eq_some_iff.1 h
      have g1 := parse_e hr h0
      have hn : ∀ s, ¬ ((st.lift s d).ends || (st.lift s d).is 124 || (st.lift s d).is 41) = true := by
        intro s
        rw [lift_ends s d he, lift_is s d (by decide)]
        have h4 : st.ends = false := by
          cases h4 : st.ends with
          | false => rfl
          | true => rw [h4] at hc; simp at hc
        rw [h4] at hc
        have h6 : st.is 124 = false := by
          cases h6 : st.is 124 with
          | false => rfl
          | true => rw [h6] at hc; simp at hc
        have h7 : (st.lift s d).is 41 = st.is 41 := by
          have hne : st.rest ≠ [] := by
            intro h5; unfold St.ends at h4; rw [h5] at h4; simp at h4
          unfold St.is
          rw [lift_ends s d he, h4]
          cases hrr : st.rest with
          | nil => exact (hne hrr).elim
          | cons a t => simp [St.lift, hrr]
        rw [h7, h6]
        rw [h6] at hc
        simpa using hc
      rcases parse_local d hq g1 with hl | hl
      · rcases parse_local d hr h0 with hm | hm
        · left; intro s
          rw [parse, if_neg (hn s), hl s, Option.bind_some]
          exact hm s
        · right; intro s
          obtain ⟨r2, h2, h3⟩ := hm s
          rw [parse, if_neg (hn s), hl s, Option.bind_some]
          exact ⟨r2, h2, h3⟩
      · right; intro s
        obtain ⟨r2, h2, h3⟩ := hl s
        rw [parse, if_neg (hn s), h2, Option.bind_some]
        cases f with
        | zero => simp [parse] at hr
        | succ f =>
          rw [parse, ends_of_e (by omega)]
          exact ⟨_, rfl, h3⟩
  | f + 1, 2, out, st, r, h, h0 => by
    rw [parse] at h
    obtain ⟨q, hq, hr⟩ := Option.bind_eq_some_iff.1 h
    injection hr with hr
    subst hr
    rw [often_e] at h0
    rcases parse_local d hq h0 with hl | hl
    · left; intro s
      rw [parse, hl s, Option.bind_some, lift_often]
    · right; intro s
      obtain ⟨r2, h2, h3⟩ := hl s
      rw [parse, h2, Option.bind_some]
      exact ⟨_, rfl, by rw [often_e]; exact h3⟩
  | f + 1, 3, out, st, r, h, h0 => by
    rw [parse] at h
    split at h
    · rename_i hc
      have g1 := parse_e h h0
      rcases parse_local d h h0 with hl | hl
      · left; intro s
        rw [parse, lift_next s d g1]
        simp only
        rw [if_pos ⟨hc.1, hc.2⟩]
        exact hl s
      · right; intro s
        obtain ⟨r2, h2, h3⟩ := hl s
        rw [parse, lift_next s d g1]
        simp only
        rw [if_pos ⟨hc.1, hc.2⟩]
        exact ⟨r2, h2, h3⟩
    · rename_i hc
      split at h
      · rename_i hd
        obtain ⟨q, hq, hr⟩ := Option.bind_eq_some_iff.1 h
        injection hr with hr
        subst hr
        have g1 := classOf_e hq h0
        left; intro s
        rw [parse, lift_next s d g1]
        simp only
        rw [if_neg (fun h1 => hc ⟨h1.1, g1⟩), if_pos hd, lift_classOf s d hq h0, Option.bind_some]
      · rename_i hd
        injection h with h
        subst h
        have g1 := simpleAtom_e h0
        left; intro s
        rw [parse, lift_next s d g1]
        simp only
        rw [if_neg (fun h1 => hc ⟨h1.1, g1⟩), if_neg hd, lift_simple s d h0]
  | f + 1, 4, out, st, r, h, h0 => by
    have he := parse_e h h0
    rw [parse] at h
    split at h
    · injection h with h; rw [← h] at h0; exact (fails_e (by omega) h0).elim
    · rename_i hc
      obtain ⟨q, hq, hr⟩ := Option.bind_eq_some_iff.1 h
      injection hr with hr
      subst hr
      by_cases hd : st.deep + d = 20
      · right; intro s
        rw [parse, if_pos (show (st.lift s d).deep = 20 from hd)]
        refine ⟨_, rfl, ?_⟩
        show ((st.lift s d).fails 4).e = 4
        unfold St.fails
        rw [if_pos (show (st.lift s d).e = 0 from he)]
      · have g1 := closes_e h0
        have hdeep : 1 ≤ q.2.deep := by
          have := parse_deep hq
          simp at this
          omega
        have hst : ∀ s, ({ (st.lift s d) with deep := (st.lift s d).deep + 1 } : St) = St.lift s d { st with deep := st.deep + 1 } := by
          intro s; simp [St.lift]; omega
        rcases parse_local d hq g1.1 with hl | hl
        · left; intro s
          rw [parse, if_neg (show ¬ (st.lift s d).deep = 20 from hd), hst, hl s, Option.bind_some]
          simp only
          rw [lift_closes s d hdeep h0]
        · right; intro s
          obtain ⟨r2, h2, h3⟩ := hl s
          rw [parse, if_neg (show ¬ (st.lift s d).deep = 20 from hd), hst, h2, Option.bind_some]
          refine ⟨_, rfl, ?_⟩
          rw [closes_of_e (by omega)]; exact h3
  | f + 1, t + 5, out, st, r, h, _ => by simp [parse] at h
end Go.Proofs.Ythhgfahlamdgfaa
