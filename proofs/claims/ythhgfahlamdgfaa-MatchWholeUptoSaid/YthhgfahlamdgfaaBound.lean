/- How long a program is, and where its steps go. Plain; no program in sight. -/
import Derived.Test.YthhgfahlamdgfaaSpec
namespace Go.Proofs.Ythhgfahlamdgfaa

/-- nothing comes back, an error stays -/
structure St.le (a b : St) : Prop where
  len : a.rest.length ≤ b.rest.length
  err : b.e ≠ 0 → a.e ≠ 0
theorem St.le_refl (a : St) : a.le a := ⟨Nat.le_refl _, id⟩
theorem St.le.trans {a b c : St} (h : a.le b) (k : b.le c) : a.le c := ⟨Nat.le_trans h.1 k.1, fun x => h.2 (k.2 x)⟩

def room (st : St) : Nat := 3 * st.rest.length + (if st.e = 0 then 1 else 0)
theorem room_le {a b : St} (h : a.le b) : room a ≤ room b := by
  have h1 := h.1
  have h2 := h.2
  unfold room
  split <;> split <;> first | omega | (rename_i x y; exact absurd x (h2 y))

theorem fails_le (st : St) (k : Nat) (hk : k ≠ 0) : (st.fails k).le st := by
  unfold St.fails
  split
  · exact ⟨Nat.le_refl _, fun _ => hk⟩
  · exact St.le_refl _
theorem skip_le (st : St) : st.skip.le st := ⟨by simp [St.skip], id⟩
theorem next_le (st : St) : st.next.2.le st := by
  unfold St.next
  split
  · exact fails_le _ _ (by decide)
  · exact skip_le _
theorem not_ends {st : St} (h : st.ends = false) : st.e = 0 ∧ ∃ c r, st.rest = c :: r := by
  simp only [St.ends, Bool.or_eq_false_iff, bne_eq_false_iff_eq] at h
  refine ⟨h.1, ?_⟩
  cases hr : st.rest with
  | nil => rw [hr] at h; simp at h
  | cons c r => exact ⟨c, r, rfl⟩
theorem next_lt {st : St} (h : st.ends = false) : st.next.2.rest.length + 1 = st.rest.length ∧ st.next.2.e = 0 := by
  obtain ⟨h0, c, r, hr⟩ := not_ends h
  unfold St.next
  rw [if_neg (by rw [h]; simp)]
  simp [St.skip, hr, h0]
theorem is_some {st : St} {c : UInt8} (h : st.is c = true) : st.e = 0 ∧ ∃ r, st.rest = c :: r := by
  simp only [St.is, Bool.and_eq_true, Bool.not_eq_true'] at h
  obtain ⟨h0, d, r, hr⟩ := not_ends h.1
  refine ⟨h0, r, ?_⟩
  have := h.2
  rw [hr] at this ⊢
  simp at this
  rw [this]
theorem is_room {st : St} {c : UInt8} (h : st.is c = true) : room st.skip + 3 = room st ∧ st.skip.rest.length + 1 = st.rest.length := by
  obtain ⟨h0, r, hr⟩ := is_some h
  simp [room, St.skip, hr, h0]
  omega
theorem member_le (st : St) : st.member.2.le st := by
  unfold St.member
  split
  · exact (next_le _).trans (next_le _)
  · exact next_le _
theorem second_le (st : St) (a : UInt8) : (st.second a).2.le st := by
  unfold St.second
  split
  · exact (member_le _).trans (skip_le _)
  · exact St.le_refl _
theorem order_le (st : St) (a b : UInt8) : (st.order a b).le st := by
  unfold St.order
  split
  · exact fails_le _ _ (by decide)
  · exact St.le_refl _
theorem round_le (st : St) : ((st.member.2.second st.member.1).2.order st.member.1 (st.member.2.second st.member.1).1).le st :=
  (order_le _ _ _).trans ((second_le _ _).trans (member_le _))

theorem addBits_lt : ∀ {m a n : Nat}, m < 2 ^ 256 → a + n ≤ 256 → addBits m a n < 2 ^ 256
  | _, _, 0, h, _ => h
  | m, a, n + 1, h, hn => Nat.or_lt_two_pow (addBits_lt h (by omega)) (Nat.pow_lt_pow_right (by omega) (by omega))

theorem classLoop_le' : ∀ {f : Nat} {st : St} {m : Nat} {r : Nat × St}, classLoop f st m = some r → r.2.le st ∧ (m < 2 ^ 256 → r.1 < 2 ^ 256)
  | 0, _, _, _, h => by cases h
  | f + 1, st, m, r, h => by
    unfold classLoop at h
    split at h
    · cases h; exact ⟨St.le_refl _, id⟩
    · have ih := classLoop_le' h
      refine ⟨ih.1.trans (round_le st), fun hm => ih.2 (addBits_lt hm ?_)⟩
      have h1 := st.member.1.toNat_lt
      have h2 := (st.member.2.second st.member.1).1.toNat_lt
      omega

theorem classStart_le (st : St) : (classStart st).le st := by
  have h : (if st.is 94 = true then st.skip else st).le st := by
    split
    · exact skip_le _
    · exact St.le_refl _
  unfold classStart
  simp only
  generalize (if st.is 94 = true then st.skip else st) = x at h
  split
  · exact (fails_le _ 3 (by decide)).trans h
  · exact h

theorem classOf_le' {f : Nat} {st : St} {r : Inst × St} (h : classOf f st = some r) : r.2.le st ∧ r.1.kind = 1 ∧ r.1.x = 0 ∧ r.1.y = 0 ∧ r.1.set < 2 ^ 256 := by
  unfold classOf at h
  obtain ⟨q, hq, hr⟩ := Option.bind_eq_some_iff.1 h
  cases hr
  obtain ⟨h1, h2⟩ := classLoop_le' hq
  refine ⟨(next_le _).trans (h1.trans (classStart_le _)), rfl, rfl, rfl, ?_⟩
  have h3 := h2 (by decide)
  show (if st.is 94 = true then allBytes - q.1 else q.1) < 2 ^ 256
  split
  · have : 0 < 2 ^ 256 := Nat.two_pow_pos _
    unfold allBytes; omega
  · exact h3

theorem simpleAtom_le (c : UInt8) (st : St) : (simpleAtom c st).2.le st := by
  unfold simpleAtom
  repeat' split
  all_goals first | exact St.le_refl _ | exact next_le _ | exact fails_le _ _ (by decide)

theorem closes_le (st : St) : (closes st).le st := by
  unfold closes
  simp only
  split
  · exact ⟨(next_le st).1, (next_le st).2⟩
  · have h := (fails_le st.next.2 3 (by decide)).trans (next_le st)
    exact ⟨h.1, h.2⟩

theorem moved_length (l : List Inst) (n : Nat) : (moved l n).length = l.length := by simp [moved]
theorem either_length (a b : List Inst) : (either a b).length = a.length + b.length + 2 := by simp [either, moved_length]; omega

theorem often_le (a : List Inst) (st : St) : (often a st).2.le st ∧ (often a st).1.length + room (often a st).2 ≤ a.length + room st := by
  unfold often
  split
  · rename_i h
    have := is_room h
    exact ⟨skip_le _, by simp [moved_length]; omega⟩
  · split
    · rename_i h
      have := is_room h
      exact ⟨skip_le _, by simp; omega⟩
    · split
      · rename_i h
        have := is_room h
        exact ⟨skip_le _, by simp [moved_length]; omega⟩
      · exact ⟨St.le_refl _, Nat.le_refl _⟩

theorem parse_bound : ∀ {f t : Nat} {out : List Inst} {st : St} {a : List Inst} {st' : St}, parse f t out st = some (a, st') → ((t = 2 ∨ t = 3) → st.ends = false) →
    st'.le st ∧ a.length + room st' ≤ room st + (if t = 1 then out.length else 0) ∧ ((t = 2 ∨ t = 3) → st'.rest.length < st.rest.length)
  | 0, _, _, _, _, _, h, _ => by simp [parse] at h
  | f + 1, 0, out, st, a, st', h, _ => by
    rw [parse] at h
    obtain ⟨⟨a1, s1⟩, hq, hr⟩ := Option.bind_eq_some_iff.1 h
    obtain ⟨b1, b2, _⟩ := parse_bound hq (by omega)
    rw [if_pos rfl, List.length_nil] at b2
    simp only at hr
    split at hr
    · rename_i hc
      obtain ⟨⟨a2, s2⟩, hq2, hr2⟩ := Option.bind_eq_some_iff.1 hr
      obtain ⟨c1, c2, _⟩ := parse_bound hq2 (by omega)
      cases hr2
      have hi := is_room hc
      refine ⟨c1.trans ((skip_le _).trans b1), ?_, by omega⟩
      rw [either_length]
      rw [if_neg (by omega)] at c2 ⊢
      simp only at c2 ⊢
      omega
    · cases hr
      exact ⟨b1, by rw [if_neg (by omega)]; omega, by omega⟩
  | f + 1, 1, out, st, a, st', h, _ => by
    rw [parse] at h
    split at h
    · cases h; exact ⟨St.le_refl _, by rw [if_pos rfl]; omega, by omega⟩
    · rename_i hc
      obtain ⟨⟨a1, s1⟩, hq, hr⟩ := Option.bind_eq_some_iff.1 h
      have he : st.ends = false := by
        cases hb : st.ends
        · rfl
        · rw [hb] at hc; simp at hc
      obtain ⟨b1, b2, _⟩ := parse_bound hq (fun _ => he)
      obtain ⟨c1, c2, _⟩ := parse_bound hr (by omega)
      rw [if_neg (by omega)] at b2
      rw [if_pos rfl, List.length_append, moved_length] at c2
      exact ⟨c1.trans b1, by rw [if_pos rfl]; simp only at b2 c2; omega, by omega⟩
  | f + 1, 2, out, st, a, st', h, he => by
    rw [parse] at h
    obtain ⟨⟨a1, s1⟩, hq, hr⟩ := Option.bind_eq_some_iff.1 h
    obtain ⟨b1, b2, b3⟩ := parse_bound hq (fun _ => he (.inl rfl))
    obtain ⟨rfl, rfl⟩ : a = (often a1 s1).1 ∧ st' = (often a1 s1).2 := by rw [Option.some.inj hr]; exact ⟨rfl, rfl⟩
    obtain ⟨c1, c2⟩ := often_le a1 s1
    rw [if_neg (by omega)] at b2 ⊢
    exact ⟨c1.trans b1, by omega, fun _ => Nat.lt_of_le_of_lt c1.1 (b3 (.inr rfl))⟩
  | f + 1, 3, out, st, a, st', h, he => by
    have he := he (.inr rfl)
    obtain ⟨n1, n2⟩ := next_lt he
    obtain ⟨e0, _⟩ := not_ends he
    rw [if_neg (by omega)]
    rw [parse] at h
    have hroom : room st.next.2 + 3 = room st := by simp only [room, n2, e0, if_pos]; omega
    split at h
    · obtain ⟨b1, b2, _⟩ := parse_bound h (by omega)
      rw [if_neg (by omega)] at b2
      exact ⟨b1.trans (next_le _), by omega, fun _ => by have := b1.1; omega⟩
    · split at h
      · obtain ⟨⟨i, s1⟩, hq, hr⟩ := Option.bind_eq_some_iff.1 h
        cases hr
        obtain ⟨b1, _⟩ := classOf_le' hq
        have := room_le b1
        simp only at b1 this ⊢
        exact ⟨b1.trans (next_le _), by simp; omega, fun _ => by have := b1.1; omega⟩
      · cases h
        have b1 := simpleAtom_le st.next.1 st.next.2
        have := room_le b1
        exact ⟨b1.trans (next_le _), by simp; omega, fun _ => by have := b1.1; omega⟩
  | f + 1, 4, out, st, a, st', h, _ => by
    rw [if_neg (by omega)]
    rw [parse] at h
    split at h
    · cases h
      have b1 := fails_le st 4 (by decide)
      exact ⟨b1, by have := room_le b1; simp; exact this, by omega⟩
    · obtain ⟨⟨a1, s1⟩, hq, hr⟩ := Option.bind_eq_some_iff.1 h
      obtain ⟨b1, b2, _⟩ := parse_bound hq (by omega)
      rw [if_neg (by omega)] at b2
      cases hr
      have c1 := closes_le s1
      have := room_le c1
      have e : room { st with deep := st.deep + 1 } = room st := rfl
      rw [e] at b2
      exact ⟨c1.trans ⟨b1.1, b1.2⟩, by simp only at b2 ⊢; omega, by omega⟩
  | f + 1, t + 5, out, st, a, st', h, _ => by simp [parse] at h

/-! ### each step goes to one of the steps, or behind the last -/
def Inside (n : Nat) (i : Inst) : Prop := i.x ≤ n ∧ i.y ≤ n ∧ 1 ≤ i.kind ∧ i.kind ≤ 5 ∧ i.set < 2 ^ 256
def AllInside (a : List Inst) : Prop := ∀ i ∈ a, Inside a.length i

theorem Inside.more {n m : Nat} {i : Inst} (h : Inside n i) (hm : n ≤ m) : Inside m i := ⟨Nat.le_trans h.1 hm, Nat.le_trans h.2.1 hm, h.2.2⟩
theorem Inside.moved {n : Nat} {i : Inst} (k : Nat) (h : Inside n i) : Inside (n + k) (movedI k i) := by
  obtain ⟨h1, h2, h3, h4, h5⟩ := h
  unfold movedI
  split
  · exact ⟨by simp only; omega, by simp only; omega, h3, h4, h5⟩
  · split
    · exact ⟨by simp only; omega, by simp only; omega, h3, h4, h5⟩
    · exact ⟨by omega, by omega, h3, h4, h5⟩
theorem moved_inside {a : List Inst} (h : AllInside a) (k : Nat) : ∀ i ∈ moved a k, Inside (a.length + k) i := by
  intro i hi
  obtain ⟨j, hj, rfl⟩ := List.mem_map.1 hi
  exact (h j hj).moved k

theorem often_inside {a : List Inst} (h : AllInside a) (st : St) : AllInside (often a st).1 := by
  have h2 : (0 : Nat) < 2 ^ 256 := Nat.two_pow_pos _
  unfold often
  split
  · intro i hi
    simp only [List.cons_append, List.mem_cons, List.mem_append, List.not_mem_nil, or_false] at hi
    simp only [List.cons_append, List.length_cons, List.length_append, moved_length, List.length_nil]
    rcases hi with rfl | hi | rfl
    · exact ⟨by simp only; omega, by simp only; omega, by simp only; omega, by simp only; omega, h2⟩
    · exact (moved_inside h 1 i hi).more (by omega)
    · exact ⟨by simp only; omega, by simp only; omega, by simp only; omega, by simp only; omega, h2⟩
  · split
    · intro i hi
      simp only [List.mem_cons, List.mem_append, List.not_mem_nil, or_false] at hi
      simp only [List.length_cons, List.length_append, List.length_nil]
      rcases hi with hi | rfl
      · exact (h i hi).more (by omega)
      · exact ⟨by simp only; omega, by simp only; omega, by simp only; omega, by simp only; omega, h2⟩
    · split
      · intro i hi
        simp only [List.mem_cons] at hi
        simp only [List.length_cons, moved_length]
        rcases hi with rfl | hi
        · exact ⟨by simp only; omega, by simp only; omega, by simp only; omega, by simp only; omega, h2⟩
        · exact (moved_inside h 1 i hi).more (by omega)
      · exact h

theorem either_inside {a b : List Inst} (h : AllInside a) (k : AllInside b) : AllInside (either a b) := by
  have h2 : (0 : Nat) < 2 ^ 256 := Nat.two_pow_pos _
  intro i hi
  rw [either_length]
  simp only [either, List.cons_append, List.mem_cons, List.mem_append, List.append_assoc, List.nil_append] at hi
  rcases hi with rfl | hi | rfl | hi
  · exact ⟨by simp only; omega, by simp only; omega, by simp only; omega, by simp only; omega, h2⟩
  · exact (moved_inside h 1 i hi).more (by omega)
  · exact ⟨by simp only; omega, by simp only; omega, by simp only; omega, by simp only; omega, h2⟩
  · exact (moved_inside k _ i hi).more (by omega)

theorem simpleAtom_inside (c : UInt8) (st : St) : AllInside [(simpleAtom c st).1] := by
  have h2 : (0 : Nat) < 2 ^ 256 := Nat.two_pow_pos _
  have h3 : allBytes < 2 ^ 256 := by unfold allBytes; omega
  have h4 : ∀ d : UInt8, 2 ^ d.toNat < 2 ^ 256 := fun d => Nat.pow_lt_pow_right (by omega) d.toNat_lt
  intro i hi
  simp only [List.mem_cons, List.not_mem_nil, or_false] at hi
  subst hi
  unfold simpleAtom
  repeat' split
  all_goals exact ⟨Nat.zero_le _, Nat.zero_le _, by simp only; omega, by simp only; omega, by simp only; first | exact h2 | exact h3 | exact h4 _⟩

theorem parse_inside : ∀ {f t : Nat} {out : List Inst} {st : St} {a : List Inst} {st' : St}, parse f t out st = some (a, st') → (t = 1 → AllInside out) → AllInside a
  | 0, _, _, _, _, _, h, _ => by simp [parse] at h
  | f + 1, 0, out, st, a, st', h, _ => by
    rw [parse] at h
    obtain ⟨⟨a1, s1⟩, hq, hr⟩ := Option.bind_eq_some_iff.1 h
    have b1 := parse_inside hq (fun _ i hi => by cases hi)
    simp only at hr
    split at hr
    · obtain ⟨⟨a2, s2⟩, hq2, hr2⟩ := Option.bind_eq_some_iff.1 hr
      have c1 := parse_inside hq2 (by omega)
      cases hr2
      exact either_inside b1 c1
    · cases hr; exact b1
  | f + 1, 1, out, st, a, st', h, ho => by
    rw [parse] at h
    split at h
    · cases h; exact ho rfl
    · obtain ⟨⟨a1, s1⟩, hq, hr⟩ := Option.bind_eq_some_iff.1 h
      have b1 := parse_inside hq (by omega)
      refine parse_inside hr (fun _ i hi => ?_)
      rw [List.length_append, moved_length]
      rcases List.mem_append.1 hi with hi | hi
      · exact (ho rfl i hi).more (by omega)
      · exact (moved_inside b1 _ i hi).more (by simp only; omega)
  | f + 1, 2, out, st, a, st', h, _ => by
    rw [parse] at h
    obtain ⟨⟨a1, s1⟩, hq, hr⟩ := Option.bind_eq_some_iff.1 h
    obtain ⟨rfl, rfl⟩ : a = (often a1 s1).1 ∧ st' = (often a1 s1).2 := by rw [Option.some.inj hr]; exact ⟨rfl, rfl⟩
    exact often_inside (parse_inside hq (by omega)) s1
  | f + 1, 3, out, st, a, st', h, _ => by
    rw [parse] at h
    split at h
    · exact parse_inside h (by omega)
    · split at h
      · obtain ⟨⟨i, s1⟩, hq, hr⟩ := Option.bind_eq_some_iff.1 h
        cases hr
        obtain ⟨_, b1, b2, b3, b4⟩ := classOf_le' hq
        intro j hj
        simp only [List.mem_cons, List.not_mem_nil, or_false] at hj
        subst hj
        simp only at b1 b2 b3 b4
        exact ⟨by omega, by omega, by omega, by omega, b4⟩
      · cases h; exact simpleAtom_inside _ _
  | f + 1, 4, out, st, a, st', h, _ => by
    rw [parse] at h
    split at h
    · cases h; intro i hi; cases hi
    · obtain ⟨⟨a1, s1⟩, hq, hr⟩ := Option.bind_eq_some_iff.1 h
      cases hr
      exact parse_inside hq (by omega)
  | f + 1, t + 5, out, st, a, st', h, _ => by simp [parse] at h
end Go.Proofs.Ythhgfahlamdgfaa
