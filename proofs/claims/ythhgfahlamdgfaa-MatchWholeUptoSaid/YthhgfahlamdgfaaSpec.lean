/- What the parser of patterns computes: plain functions, no program in sight. -/
import Derived.WalkKit
namespace Go.Proofs.Ythhgfahlamdgfaa

/-- a step of a program; 'set': the bytes that it takes, bit c for byte c -/
structure Inst where
  kind : Nat
  set : Nat
  x : Nat
  y : Nat

/-- the parser: what is left, how deep, the first error (0: none) -/
structure St where
  rest : List UInt8
  deep : Nat
  e : Nat

def St.ends (st : St) : Bool := st.e != 0 || st.rest.isEmpty
def St.is (st : St) (c : UInt8) : Bool := !st.ends && st.rest.head? == some c
def St.fails (st : St) (k : Nat) : St := if st.e = 0 then { st with e := k } else st
def St.skip (st : St) : St := { st with rest := st.rest.tail }
def St.next (st : St) : UInt8 × St := if st.ends = true then (0, st.fails 3) else (st.rest.headD 0, st.skip)
def St.member (st : St) : UInt8 × St := if st.next.1 = 92 then st.next.2.next else st.next

def movedI (by_ : Nat) (i : Inst) : Inst :=
  if i.kind = 2 then { i with x := i.x + by_, y := i.y + by_ } else if i.kind = 3 then { i with x := i.x + by_ } else i
def moved (l : List Inst) (by_ : Nat) : List Inst := l.map (movedI by_)

def either (a b : List Inst) : List Inst :=
  (⟨2, 0, 1, a.length + 2⟩ :: moved a 1) ++ [⟨3, 0, a.length + 2 + b.length, 0⟩] ++ moved b (a.length + 2)

/-- so many bits from a on -/
def addBits (m a : Nat) : Nat → Nat
  | 0 => m
  | n + 1 => addBits m a n ||| 2 ^ (a + n)

/-- a '-' comes, and behind it a byte that is not the end of the class -/
def St.ranges (st : St) : Bool := st.is 45 && (match st.rest with | _ :: c :: _ => c != 93 | _ => false)

/-- one member, or one range, of a class -/
def St.second (st : St) (a : UInt8) : UInt8 × St := if st.ranges = true then st.skip.member else (a, st)
def St.order (st : St) (a b : UInt8) : St := if b < a then st.fails 3 else st

def classLoop : Nat → St → Nat → Option (Nat × St)
  | 0, _, _ => none
  | f + 1, st, m =>
    if (st.ends || st.is 93) = true then some (m, st)
    else classLoop f ((st.member.2.second st.member.1).2.order st.member.1 (st.member.2.second st.member.1).1)
      (addBits m st.member.1.toNat ((st.member.2.second st.member.1).1.toNat + 1 - st.member.1.toNat))

def allBytes : Nat := 2 ^ 256 - 1

def classStart (st : St) : St :=
  let st1 := if st.is 94 = true then st.skip else st
  if st1.is 93 = true then st1.fails 3 else st1

def classOf (f : Nat) (st : St) : Option (Inst × St) :=
  (classLoop f (classStart st) 0).bind fun r => some (⟨1, if st.is 94 = true then allBytes - r.1 else r.1, 0, 0⟩, r.2.next.2)

/-- an atom that is one step, behind its first byte -/
def simpleAtom (c : UInt8) (st : St) : Inst × St :=
  if c = 46 then (⟨1, allBytes, 0, 0⟩, st)
  else if c = 94 then (⟨4, 0, 0, 0⟩, st)
  else if c = 36 then (⟨5, 0, 0, 0⟩, st)
  else if c = 92 then (⟨1, 2 ^ st.next.1.toNat, 0, 0⟩, st.next.2)
  else if c = 41 ∨ c = 42 ∨ c = 43 ∨ c = 63 ∨ c = 124 then (⟨1, 0, 0, 0⟩, st.fails 3)
  else (⟨1, 2 ^ c.toNat, 0, 0⟩, st)

/-- how often an atom may come -/
def often (a : List Inst) (st : St) : List Inst × St :=
  if st.is 42 = true then ((⟨2, 0, 1, a.length + 2⟩ :: moved a 1) ++ [⟨3, 0, 0, 0⟩], st.skip)
  else if st.is 43 = true then (a ++ [⟨2, 0, 0, a.length + 1⟩], st.skip)
  else if st.is 63 = true then (⟨2, 0, 1, a.length + 1⟩ :: moved a 1, st.skip)
  else (a, st)

/-- the closing parenthesis -/
def closes (st : St) : St :=
  let st3 := if st.next.1 = 41 then st.next.2 else st.next.2.fails 3
  { st3 with deep := st3.deep - 1 }

/-- 0 alternatives, 1 a row (what it has so far), 2 a piece, 3 an atom, 4 a group; none: out of fuel -/
def parse : Nat → Nat → List Inst → St → Option (List Inst × St)
  | 0, _, _, _ => none
  | f + 1, 0, _, st => (parse f 1 [] st).bind fun r =>
      if r.2.is 124 = true then (parse f 0 [] r.2.skip).bind fun q => some (either r.1 q.1, q.2) else some r
  | f + 1, 1, out, st => if (st.ends || st.is 124 || st.is 41) = true then some (out, st)
      else (parse f 2 [] st).bind fun r => parse f 1 (out ++ moved r.1 out.length) r.2
  | f + 1, 2, _, st => (parse f 3 [] st).bind fun r => some (often r.1 r.2)
  | f + 1, 3, _, st =>
      if st.next.1 = 40 ∧ st.next.2.e = 0 then parse f 4 [] st.next.2
      else if st.next.1 = 91 then (classOf f st.next.2).bind fun r => some ([r.1], r.2)
      else some ([(simpleAtom st.next.1 st.next.2).1], (simpleAtom st.next.1 st.next.2).2)
  | f + 1, 4, _, st => if st.deep = 20 then some ([], st.fails 4)
      else (parse f 0 [] { st with deep := st.deep + 1 }).bind fun r => some (r.1, closes r.2)
  | _ + 1, _ + 5, _, _ => none

def done : Inst := ⟨6, 0, 0, 0⟩

/-- a pattern's program, or the error -/
def Compiles (s : List UInt8) (a : List Inst) (e : Nat) : Prop :=
  (256 < s.length ∧ a = [] ∧ e = 4) ∨
  (s.length ≤ 256 ∧ ∃ f a0 st, parse f 0 [] ⟨s, 0, 0⟩ = some (a0, st) ∧
    ((st.e = 0 ∧ st.rest = [] ∧ a = a0 ++ [done] ∧ e = 0) ∨ (st.e = 0 ∧ st.rest ≠ [] ∧ a = [] ∧ e = 3) ∨ (st.e ≠ 0 ∧ a = [] ∧ e = st.e)))

/-! ### more fuel changes nothing -/
theorem classLoop_more : ∀ {f : Nat} {st : St} {m : Nat} {r : Nat × St}, classLoop f st m = some r → classLoop (f + 1) st m = some r
  | 0, _, _, _, h => by cases h
  | f + 1, st, m, r, h => by
    unfold classLoop at h ⊢
    split at h
    · rename_i hc; rw [if_pos hc]; exact h
    · rename_i hc; rw [if_neg hc]; exact classLoop_more h

theorem classOf_more {f : Nat} {st : St} {r : Inst × St} (h : classOf f st = some r) : classOf (f + 1) st = some r := by
  unfold classOf at h ⊢
  obtain ⟨q, hq, hr⟩ := Option.bind_eq_some_iff.1 h
  rw [classLoop_more hq]
  exact hr

theorem parse_more : ∀ {f t : Nat} {out : List Inst} {st : St} {r : List Inst × St}, parse f t out st = some r → parse (f + 1) t out st = some r
  | 0, _, _, _, _, h => by simp [parse] at h
  | f + 1, 0, out, st, r, h => by
    rw [parse] at h ⊢
    obtain ⟨q, hq, hr⟩ := Option.bind_eq_some_iff.1 h
    rw [parse_more hq, Option.bind_some]
    split at hr
    · rename_i hc
      rw [if_pos hc]
      obtain ⟨q2, hq2, hr2⟩ := Option.bind_eq_some_iff.1 hr
      rw [parse_more hq2, Option.bind_some]
      exact hr2
    · rename_i hc; rw [if_neg hc]; exact hr
  | f + 1, 1, out, st, r, h => by
    rw [parse] at h ⊢
    split at h
    · rename_i hc; rw [if_pos hc]; exact h
    · rename_i hc
      rw [if_neg hc]
      obtain ⟨q, hq, hr⟩ := Option.bind_eq_some_iff.1 h
      rw [parse_more hq, Option.bind_some]
      exact parse_more hr
  | f + 1, 2, out, st, r, h => by
    rw [parse] at h ⊢
    obtain ⟨q, hq, hr⟩ := Option.bind_eq_some_iff.1 h
    rw [parse_more hq, Option.bind_some]
    exact hr
  | f + 1, 3, out, st, r, h => by
    rw [parse] at h ⊢
    split at h
    · rename_i hc; rw [if_pos hc]; exact parse_more h
    · rename_i hc
      rw [if_neg hc]
      split at h
      · rename_i hd
        rw [if_pos hd]
        obtain ⟨q, hq, hr⟩ := Option.bind_eq_some_iff.1 h
        rw [classOf_more hq, Option.bind_some]
        exact hr
      · rename_i hd; rw [if_neg hd]; exact h
  | f + 1, 4, out, st, r, h => by
    rw [parse] at h ⊢
    split at h
    · rename_i hc; rw [if_pos hc]; exact h
    · rename_i hc
      rw [if_neg hc]
      obtain ⟨q, hq, hr⟩ := Option.bind_eq_some_iff.1 h
      rw [parse_more hq, Option.bind_some]
      exact hr
  | f + 1, t + 5, out, st, r, h => by simp [parse] at h

theorem parse_le {f f' t : Nat} {out : List Inst} {st : St} {r : List Inst × St} (hf : f ≤ f') (h : parse f t out st = some r) : parse f' t out st = some r := by
  obtain ⟨d, rfl⟩ := Nat.exists_eq_add_of_le hf
  clear hf
  induction d with
  | zero => exact h
  | succ d ih => exact parse_more ih
theorem classOf_le {f f' : Nat} {st : St} {r : Inst × St} (hf : f ≤ f') (h : classOf f st = some r) : classOf f' st = some r := by
  obtain ⟨d, rfl⟩ := Nat.exists_eq_add_of_le hf
  clear hf
  induction d with
  | zero => exact h
  | succ d ih => exact classOf_more ih
theorem classLoop_le {f f' : Nat} {st : St} {m : Nat} {r : Nat × St} (hf : f ≤ f') (h : classLoop f st m = some r) : classLoop f' st m = some r := by
  obtain ⟨d, rfl⟩ := Nat.exists_eq_add_of_le hf
  clear hf
  induction d with
  | zero => exact h
  | succ d ih => exact classLoop_more ih

/-- one result, whatever the fuel -/
theorem parse_one {f f' t : Nat} {out : List Inst} {st : St} {r r' : List Inst × St} (h : parse f t out st = some r) (h' : parse f' t out st = some r') : r = r' := by
  have h1 := parse_le (Nat.le_max_left f f') h
  have h2 := parse_le (Nat.le_max_right f f') h'
  rw [h1] at h2
  exact Option.some.inj h2

theorem Compiles.one {s : List UInt8} {a b : List Inst} {e k : Nat} (h : Compiles s a e) (h' : Compiles s b k) : a = b ∧ e = k := by
  rcases h with ⟨h1, rfl, rfl⟩ | ⟨h1, f, a0, st, hp, hr⟩
  · rcases h' with ⟨_, rfl, rfl⟩ | ⟨h2, _⟩
    · exact ⟨rfl, rfl⟩
    · omega
  · rcases h' with ⟨h2, _⟩ | ⟨_, f', a1, st', hp', hr'⟩
    · omega
    · have e1 := parse_one hp hp'
      injection e1 with e1 e2
      subst e1 e2
      rcases hr with ⟨g1, g2, rfl, rfl⟩ | ⟨g1, g2, rfl, rfl⟩ | ⟨g1, rfl, rfl⟩ <;> rcases hr' with ⟨k1, k2, rfl, rfl⟩ | ⟨k1, k2, rfl, rfl⟩ | ⟨k1, rfl, rfl⟩ <;> first | exact ⟨rfl, rfl⟩ | (exfalso; first | exact g2 k2 | exact k2 g2 | exact g1 k1 | exact k1 g1)
end Go.Proofs.Ythhgfahlamdgfaa
