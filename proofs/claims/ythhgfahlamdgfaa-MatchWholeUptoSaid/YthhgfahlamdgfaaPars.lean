/- the parser's small methods: what each answers, and what becomes of the parser in memory -/
import Derived.Test.YthhgfahlamdgfaaRows
import Derived.Test.YthhgfahlamdgfaaBound
import Derived.Test.YthhgfahlamdgfaaWords
import Derived.WalkKit
import Derived.WalkLawsBesides
import Derived.WalkSpells
import Derived.Lib.Hide
import Derived.Deep.QuietTactic
import Derived.BigQuiet
namespace Go.Proofs.Ythhgfahlamdgfaa
open Go.RowKit

/-- the parser lies in block g, and reads s -/
def Pars (w : World) (g : Nat) (s : ByteArray) (st : St) : Prop :=
  ∃ at_ : Nat, at_ ≤ s.size ∧ s.data.toList.drop at_ = st.rest ∧ Blk w g 43 #[.string s, .int .i64 (at_ : Int), .int .i64 (st.deep : Int), .int .i64 (st.e : Int)]

theorem Pars.drewN {w : World} {g : Nat} {s : ByteArray} {st : St} (h : Pars w g s st) (n : Nat) : Pars (w.drewN n) g s st := h
theorem Pars.lt {w : World} {g : Nat} {s : ByteArray} {st : St} (h : Pars w g s st) : g < w.heap.size := let ⟨_, _, _, hb⟩ := h; hb.lt
theorem Pars.below {w w' : World} {g : Nat} {s : ByteArray} {st : St} (h : Pars w g s st) (hb : Below w.heap.size w w') : Pars w' g s st :=
  let ⟨a, h1, h2, h3⟩ := h; ⟨a, h1, h2, h3.below hb h3.lt⟩
theorem Pars.grown {w w' : World} {g : Nat} {s : ByteArray} {st : St} {row : Option Nat} (h : Pars w g s st) (hb : w.grownBy w' row) (hg : some g ≠ row) : Pars w' g s st :=
  let ⟨a, h1, h2, h3⟩ := h; ⟨a, h1, h2, h3.grown hb hg⟩

theorem drop_nil {s : ByteArray} {a : Nat} (h : s.size ≤ a) : s.data.toList.drop a = [] := List.drop_eq_nil_of_le (by simpa using h)
theorem drop_cons {s : ByteArray} {a : Nat} (h : a < s.size) : s.data.toList.drop a = s[a] :: s.data.toList.drop (a + 1) := by
  rw [List.drop_eq_getElem_cons (by simpa using h)]; rfl

theorem ret_bool {a b : Bool} (h : a = b) : Ending.returned (.bool a) = Ending.returned (.bool b) := by rw [h]
theorem ret_u8 {a b : Int} (h : a = b) : Ending.returned (.int .u8 a) = Ending.returned (.int .u8 b) := by rw [h]

theorem ends_eq {s : ByteArray} {a : Nat} {rest : List UInt8} {deep : Nat} (hr : s.data.toList.drop a = rest) : (⟨rest, deep, 0⟩ : St).ends = decide (s.size ≤ a) := by
  by_cases h : s.size ≤ a
  · rw [drop_nil h] at hr; subst hr; simp [St.ends, h]
  · rw [drop_cons (by omega)] at hr; subst hr; simp [St.ends, h]

theorem ends_any (w : World) (g : Nat) (s : ByteArray) (st : St) (h : Pars w g s st) :
    Calls Try.prog 17 #[.pointer (some ⟨g, 0, none⟩)] w fun e w' => e = .returned (.bool st.ends) ∧ ∃ n, w' = w.drewN n := by
  obtain ⟨a, ha, hr, hb⟩ := h
  obtain ⟨rest, deep, e⟩ := st
  simp only at hr hb
  have c0 : w.cell? ⟨g, 0, none⟩ = some (.string s) := by simpa using hb.cell 0
  have c1 : w.cell? ⟨g, 1, none⟩ = some (.int .i64 (a : Int)) := by simpa using hb.cell 1
  have c3 : w.cell? ⟨g, 3, none⟩ = some (.int .i64 (e : Int)) := by simpa using hb.cell 3
  have HR := Lib.hid hr
  clear hr hb
  by_cases he : e = 0
  · subst he
    go_enter Try.func17, Try.ntmps17
    go_wp2
    go_quiet (fail)
    go_wp2
    go_ret
    exact ⟨ret_bool (ends_eq HR.out).symm, _, rfl⟩
  · have hne : ((e : Int) != 0) = true := by simpa using he
    go_enter Try.func17, Try.ntmps17
    go_wp2
    go_quiet (fail)
    go_wp2
    go_ret
    exact ⟨ret_bool (by simp [St.ends, he]), _, rfl⟩

theorem ends_is (w : World) (g : Nat) (s : ByteArray) (st : St) (h : Pars w g s st) {b : Bool} (hb : st.ends = b) :
    Calls Try.prog 17 #[.pointer (some ⟨g, 0, none⟩)] w fun e w' => e = .returned (.bool b) ∧ ∃ n, w' = w.drewN n :=
  (ends_any w g s st h).mono fun _ _ ⟨he, hw⟩ => ⟨by rw [he, hb], hw⟩

theorem is_eq {s : ByteArray} {a : Nat} {rest : List UInt8} {deep : Nat} (c : UInt8) (h : a < s.size) (hr : s.data.toList.drop a = rest) : (⟨rest, deep, 0⟩ : St).is c = (((s[a].toNat : Int)) == (c.toNat : Int)) := by
  rw [drop_cons h] at hr
  subst hr
  have e : (s[a] == c) = (((s[a].toNat : Int)) == (c.toNat : Int)) := by
    rw [Bool.eq_iff_iff]; simp only [beq_iff_eq]
    constructor
    · rintro h; rw [h]
    · intro h; exact UInt8.toNat_inj.1 (by omega)
  simp [St.is, St.ends, ← e]

theorem is_any (w : World) (g : Nat) (s : ByteArray) (st : St) (h : Pars w g s st) (c : UInt8) (k : Int) (hk : (c.toNat : Int) = k) :
    Calls Try.prog 21 #[.pointer (some ⟨g, 0, none⟩), .int .u8 k] w fun e w' => e = .returned (.bool (st.is c)) ∧ ∃ n, w' = w.drewN n := by
  have hc := c.toNat_lt
  have hp := h
  obtain ⟨a, ha, hr, hb⟩ := h
  have c0 : w.cell? ⟨g, 0, none⟩ = some (.string s) := by simpa using hb.cell 0
  have c1 : w.cell? ⟨g, 1, none⟩ = some (.int .i64 (a : Int)) := by simpa using hb.cell 1
  have HK := Lib.hid hk
  have HP := Lib.hid hp
  have HR := Lib.hid hr
  clear hr hb hk hp
  cases he : st.ends
  · obtain ⟨e0, d, r, hrr⟩ := not_ends he
    have hlt : a < s.size := by
      rcases Nat.lt_or_ge a s.size with hlt | hge
      · exact hlt
      · have := HR.out; rw [drop_nil hge, hrr] at this; cases this
    have hlt' : (a : Int) < (s.size : Int) := by omega
    have HE := Lib.hid he
    have HE0 := Lib.hid e0
    clear hrr he e0
    go_enter Try.func21, Try.ntmps21
    go_wp2
    go_quiet ((go_at_call 17; exact Calls.quiet_of (ends_is _ g s st (HP.out.drewN _) HE.out)))
    go_wp2
    go_ret
    refine ⟨ret_bool ?_, _, rfl⟩
    obtain ⟨rest, deep, e⟩ := st
    have e0 := HE0.out
    simp only at e0
    subst e0
    rw [is_eq c hlt HR.out, HK.out]
  · have HE := Lib.hid he
    clear he
    go_enter Try.func21, Try.ntmps21
    go_wp2
    go_quiet ((go_at_call 17; exact Calls.quiet_of (ends_is _ g s st (HP.out.drewN _) HE.out)))
    go_wp2
    go_ret
    exact ⟨ret_bool (by simp [St.is, HE.out]), _, rfl⟩

/-! ### what changes: the parser's block alone -/
section
variable {a w : World} {g : Nat}
theorem only_drewN {row : Option Nat} (h : a.grownBy w row) (n : Nat) : a.grownBy (w.drewN n) row := ⟨h.os, h.tape, h.output, h.size, h.block⟩
theorem only_drew {row : Option Nat} (h : a.grownBy w row) : a.grownBy w.drew row := ⟨h.os, h.tape, h.output, h.size, h.block⟩
theorem only_alloc {row : Option Nat} (h : a.grownBy w row) (o : Obj) : a.grownBy (w.alloc o) row :=
  ⟨h.os, h.tape, h.output, Nat.le_trans h.size (by simp), fun i hi hne => (Below.heap_alloc w o i (Nat.lt_of_lt_of_le hi h.size)).trans (h.block i hi hne)⟩
theorem only_setCell (h : a.grownBy w (some g)) {p : Addr} (hp : p.block = g ∨ a.heap.size ≤ p.block) (u : Value) : a.grownBy (w.setCell p u) (some g) :=
  ⟨h.os, h.tape, h.output, by simpa [World.setCell] using h.size, fun i hi hne => (Below.heap_setCell w p u i (by
    rintro rfl
    rcases hp with hp | hp
    · exact hne (by rw [hp])
    · omega)).trans (h.block i hi hne)⟩
theorem only_of_below {row : Option Nat} (h : Below a.heap.size a w) : a.grownBy w row := ⟨h.os, h.tape, h.output, h.size, fun i hi _ => h.block i hi⟩
end

theorem fails_any (w : World) (g : Nat) (s : ByteArray) (st : St) (h : Pars w g s st) (k : Nat) (kk : Int) (hk : kk = (k : Int)) :
    Calls Try.prog 18 #[.pointer (some ⟨g, 0, none⟩), .int .i64 kk] w fun e w' => e = .returned (.tuple #[]) ∧ Pars w' g s (st.fails k) ∧ w.grownBy w' (some g) := by
  subst hk
  obtain ⟨a, ha, hr, hb⟩ := h
  obtain ⟨rest, deep, e⟩ := st
  simp only at hr hb
  have c3 : w.cell? ⟨g, 3, none⟩ = some (.int .i64 (e : Int)) := by simpa using hb.cell 3
  have f3 := hb.frozen 3
  have HR := Lib.hid hr
  have HB := Lib.hid hb
  clear hr hb
  by_cases he : e = 0
  · subst he
    have HE : (⟨rest, deep, 0⟩ : St).fails k = ⟨rest, deep, k⟩ := by simp [St.fails]
    rw [HE]
    clear HE
    go_enter Try.func18, Try.ntmps18
    go_wp2
    go_end0
    refine ⟨rfl, ⟨a, ha, HR.out, ?_⟩, only_setCell (World.grownBy.refl _ _) (.inl rfl) _⟩
    have := HB.out.set_ 3 (.int .i64 (k : Int))
    simpa using this
  · have hne : ((e : Int) == 0) = false := by simpa using he
    have HE : (⟨rest, deep, e⟩ : St).fails k = ⟨rest, deep, e⟩ := by simp [St.fails, he]
    rw [HE]
    clear HE
    go_enter Try.func18, Try.ntmps18
    go_wp2
    go_end0
    exact ⟨rfl, ⟨a, ha, HR.out, HB.out⟩, World.grownBy.refl _ _⟩

theorem next_any (w : World) (g : Nat) (s : ByteArray) (st : St) (h : Pars w g s st) (hs : s.size ≤ 1000) :
    Calls Try.prog 29 #[.pointer (some ⟨g, 0, none⟩)] w fun e w' => e = .returned (.int .u8 (st.next.1.toNat : Int)) ∧ Pars w' g s st.next.2 ∧ w.grownBy w' (some g) := by
  cases he : st.ends
  · obtain ⟨e0, d, r, hrr⟩ := not_ends he
    have hn : st.next = (d, { st with rest := r }) := by unfold St.next; rw [if_neg (by rw [he]; simp)]; simp [hrr, St.skip]
    rw [hn]
    simp only
    have hp := h
    obtain ⟨a, ha, hr, hb⟩ := h
    have hlt : a < s.size := by
      rcases Nat.lt_or_ge a s.size with hlt | hge
      · exact hlt
      · rw [drop_nil hge, hrr] at hr; cases hr
    have hcut : s[a] = d ∧ s.data.toList.drop (a + 1) = r := by
      rw [drop_cons hlt, hrr] at hr
      exact ⟨by injection hr, by injection hr⟩
    have c0 : w.cell? ⟨g, 0, none⟩ = some (.string s) := by simpa using hb.cell 0
    have c1 : w.cell? ⟨g, 1, none⟩ = some (.int .i64 (a : Int)) := by simpa using hb.cell 1
    have f1 := hb.frozen 1
    have hx0 : (0 : Int) ≤ (a : Int) + 1 - 1 := by omega
    have hx1 : (a : Int) + 1 - 1 < (s.size : Int) := by omega
    have HN := Lib.hid hn
    have HC := Lib.hid hcut
    have HP := Lib.hid hp
    have HB := Lib.hid hb
    have HE := Lib.hid he
    clear hn hcut hp hb he hr e0 hrr
    go_enter Try.func29, Try.ntmps29
    go_wp2_with (go_at_call 17; refine (ends_is _ g s st HP.out HE.out).mono ?_; rintro e w' ⟨rfl, nx, rfl⟩)
    go_quiet (fail)
    go_wp2
    go_ret
    refine ⟨ret_u8 (by rw [HC.out.1]), ⟨a + 1, by omega, HC.out.2, ?_⟩, only_drewN (only_setCell (only_drewN (World.grownBy.refl _ _) _) (.inl rfl) _) _⟩
    have := (HB.out.drewN nx).set_ 1 (.int .i64 ((a : Int) + 1))
    rw [show ((a + 1 : Nat) : Int) = (a : Int) + 1 from by omega]
    simpa using this.drewN nq
  · have hn : st.next = (0, st.fails 3) := by unfold St.next; rw [if_pos he]
    rw [hn]
    simp only
    have HE := Lib.hid he
    have HP := Lib.hid h
    clear he hn h
    go_enter Try.func29, Try.ntmps29
    go_wp2_with (first | (go_at_call 17; refine (ends_is _ g s st HP.out HE.out).mono ?_; rintro e w' ⟨rfl, nx, rfl⟩) | (go_at_call 18; refine (fails_any _ g s st (HP.out.drewN _) 3 _ rfl).mono ?_; rintro e w' ⟨rfl, hp2, hg2⟩))
    go_ret
    exact ⟨rfl, hp2, (only_drewN (World.grownBy.refl _ _) _).trans hg2⟩

/-! ### the quiet ones again, the world behind a name -/
theorem ends_k (w : World) (g : Nat) (s : ByteArray) (st : St) (h : Pars w g s st) :
    Calls Try.prog 17 #[.pointer (some ⟨g, 0, none⟩)] w fun e w' => e = .returned (.bool st.ends) ∧ Pars w' g s st ∧ w.grownBy w' (some g) :=
  (ends_any w g s st h).mono fun _ _ ⟨he, n, hw⟩ => ⟨he, by rw [hw]; exact h, by rw [hw]; exact only_drewN (World.grownBy.refl _ _) _⟩
theorem is_k (w : World) (g : Nat) (s : ByteArray) (st : St) (h : Pars w g s st) (c : UInt8) (k : Int) (hk : (c.toNat : Int) = k) :
    Calls Try.prog 21 #[.pointer (some ⟨g, 0, none⟩), .int .u8 k] w fun e w' => e = .returned (.bool (st.is c)) ∧ Pars w' g s st ∧ w.grownBy w' (some g) :=
  (is_any w g s st h c k hk).mono fun _ _ ⟨he, n, hw⟩ => ⟨he, by rw [hw]; exact h, by rw [hw]; exact only_drewN (World.grownBy.refl _ _) _⟩

/-- 'p.at++' where something is left -/
theorem Pars.step {w : World} {g : Nat} {s : ByteArray} {st : St} (h : Pars w g s st) (hs : s.size ≤ 1000) (hne : st.rest ≠ []) :
    ∃ a : Nat, a ≤ 1000 ∧ w.cell? ⟨g, 1, none⟩ = some (.int .i64 (a : Int)) ∧ w.frozen? ⟨g, 1, none⟩ = false ∧ Hid (Pars (w.setCell ⟨g, 1, none⟩ (.int .i64 ((a : Int) + 1))) g s st.skip) := by
  obtain ⟨a, ha, hr, hb⟩ := h
  have hlt : a < s.size := by
    rcases Nat.lt_or_ge a s.size with hlt | hge
    · exact hlt
    · rw [drop_nil hge] at hr; exact absurd hr.symm hne
  refine ⟨a, by omega, by simpa using hb.cell 1, hb.frozen 1, a + 1, by omega, ?_, ?_⟩
  · rw [drop_cons hlt] at hr
    simp [St.skip, ← hr]
  · have := hb.set_ 1 (.int .i64 ((a : Int) + 1))
    rw [show ((a + 1 : Nat) : Int) = (a : Int) + 1 from by omega]
    simpa [St.skip] using this

/-- 'p.deep' is read, and set -/
theorem Pars.depth {w : World} {g : Nat} {s : ByteArray} {st : St} (h : Pars w g s st) :
    w.cell? ⟨g, 2, none⟩ = some (.int .i64 (st.deep : Int)) ∧ w.frozen? ⟨g, 2, none⟩ = false ∧
      Hid (∀ (d : Nat) (x : Int), x = (d : Int) → Pars (w.setCell ⟨g, 2, none⟩ (.int .i64 x)) g s { st with deep := d }) := by
  obtain ⟨a, ha, hr, hb⟩ := h
  refine ⟨by simpa using hb.cell 2, hb.frozen 2, fun d x hx => ⟨a, ha, hr, ?_⟩⟩
  have := hb.set_ 2 (.int .i64 x)
  rw [hx] at this ⊢
  simpa using this

/-- 'p.e' is read -/
theorem Pars.err {w : World} {g : Nat} {s : ByteArray} {st : St} (h : Pars w g s st) : w.cell? ⟨g, 3, none⟩ = some (.int .i64 (st.e : Int)) := by
  obtain ⟨a, ha, hr, hb⟩ := h
  simpa using hb.cell 3

theorem member_any (w : World) (g : Nat) (s : ByteArray) (st : St) (h : Pars w g s st) (hs : s.size ≤ 1000) :
    Calls Try.prog 34 #[.pointer (some ⟨g, 0, none⟩)] w fun e w' => e = .returned (.int .u8 (st.member.1.toNat : Int)) ∧ Pars w' g s st.member.2 ∧ w.grownBy w' (some g) := by
  by_cases hc : st.next.1 = 92
  · have e1 : st.member = st.next.2.next := by unfold St.member; rw [if_pos hc]
    rw [e1]
    have hc' : (st.next.1.toNat : Int) = 92 := by rw [hc]; rfl
    have HC := Lib.hid hc'
    clear hc e1 hc'
    go_enter Try.func34, Try.ntmps34
    go_wp2_with fail
    refine (next_any w g s st h hs).mono ?_
    rintro e w1 ⟨rfl, hp1, hg1⟩
    rw [HC.out]
    go_wp2_with fail
    refine (next_any w1 g s _ hp1 hs).mono ?_
    rintro e w2 ⟨rfl, hp2, hg2⟩
    go_wp2_with fail
    go_ret
    exact ⟨rfl, hp2, hg1.trans hg2⟩
  · have e1 : st.member = st.next := by unfold St.member; rw [if_neg hc]
    rw [e1]
    have hc' : ((st.next.1.toNat : Int) == 92) = false := beq_eq_false_iff_ne.2 (fun h => hc (UInt8.toNat_inj.1 (by have : (92 : UInt8).toNat = 92 := rfl; omega)))
    clear hc e1
    go_enter Try.func34, Try.ntmps34
    go_wp2_with fail
    refine (next_any w g s st h hs).mono ?_
    rintro e w1 ⟨rfl, hp1, hg1⟩
    go_wp2_with fail
    go_ret
    exact ⟨rfl, hp1, hg1⟩
end Go.Proofs.Ythhgfahlamdgfaa
