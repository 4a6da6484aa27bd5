/- atom: what it reads, where group is known -/
import Derived.Test.YthhgfahlamdgfaaClass
import Derived.Lib.Bytealg
namespace Go.Proofs.Ythhgfahlamdgfaa
open Go.RowKit

theorem index_low (s : ByteArray) (c : Int) (w : World) : Calls Try.prog 35 #[.string s, .int .u8 c] w fun e w' => e = .returned (.int .i64 (Lib.indexByte s.data.toList c.toNat.toUInt8)) ∧ w = w' := by
  go_enter Try.func35, Try.ntmps35
  go_wp2
  rw [run_callFunc_extern Try.func36 (by kernel_rfl) (by kernel_rfl) (by kernel_rfl) (e := Extern.BytealgIndexByte.indexByte) (by kernel_rfl), Lib.run_indexByteString]
  simp only [Result.andThen]
  rw [Oper.upon_value]
  go_wp2
  go_ret
  exact ⟨rfl, rfl⟩

theorem index_any (s : ByteArray) (c : Int) (w : World) : Calls Try.prog 33 #[.string s, .int .u8 c] w fun e w' => e = .returned (.int .i64 (Lib.indexByte s.data.toList c.toNat.toUInt8)) ∧ w = w' := by
  go_enter Try.func33, Try.ntmps33
  go_wp2_with fail
  refine (index_low _ _ _).mono ?_
  rintro e w' ⟨rfl, rfl⟩
  go_wp2_with fail
  go_ret
  exact ⟨rfl, rfl⟩

/-- a byte that may not stand alone -/
def isMeta (c : UInt8) : Prop := c = 41 ∨ c = 42 ∨ c = 43 ∨ c = 63 ∨ c = 124

theorem meta_yes {c : UInt8} (h : isMeta c) (w : World) : Calls Try.prog 33 #[.string { data := #[41, 42, 43, 63, 124] }, .int .u8 (c.toNat : Int)] w fun e w' => (∃ n : Int, 0 ≤ n ∧ e = .returned (.int .i64 n)) ∧ w = w' :=
  (index_any _ _ w).mono fun _ _ ⟨he, hw⟩ => ⟨⟨_, by
    rcases h with rfl | rfl | rfl | rfl | rfl <;> decide, he⟩, hw⟩
theorem meta_no {c : UInt8} (h : ¬ isMeta c) (w : World) : Calls Try.prog 33 #[.string { data := #[41, 42, 43, 63, 124] }, .int .u8 (c.toNat : Int)] w fun e w' => e = .returned (.int .i64 (-1)) ∧ w = w' :=
  (index_any _ _ w).mono fun _ _ ⟨he, hw⟩ => ⟨by
    rw [he]
    have e1 : ((c.toNat : Int)).toNat.toUInt8 = c := by rw [Int.toNat_natCast]; exact UInt8.ofNat_toNat
    rw [e1]
    unfold isMeta at h
    have h41 : ((41 : UInt8) == c) = false := beq_eq_false_iff_ne.2 (fun e => h (.inl e.symm))
    have h42 : ((42 : UInt8) == c) = false := beq_eq_false_iff_ne.2 (fun e => h (.inr (.inl e.symm)))
    have h43 : ((43 : UInt8) == c) = false := beq_eq_false_iff_ne.2 (fun e => h (.inr (.inr (.inl e.symm))))
    have h63 : ((63 : UInt8) == c) = false := beq_eq_false_iff_ne.2 (fun e => h (.inr (.inr (.inr (.inl e.symm)))))
    have h124 : ((124 : UInt8) == c) = false := beq_eq_false_iff_ne.2 (fun e => h (.inr (.inr (.inr (.inr e.symm)))))
    simp [Lib.indexByte, h41, h42, h43, h63, h124], hw⟩

/-- what a function of the parser leaves -/
def ParsePost (t : Nat) (out : List Inst) (w : World) (g : Nat) (s : ByteArray) (st : St) (e : Ending) (w' : World) : Prop :=
  ∃ f a st' v, parse f t out st = some (a, st') ∧ e = .returned v ∧ w'.ownsRow w.heap.size 31 7 v a.length (flatI a) ∧ Pars w' g s st' ∧ w.grownBy w' (some g)

theorem atom_close {w wx : World} {g : Nat} {s : ByteArray} {st st' : St} {f : Nat} {i : Inst} (hp : parse f 3 [] st = some ([i], st')) (h : Pars wx g s st') (hg : w.grownBy wx (some g)) :
    ParsePost 3 [] w g s st (.returned (.slice (some ⟨wx.heap.size, 0, none⟩) 1 1)) (wx.alloc (.cells (cellsI i).toArray 31)) := by
  obtain ⟨a, h1, h2, h3⟩ := h
  refine ⟨f, [i], st', _, hp, rfl, ?_, ⟨a, h1, h2, h3.alloc _⟩, only_alloc hg _⟩
  have := World.ownsRow_lit (base := w.heap.size) (e := 31) (size := 7) wx (cellsI i).toArray 1 hg.size (by decide) rfl
  simpa [flatI] using this

theorem atom_close2 {w wx W : World} {g B : Nat} {s : ByteArray} {st st' : St} {f : Nat} {i : Inst} (hp : parse f 3 [] st = some ([i], st')) (h : Pars wx g s st') (hg : w.grownBy wx (some g)) (hB : B = wx.heap.size) (hW : W = wx.alloc (.cells (cellsI i).toArray 31)) :
    ParsePost 3 [] w g s st (.returned (.slice (some ⟨B, 0, none⟩) 1 1)) W := by
  subst hB hW
  exact atom_close hp h hg
theorem size_setCells (b : Nat) : ∀ (vs : List Value) (o : Nat) (w : World), (w.setCells b o vs).heap.size = w.heap.size
  | [], _, _ => rfl
  | v :: vs, o, w => (size_setCells b vs (o + 1) _).trans (by simp [World.setCell])

theorem word_all : ∀ j, j < 4 → word allBytes j = 18446744073709551615 := by decide
theorem cells_all : (cellsI ⟨1, allBytes, 0, 0⟩).toArray = #[.int .i64 1, .int .u64 18446744073709551615, .int .u64 18446744073709551615, .int .u64 18446744073709551615, .int .u64 18446744073709551615, .int .i64 0, .int .i64 0] := by
  simp [cellsI, word_all 0 (by omega), word_all 1 (by omega), word_all 2 (by omega), word_all 3 (by omega)]

/-- a group, where it is known -/
def GroupSaid (n : Nat) : Prop := ∀ (w : World) (g : Nat) (s : ByteArray) (st : St), Pars w g s st → s.size ≤ 256 → st.rest.length ≤ n → st.deep ≤ 20 → Calls Try.prog 30 #[.pointer (some ⟨g, 0, none⟩)] w (ParsePost 4 [] w g s st)

theorem own_base {w : World} {B B' e size n : Nat} {v : Value} {xs : List Value} (h : w.ownsRow B e size v n xs) (hB : B' ≤ B) : w.ownsRow B' e size v n xs := by
  refine ⟨h.1, ?_⟩
  rcases h.2 with h2 | ⟨g, cap, cur, hv, hg, r⟩
  · exact .inl h2
  · exact .inr ⟨g, cap, cur, hv, Nat.le_trans hB hg, r⟩

theorem parse_class_eq {f : Nat} {out : List Inst} {st st' : St} {i : Inst} (h40 : ¬ st.next.1 = 40) (h91 : st.next.1 = 91) (h : classOf f st.next.2 = some (i, st')) : parse (f + 1) 3 out st = some ([i], st') := by
  rw [parse, if_neg (fun hh => h40 hh.1), if_pos h91, h]; rfl
theorem parse_simple_eq {f : Nat} {out : List Inst} {st st' : St} {i : Inst} (h40 : ¬ st.next.1 = 40) (h91 : ¬ st.next.1 = 91) (h : simpleAtom st.next.1 st.next.2 = (i, st')) : parse (f + 1) 3 out st = some ([i], st') := by
  rw [parse, if_neg (fun hh => h40 hh.1), if_neg h91, h]

theorem simple_meta {c : UInt8} (st : St) (h46 : ¬ c = 46) (h94 : ¬ c = 94) (h36 : ¬ c = 36) (h92 : ¬ c = 92) (hm : isMeta c) : simpleAtom c st = (⟨1, 0, 0, 0⟩, st.fails 3) := by
  unfold isMeta at hm
  unfold simpleAtom
  rw [if_neg h46, if_neg h94, if_neg h36, if_neg h92, if_pos hm]
theorem simple_other {c : UInt8} (st : St) (h46 : ¬ c = 46) (h94 : ¬ c = 94) (h36 : ¬ c = 36) (h92 : ¬ c = 92) (hm : ¬ isMeta c) : simpleAtom c st = (⟨1, 2 ^ c.toNat, 0, 0⟩, st) := by
  unfold isMeta at hm
  unfold simpleAtom
  rw [if_neg h46, if_neg h94, if_neg h36, if_neg h92, if_neg hm]

theorem word_zero (j : Nat) : word 0 j = 0 := by simp [word]

theorem ne_u8 {c d : UInt8} (h : c ≠ d) {k : Int} (hk : (d.toNat : Int) = k) : ((c.toNat : Int) == k) = false :=
  beq_eq_false_iff_ne.2 (fun e => h (UInt8.toNat_inj.1 (by omega)))

def InAtom (w : World) (g : Nat) (s : ByteArray) (st : St) (i : Inst) (wx : World) : Prop := Pars wx g s st ∧ Blk wx w.heap.size 31 (cellsI i).toArray ∧ w.grownBy wx (some g)

theorem InAtom.start {w : World} {g : Nat} {s : ByteArray} {st : St} (h : Pars w g s st) : InAtom w g s st ⟨1, 0, 0, 0⟩ (w.alloc (Obj.cells #[.int .i64 1, .int .u64 0, .int .u64 0, .int .u64 0, .int .u64 0, .int .i64 0, .int .i64 0] 31)) := by
  obtain ⟨a, h1, h2, h3⟩ := h
  refine ⟨⟨a, h1, h2, h3.alloc _⟩, ?_, only_alloc (World.grownBy.refl _ _) _⟩
  have := Blk.new w 31 #[.int .i64 1, .int .u64 0, .int .u64 0, .int .u64 0, .int .u64 0, .int .i64 0, .int .i64 0]
  simpa [cellsI, word] using this
theorem InAtom.call {w : World} {g : Nat} {s : ByteArray} {st st' : St} {i : Inst} {wx wy : World} (h : InAtom w g s st i wx) (hlt : g < w.heap.size) (hp : Pars wy g s st') (hg : wx.grownBy wy (some g)) : InAtom w g s st' i wy :=
  ⟨hp, h.2.1.grown hg (by intro e; injection e; omega), h.2.2.trans hg⟩
theorem InAtom.put {w : World} {g : Nat} {s : ByteArray} {st : St} {i i' : Inst} {wx wy : World} (h : InAtom w g s st i wx) (hlt : g < w.heap.size) (hb : Blk wy w.heap.size 31 (cellsI i').toArray) (hg : wx.grownBy wy (some w.heap.size)) : InAtom w g s st i' wy :=
  ⟨h.1.grown hg (by intro e; injection e; omega), hb, h.2.2.andThen hg (fun j hj => by injection hj; exact .inl (by omega))⟩

/-- the cells of the step that is made -/
theorem InAtom.cells {w : World} {g : Nat} {s : ByteArray} {st : St} {i : Inst} {wx : World} (h : InAtom w g s st i wx) :
    wx.cell? ⟨w.heap.size, 0, none⟩ = some (.int .i64 (i.kind : Int)) ∧ wx.cell? ⟨w.heap.size, 1, none⟩ = some (.int .u64 (word i.set 0 : Int)) ∧ wx.cell? ⟨w.heap.size, 2, none⟩ = some (.int .u64 (word i.set 1 : Int)) ∧
    wx.cell? ⟨w.heap.size, 3, none⟩ = some (.int .u64 (word i.set 2 : Int)) ∧ wx.cell? ⟨w.heap.size, 4, none⟩ = some (.int .u64 (word i.set 3 : Int)) ∧ wx.cell? ⟨w.heap.size, 5, none⟩ = some (.int .i64 (i.x : Int)) ∧ wx.cell? ⟨w.heap.size, 6, none⟩ = some (.int .i64 (i.y : Int)) := by
  refine ⟨?_, ?_, ?_, ?_, ?_, ?_, ?_⟩
  · rw [h.2.1.cell 0]; simp [cellsI]
  · rw [h.2.1.cell 1]; simp [cellsI]
  · rw [h.2.1.cell 2]; simp [cellsI]
  · rw [h.2.1.cell 3]; simp [cellsI]
  · rw [h.2.1.cell 4]; simp [cellsI]
  · rw [h.2.1.cell 5]; simp [cellsI]
  · rw [h.2.1.cell 6]; simp [cellsI]

set_option maxHeartbeats 2000000 in
theorem atom_any {n : Nat} (hG : GroupSaid n) (w : World) (g : Nat) (s : ByteArray) (st : St) (h : Pars w g s st) (hs : s.size ≤ 256) (hn : st.rest.length ≤ n + 1) (hd : st.deep ≤ 20) (hne : st.ends = false) :
    Calls Try.prog 28 #[.pointer (some ⟨g, 0, none⟩)] w (ParsePost 3 [] w g s st) := by
  have hlt := h.lt
  obtain ⟨hn1, hn2⟩ := next_lt hne
  have hdd : st.next.2.deep ≤ 20 := by
    unfold St.next; split
    · unfold St.fails; split <;> exact hd
    · exact hd
  have HIN := Lib.hid (InAtom.start h)
  have HN1 := Lib.hid hn1
  have HN2 := Lib.hid hn2
  clear h hn1 hn2
  go_enter Try.func28, Try.ntmps28
  go_wp2_with fail
  refine (next_any _ g s st HIN.out.1 (by omega)).mono ?_
  rintro e w1 ⟨rfl, hp1, hg1⟩
  have HI := Lib.hid (HIN.out.call hlt hp1 hg1)
  clear HIN hp1 hg1
  by_cases h40 : st.next.1 = 40
  · have hk : (st.next.1.toNat : Int) = 40 := by rw [h40]; rfl
    rw [hk]
    have c3 := HI.out.1.err
    rw [HN2.out] at c3
    have H40 := Lib.hid h40
    clear h40 hk
    go_wp2_with fail
    refine (hG w1 g s st.next.2 HI.out.1 hs (by have := HN1.out; omega) hdd).mono ?_
    rintro e w2 ⟨f, a, st', v, hpar, rfl, hown, hp2, hg2⟩
    go_wp2_with fail
    go_ret
    refine ⟨f + 1, a, st', v, ?_, rfl, ?_, hp2, HI.out.2.2.trans hg2⟩
    · rw [parse, if_pos ⟨H40.out, HN2.out⟩]; exact hpar
    · exact own_base hown HI.out.2.2.size
  · have k40 := ne_u8 h40 (k := 40) rfl
    have H40 := Lib.hid h40
    clear h40
    by_cases h91 : st.next.1 = 91
    · have hk : (st.next.1.toNat : Int) = 91 := by rw [h91]; rfl
      rw [hk]
      have H91 := Lib.hid h91
      clear h91 hk k40
      go_wp2_with fail
      refine (class_any w1 g s st.next.2 HI.out.1 (by omega)).mono ?_
      rintro e w2 ⟨f, i, st', hcl, rfl, hp2, hg2⟩
      have HI2 := Lib.hid (HI.out.call hlt hp2 hg2)
      have HCL := Lib.hid hcl
      clear HI hp2 hg2 hcl
      obtain ⟨c0, c1, c2, c3, c4, c5, c6⟩ := HI2.out.cells
      have fz : ∀ j, w2.frozen? ⟨w.heap.size, j, none⟩ = false := fun j => HI2.out.2.1.frozen j
      obtain ⟨kind, set, x, y⟩ := i
      simp only [cellsI]
      go_wp2_with fail
      go_ret
      have hg3 := grown_setCells w.heap.size (cellsI ⟨kind, set, x, y⟩) 0 w2
      exact atom_close2 (f := f + 1) (i := ⟨kind, set, x, y⟩) (st' := st') (wx := w2.setCells w.heap.size 0 (cellsI ⟨kind, set, x, y⟩)) (parse_class_eq H40.out H91.out HCL.out) (HI2.out.1.grown hg3 (by intro e; injection e; omega))
        (HI2.out.2.2.andThen hg3 (fun j hj => by injection hj; exact .inl (by omega))) (size_setCells _ _ _ _).symm (by simp only [cellsI, World.setCells])
    · have k91 := ne_u8 h91 (k := 91) rfl
      have H91 := Lib.hid h91
      clear h91
      obtain ⟨c0, c1, c2, c3, c4, c5, c6⟩ := HI.out.cells
      simp only [word_zero] at c0 c1 c2 c3 c4 c5 c6
      have fz : ∀ j, w1.frozen? ⟨w.heap.size, j, none⟩ = false := fun j => HI.out.2.1.frozen j
      by_cases h46 : st.next.1 = 46
      · have hk : (st.next.1.toNat : Int) = 46 := by rw [h46]; rfl
        rw [hk]
        have HA := Lib.hid (show simpleAtom st.next.1 st.next.2 = (⟨1, allBytes, 0, 0⟩, st.next.2) by unfold simpleAtom; rw [if_pos h46])
        clear h46 hk k40 k91
        go_wp2_with fail
        go_ret
        have hg3 := grown_setCells w.heap.size [.int .u64 18446744073709551615, .int .u64 18446744073709551615, .int .u64 18446744073709551615, .int .u64 18446744073709551615] 1 w1
        exact atom_close2 (f := 1) (wx := w1.setCells w.heap.size 1 [.int .u64 18446744073709551615, .int .u64 18446744073709551615, .int .u64 18446744073709551615, .int .u64 18446744073709551615]) (parse_simple_eq H40.out H91.out HA.out) (HI.out.1.grown hg3 (by intro e; injection e; omega))
          (HI.out.2.2.andThen hg3 (fun j hj => by injection hj; exact .inl (by omega))) (size_setCells _ _ _ _).symm (by rw [cells_all]; simp only [World.setCells])
      · have k46 := ne_u8 h46 (k := 46) rfl
        by_cases h94 : st.next.1 = 94
        · have hk : (st.next.1.toNat : Int) = 94 := by rw [h94]; rfl
          rw [hk]
          have HA := Lib.hid (show simpleAtom st.next.1 st.next.2 = (⟨4, 0, 0, 0⟩, st.next.2) by unfold simpleAtom; rw [if_neg h46, if_pos h94])
          clear h46 h94 hk k40 k91 k46
          go_wp2_with fail
          go_ret
          have hg3 : w1.grownBy (w1.setCell ⟨w.heap.size, 0, none⟩ (.int .i64 4)) (some w.heap.size) := only_setCell (World.grownBy.refl _ _) (.inl rfl) _
          exact atom_close2 (f := 1) (wx := w1.setCell ⟨w.heap.size, 0, none⟩ (.int .i64 4)) (parse_simple_eq H40.out H91.out HA.out) (HI.out.1.grown hg3 (by intro e; injection e; omega))
            (HI.out.2.2.andThen hg3 (fun j hj => by injection hj; exact .inl (by omega))) (by simp [World.setCell]) (by simp [cellsI, word_zero])
        · have k94 := ne_u8 h94 (k := 94) rfl
          by_cases h36 : st.next.1 = 36
          · have hk : (st.next.1.toNat : Int) = 36 := by rw [h36]; rfl
            rw [hk]
            have HA := Lib.hid (show simpleAtom st.next.1 st.next.2 = (⟨5, 0, 0, 0⟩, st.next.2) by unfold simpleAtom; rw [if_neg h46, if_neg h94, if_pos h36])
            clear h46 h94 h36 hk k40 k91 k46 k94
            go_wp2_with fail
            go_ret
            have hg3 : w1.grownBy (w1.setCell ⟨w.heap.size, 0, none⟩ (.int .i64 5)) (some w.heap.size) := only_setCell (World.grownBy.refl _ _) (.inl rfl) _
            exact atom_close2 (f := 1) (wx := w1.setCell ⟨w.heap.size, 0, none⟩ (.int .i64 5)) (parse_simple_eq H40.out H91.out HA.out) (HI.out.1.grown hg3 (by intro e; injection e; omega))
              (HI.out.2.2.andThen hg3 (fun j hj => by injection hj; exact .inl (by omega))) (by simp [World.setCell]) (by simp [cellsI, word_zero])
          · have k36 := ne_u8 h36 (k := 36) rfl
            by_cases h92 : st.next.1 = 92
            · have hk : (st.next.1.toNat : Int) = 92 := by rw [h92]; rfl
              rw [hk]
              have HA := Lib.hid (show simpleAtom st.next.1 st.next.2 = (⟨1, 2 ^ st.next.2.next.1.toNat, 0, 0⟩, st.next.2.next.2) by unfold simpleAtom; rw [if_neg h46, if_neg h94, if_neg h36, if_pos h92])
              clear h46 h94 h36 h92 hk k40 k91 k46 k94 k36 c0 c1 c2 c3 c4 c5 c6 fz
              go_wp2_with fail
              refine (next_any w1 g s st.next.2 HI.out.1 (by omega)).mono ?_
              rintro e w2 ⟨rfl, hp2, hg2⟩
              have HI2 := Lib.hid (HI.out.call hlt hp2 hg2)
              clear HI hp2 hg2
              go_wp2_with fail
              refine (has_nat w2 w.heap.size ⟨1, 0, 0, 0⟩ HI2.out.2.1 st.next.2.next.1.toNat (UInt8.toNat_lt _) _ rfl).mono ?_
              rintro e w3 ⟨rfl, hb3, hg3⟩
              have HI3 := Lib.hid (HI2.out.put hlt hb3 hg3)
              clear HI2 hb3 hg3
              obtain ⟨c0, c1, c2, c3, c4, c5, c6⟩ := HI3.out.cells
              simp only [Nat.zero_or] at c0 c1 c2 c3 c4 c5 c6
              go_wp2_with fail
              go_ret
              exact atom_close2 (f := 1) (wx := w3) (parse_simple_eq H40.out H91.out HA.out) HI3.out.1 HI3.out.2.2 rfl (by simp [cellsI])
            · have k92 := ne_u8 h92 (k := 92) rfl
              by_cases hm : isMeta st.next.1
              · have HA := Lib.hid (simple_meta st.next.2 h46 h94 h36 h92 hm)
                have HM := Lib.hid hm
                clear h46 h94 h36 h92 hm c0 c1 c2 c3 c4 c5 c6 fz
                go_wp2_with fail
                refine (meta_yes HM.out _).mono ?_
                rintro e w' ⟨⟨mi, hmi, rfl⟩, rfl⟩
                go_wp2_with fail
                refine (fails_any w1 g s st.next.2 HI.out.1 3 _ rfl).mono ?_
                rintro e w2 ⟨rfl, hp2, hg2⟩
                have HI2 := Lib.hid (HI.out.call hlt hp2 hg2)
                clear HI hp2 hg2
                obtain ⟨c0, c1, c2, c3, c4, c5, c6⟩ := HI2.out.cells
                go_wp2_with fail
                go_ret
                exact atom_close2 (f := 1) (wx := w2) (parse_simple_eq H40.out H91.out HA.out) HI2.out.1 HI2.out.2.2 rfl (by simp [cellsI, word_zero])
              · have HA := Lib.hid (simple_other st.next.2 h46 h94 h36 h92 hm)
                have HM := Lib.hid hm
                clear h46 h94 h36 h92 hm c0 c1 c2 c3 c4 c5 c6 fz
                go_wp2_with fail
                refine (meta_no HM.out _).mono ?_
                rintro e w' ⟨rfl, rfl⟩
                go_wp2_with fail
                refine (has_nat w1 w.heap.size ⟨1, 0, 0, 0⟩ HI.out.2.1 st.next.1.toNat (UInt8.toNat_lt _) _ rfl).mono ?_
                rintro e w3 ⟨rfl, hb3, hg3⟩
                have HI3 := Lib.hid (HI.out.put hlt hb3 hg3)
                clear HI hb3 hg3
                obtain ⟨c0, c1, c2, c3, c4, c5, c6⟩ := HI3.out.cells
                simp only [Nat.zero_or] at c0 c1 c2 c3 c4 c5 c6
                go_wp2_with fail
                go_ret
                exact atom_close2 (f := 1) (wx := w3) (parse_simple_eq H40.out H91.out HA.out) HI3.out.1 HI3.out.2.2 rfl (by simp [cellsI])
end Go.Proofs.Ythhgfahlamdgfaa
