/- piece, where atom is known -/
import Derived.Test.YthhgfahlamdgfaaEither
import Derived.Deep.RegionWith
namespace Go.Proofs.Ythhgfahlamdgfaa
open Go.RowKit

theorem fails_deep (st : St) (k : Nat) : (st.fails k).deep = st.deep := by unfold St.fails; split <;> rfl
theorem next_deep (st : St) : st.next.2.deep = st.deep := by
  unfold St.next; split
  · exact fails_deep _ _
  · rfl
theorem member_deep (st : St) : st.member.2.deep = st.deep := by
  unfold St.member; split
  · rw [next_deep, next_deep]
  · exact next_deep _
theorem second_deep (st : St) (a : UInt8) : (st.second a).2.deep = st.deep := by
  unfold St.second; split
  · rw [member_deep]; rfl
  · rfl
theorem order_deep (st : St) (a b : UInt8) : (st.order a b).deep = st.deep := by
  unfold St.order; split
  · exact fails_deep _ _
  · rfl
theorem classLoop_deep : ∀ {f : Nat} {st : St} {m : Nat} {r : Nat × St}, classLoop f st m = some r → r.2.deep = st.deep
  | 0, _, _, _, h => by cases h
  | f + 1, st, m, r, h => by
    unfold classLoop at h
    split at h
    · cases h; rfl
    · rw [classLoop_deep h, order_deep, second_deep, member_deep]
theorem classStart_deep (st : St) : (classStart st).deep = st.deep := by
  have h : (if st.is 94 = true then st.skip else st).deep = st.deep := by split <;> rfl
  unfold classStart
  simp only
  generalize (if st.is 94 = true then st.skip else st) = x at h
  split
  · rw [fails_deep]; exact h
  · exact h
theorem classOf_deep {f : Nat} {st : St} {r : Inst × St} (h : classOf f st = some r) : r.2.deep = st.deep := by
  unfold classOf at h
  obtain ⟨q, hq, hr⟩ := Option.bind_eq_some_iff.1 h
  cases hr
  rw [next_deep, classLoop_deep hq, classStart_deep]
theorem simpleAtom_deep (c : UInt8) (st : St) : (simpleAtom c st).2.deep = st.deep := by
  unfold simpleAtom
  repeat' split
  all_goals first | rfl | exact next_deep _ | exact fails_deep _ _
theorem often_deep (a : List Inst) (st : St) : (often a st).2.deep = st.deep := by
  unfold often
  repeat' split
  all_goals rfl
theorem closes_deep (st : St) : (closes st).deep = st.deep - 1 := by
  unfold closes
  simp only
  split
  · rw [next_deep]
  · rw [fails_deep, next_deep]

theorem parse_deep : ∀ {f t : Nat} {out : List Inst} {st : St} {a : List Inst} {st' : St}, parse f t out st = some (a, st') → st'.deep = st.deep
  | 0, _, _, _, _, _, h => by simp [parse] at h
  | f + 1, 0, out, st, a, st', h => by
    rw [parse] at h
    obtain ⟨⟨a1, s1⟩, hq, hr⟩ := Option.bind_eq_some_iff.1 h
    have b1 := parse_deep hq
    simp only at hr
    split at hr
    · obtain ⟨⟨a2, s2⟩, hq2, hr2⟩ := Option.bind_eq_some_iff.1 hr
      have c1 := parse_deep hq2
      cases hr2
      rw [c1]; exact b1
    · cases hr; exact b1
  | f + 1, 1, out, st, a, st', h => by
    rw [parse] at h
    split at h
    · cases h; rfl
    · obtain ⟨⟨a1, s1⟩, hq, hr⟩ := Option.bind_eq_some_iff.1 h
      rw [parse_deep hr]; exact parse_deep hq
  | f + 1, 2, out, st, a, st', h => by
    rw [parse] at h
    obtain ⟨⟨a1, s1⟩, hq, hr⟩ := Option.bind_eq_some_iff.1 h
    obtain ⟨rfl, rfl⟩ : a = (often a1 s1).1 ∧ st' = (often a1 s1).2 := by rw [Option.some.inj hr]; exact ⟨rfl, rfl⟩
    rw [often_deep]; exact parse_deep hq
  | f + 1, 3, out, st, a, st', h => by
    rw [parse] at h
    split at h
    · rw [parse_deep h, next_deep]
    · split at h
      · obtain ⟨⟨i, s1⟩, hq, hr⟩ := Option.bind_eq_some_iff.1 h
        cases hr
        have := classOf_deep hq
        simp only at this ⊢
        rw [this, next_deep]
      · cases h; rw [simpleAtom_deep, next_deep]
  | f + 1, 4, out, st, a, st', h => by
    rw [parse] at h
    split at h
    · cases h; exact fails_deep _ _
    · obtain ⟨⟨a1, s1⟩, hq, hr⟩ := Option.bind_eq_some_iff.1 h
      have := parse_deep hq
      cases hr
      rw [closes_deep]
      simp only at this ⊢
      omega
  | f + 1, t + 5, out, st, a, st', h => by simp [parse] at h

def AtomSaid (n : Nat) : Prop := ∀ (w : World) (g : Nat) (s : ByteArray) (st : St), Pars w g s st → s.size ≤ 256 → st.rest.length ≤ n → st.deep ≤ 20 → st.ends = false → Calls Try.prog 28 #[.pointer (some ⟨g, 0, none⟩)] w (ParsePost 3 [] w g s st)
def PieceSaid (n : Nat) : Prop := ∀ (w : World) (g : Nat) (s : ByteArray) (st : St), Pars w g s st → s.size ≤ 256 → st.rest.length ≤ n → st.deep ≤ 20 → st.ends = false → Calls Try.prog 25 #[.pointer (some ⟨g, 0, none⟩)] w (ParsePost 2 [] w g s st)

theorem atom_said {n : Nat} (h : GroupSaid n) : AtomSaid (n + 1) := fun w g s st hp hs hn hd he => atom_any h w g s st hp hs hn hd he

theorem Pars.rest_le {w : World} {g : Nat} {s : ByteArray} {st : St} (h : Pars w g s st) : st.rest.length ≤ s.size := by
  obtain ⟨a, h1, h2, _⟩ := h
  rw [← h2, List.length_drop]
  have : s.data.toList.length = s.size := by simp
  omega

theorem room_bound {w : World} {g : Nat} {s : ByteArray} {st : St} (h : Pars w g s st) (hs : s.size ≤ 256) : room st ≤ 769 := by
  have := h.rest_le
  unfold room
  split <;> omega

theorem own_ne {w : World} {base e size n g : Nat} {v : Value} {xs : List Value} (h : w.ownsRow base e size v n xs) (hg : g < base) : v.ownBlock = none ∨ v.ownBlock ≠ some g := by
  cases hv : v.ownBlock with
  | none => exact .inl rfl
  | some k => exact .inr (fun e => by injection e with e; have := (h.lt k hv).1; omega)

/-- what a world of piece has -/
def InPiece (w : World) (g : Nat) (s : ByteArray) (st : St) (v : Value) (n : Nat) (xs : List Value) (wx : World) : Prop :=
  Pars wx g s st ∧ wx.ownsRow w.heap.size 31 7 v n xs ∧ w.grownBy wx (some g)
theorem InPiece.call {w : World} {g : Nat} {s : ByteArray} {st st' : St} {v : Value} {n : Nat} {xs : List Value} {wx wy : World} (h : InPiece w g s st v n xs wx) (hlt : g < w.heap.size) (hp : Pars wy g s st') (hg : wx.grownBy wy (some g)) : InPiece w g s st' v n xs wy :=
  ⟨hp, h.2.1.kept hg (own_ne h.2.1 hlt), h.2.2.trans hg⟩
theorem InPiece.below {w : World} {g : Nat} {s : ByteArray} {st : St} {v : Value} {n : Nat} {xs : List Value} {wx wy : World} (h : InPiece w g s st v n xs wx) (hb : Below wx.heap.size wx wy) : InPiece w g s st v n xs wy :=
  ⟨h.1.below hb, below_own h.2.1 hb, h.2.2.trans (only_of_below hb)⟩
theorem InPiece.grow {w : World} {g : Nat} {s : ByteArray} {st : St} {v v' v0 : Value} {n n' n0 : Nat} {xs xs' xs0 : List Value} {wx wy : World} (h : InPiece w g s st v n xs wx) (hlt : g < w.heap.size) (h0 : wx.ownsRow w.heap.size 31 7 v0 n0 xs0) (hown : wy.ownsRow w.heap.size 31 7 v' n' xs') (hg : wx.grownBy wy v0.ownBlock) : InPiece w g s st v' n' xs' wy :=
  ⟨h.1.grown hg (by intro e; have := (h0.lt g e.symm).1; omega), hown, h.2.2.andThen hg (fun j hj => .inl (h0.lt j hj).1)⟩

theorem InPiece.lit {w : World} {g : Nat} {s : ByteArray} {st : St} {v : Value} {n : Nat} {xs : List Value} {wx : World} (h : InPiece w g s st v n xs wx) (i : Inst) :
    InPiece w g s st v n xs (wx.alloc (.cells (cellsI i).toArray 31)) ∧ (wx.alloc (.cells (cellsI i).toArray 31)).ownsRow w.heap.size 31 7 (.slice (some ⟨wx.heap.size, 0, none⟩) 1 1) 1 (flatI [i]) :=
  ⟨h.below ((Below.refl _ _).alloc (Nat.le_refl _) _), own_lit i h.2.2.size⟩

theorem InPiece.skip {w : World} {g : Nat} {s : ByteArray} {st : St} {v : Value} {n : Nat} {xs : List Value} {wx : World} (h : InPiece w g s st v n xs wx) (hlt : g < w.heap.size) {x : Int}
    (hp : Hid (Pars (wx.setCell ⟨g, 1, none⟩ (.int .i64 x)) g s st.skip)) : InPiece w g s st.skip v n xs (wx.setCell ⟨g, 1, none⟩ (.int .i64 x)) :=
  h.call hlt hp.out (only_setCell (World.grownBy.refl _ _) (.inl rfl) _)

theorem piece_close {w wx : World} {g : Nat} {s : ByteArray} {st st' : St} {f n : Nat} {a : List Inst} {v : Value} (hp : parse f 2 [] st = some (a, st')) (hn : a.length = n) (h : InPiece w g s st' v n (flatI a) wx) :
    ParsePost 2 [] w g s st (.returned v) wx := by
  subst hn
  exact ⟨f, a, st', v, hp, rfl, h.2.1, h.1, h.2.2⟩

theorem parse_piece_eq {f : Nat} {st s1 st' : St} {a b : List Inst} (h : parse f 3 [] st = some (a, s1)) (ho : often a s1 = (b, st')) : parse (f + 1) 2 [] st = some (b, st') := by
  rw [parse, h, Option.bind_some, ho]

set_option maxHeartbeats 4000000 in
theorem piece_any {n : Nat} (hA : AtomSaid n) (w : World) (g : Nat) (s : ByteArray) (st : St) (h : Pars w g s st) (hs : s.size ≤ 256) (hn : st.rest.length ≤ n) (hd : st.deep ≤ 20) (hne : st.ends = false) :
    Calls Try.prog 25 #[.pointer (some ⟨g, 0, none⟩)] w (ParsePost 2 [] w g s st) := by
  have hlt := h.lt
  have hrb := room_bound h hs
  obtain ⟨i0, hi, hz0, hz1, hz2⟩ := info_parts inst_info
  go_enter Try.func25, Try.ntmps25
  go_wp2_with fail
  refine (hA w g s st h hs hn hd hne).mono ?_
  rintro e w1 ⟨f, a, s1, v1, hpar, rfl, hown, hp1, hg1⟩
  obtain ⟨hle, hlen, _⟩ := parse_bound hpar (fun _ => hne)
  rw [if_neg (by omega)] at hlen
  have hla : a.length ≤ 769 := by omega
  have hins := parse_inside hpar (by omega)
  have HX := Lib.hid (show ∀ i ∈ a, i.x ≤ 2000 ∧ i.y ≤ 2000 from fun i hi => by have := hins i hi; exact ⟨by have := this.1; omega, by have := this.2.1; omega⟩)
  have HPAR := Lib.hid hpar
  obtain ⟨A1, c1, rfl, _⟩ := own_reads hown
  have HI := Lib.hid (show InPiece w g s s1 _ _ _ w1 from ⟨hp1, hown, hg1⟩)
  clear hle hlen hins hpar hown hp1 hg1 h hrb
  generalize hal : a.length = la at HI hla
  have HAL := Lib.hid hal
  clear hal
  cases h42 : s1.is 42
  · have H42 := Lib.hid h42
    clear h42
    cases h43 : s1.is 43
    · have H43 := Lib.hid h43
      clear h43
      cases h63 : s1.is 63
      · have H63 := Lib.hid h63
        clear h63
        go_wp2_with (first | (go_at_call_of 21 (Value.int IntKind.u8 42); refine (is_k _ g s s1 HI.out.1 42 42 rfl).mono ?_; rw [H42.out]; rintro e w2 ⟨rfl, hp2, hg2⟩; have HI2 := Lib.hid (HI.out.call hlt hp2 hg2); clear HI hp2 hg2) | (go_at_call_of 21 (Value.int IntKind.u8 43); refine (is_k _ g s s1 HI2.out.1 43 43 rfl).mono ?_; rw [H43.out]; rintro e w3 ⟨rfl, hp2, hg2⟩; have HI3 := Lib.hid (HI2.out.call hlt hp2 hg2); clear HI2 hp2 hg2) | (go_at_call_of 21 (Value.int IntKind.u8 63); refine (is_k _ g s s1 HI3.out.1 63 63 rfl).mono ?_; rw [H63.out]; rintro e w4 ⟨rfl, hp2, hg2⟩; have HI4 := Lib.hid (HI3.out.call hlt hp2 hg2); clear HI3 hp2 hg2))
        go_ret
        exact piece_close (parse_piece_eq HPAR.out (by unfold often; rw [if_neg (by rw [H42.out]; simp), if_neg (by rw [H43.out]; simp), if_neg (by rw [H63.out]; simp)])) HAL.out HI4.out
      · have H63 := Lib.hid h63
        have HR := Lib.hid (is_rest h63)
        clear h63
        go_wp2_with (first | (go_at_call_of 21 (Value.int IntKind.u8 42); refine (is_k _ g s s1 HI.out.1 42 42 rfl).mono ?_; rw [H42.out]; rintro e w2 ⟨rfl, hp2, hg2⟩; have HI2 := Lib.hid (HI.out.call hlt hp2 hg2); clear HI hp2 hg2) | (go_at_call_of 21 (Value.int IntKind.u8 43); refine (is_k _ g s s1 HI2.out.1 43 43 rfl).mono ?_; rw [H43.out]; rintro e w3 ⟨rfl, hp2, hg2⟩; have HI3 := Lib.hid (HI2.out.call hlt hp2 hg2); clear HI2 hp2 hg2) | (go_at_call_of 21 (Value.int IntKind.u8 63); refine (is_k _ g s s1 HI3.out.1 63 63 rfl).mono ?_; rw [H63.out]; rintro e w4 ⟨rfl, hp2, hg2⟩; have HI4 := Lib.hid (HI3.out.call hlt hp2 hg2); clear HI3 hp2 hg2))
        obtain ⟨hin3, hlit⟩ := HI4.out.lit ⟨2, 0, 1, la + 1⟩
        have ew : (cellsI ⟨2, 0, 1, la + 1⟩).toArray = #[.int .i64 2, .int .u64 0, .int .u64 0, .int .u64 0, .int .u64 0, .int .i64 1, .int .i64 ((la : Int) + 1)] := by simp [cellsI, word_zero]
        rw [ew] at hin3 hlit
        clear HI4 ew
        generalize w4.heap.size = B2 at hlit ⊢
        generalize w4.alloc (Obj.cells #[.int .i64 2, .int .u64 0, .int .u64 0, .int .u64 0, .int .u64 0, .int .i64 1, .int .i64 ((la : Int) + 1)] 31) = w5 at hin3 hlit ⊢
        refine (moved_any w5 A1 la c1 a 1 1 rfl (Reads.of_own hin3.2.1) (by omega) (by omega) HX.out).mono ?_
        rintro e w6 ⟨v6, rfl, hown6, hb6⟩
        obtain ⟨A6, c6, rfl, hr6⟩ := own_reads hown6
        have hlit6 := below_own hlit hb6
        have HI6 := Lib.hid (hin3.below hb6)
        clear hin3 hlit hown6 hb6
        have s6 := HI6.out.2.2.size
        go_wp2_with
          (at_builtin
           refine wpList_append_any _ rfl (.tmp 39) (.tmp 41) _ rfl w.heap.size 31 i0 _ 7 56 Try.underlying23 hi hz0 hz1 hz2 rfl (by omega) (.slice (some ⟨B2, 0, none⟩) 1 1) 1 (flatI [⟨2, 0, 1, la + 1⟩]) rfl hlit6 w6.heap.size A6 la c6 (flatI (moved a 1)) rfl hr6 (flatI_one _) (by simp only [maxLen]; omega) (by omega) ?_ ?_
           · exact s6
           intro v7 w7 hown7 hg7 hat7
           have HI7 := Lib.hid (HI6.out.grow hlt hlit6 hown7 hg7)
           obtain ⟨at_, ha_, cA, fA, HS⟩ := HI7.out.1.step (by omega) HR.out
           clear HI6 hg7 hat7 hown7)
        go_ret
        have hlen : (⟨2, 0, 1, a.length + 1⟩ :: moved a 1 : List Inst).length = 1 + la := by simp [moved_length, HAL.out]; omega
        refine piece_close (parse_piece_eq HPAR.out (by unfold often; rw [if_neg (by rw [H42.out]; simp), if_neg (by rw [H43.out]; simp), if_pos H63.out])) hlen ?_
        have := HI7.out.skip hlt HS
        simpa [flatI, HAL.out] using this
    · have H43 := Lib.hid h43
      have HR := Lib.hid (is_rest h43)
      clear h43
      go_wp2_with (first
        | (go_at_call_of 21 (Value.int IntKind.u8 42); refine (is_k _ g s s1 HI.out.1 42 42 rfl).mono ?_; rw [H42.out]; rintro e w2 ⟨rfl, hp2, hg2⟩; have HI2 := Lib.hid (HI.out.call hlt hp2 hg2); clear HI hp2 hg2) | (go_at_call_of 21 (Value.int IntKind.u8 43); refine (is_k _ g s s1 HI2.out.1 43 43 rfl).mono ?_; rw [H43.out]; rintro e w3 ⟨rfl, hp2, hg2⟩; have HI3 := Lib.hid (HI2.out.call hlt hp2 hg2); clear HI2 hp2 hg2)
        | (at_builtin
           refine wpList_append_any _ rfl (.tmp 27) (.tmp 31) _ rfl w.heap.size 31 i0 _ 7 56 Try.underlying23 hi hz0 hz1 hz2 rfl (by omega) (.slice A1 la c1) la (flatI a) rfl (HI3.out.2.1.alloc _) (w3.heap.size + 1) (some ⟨w3.heap.size, 0, none⟩) 1 1 (flatI [⟨2, 0, 0, la + 1⟩]) rfl ?_ (flatI_one _) (by simp only [maxLen]; omega) (by omega) ?_ ?_
           · simpa [cellsI, word_zero] using Reads.of_own (HI3.out.lit ⟨2, 0, 0, la + 1⟩).2
           · have := HI3.out.2.2.size; simp; omega
           intro v6 w6 hown6 hg6 hat6
           have HI6 := Lib.hid ((HI3.out.below ((Below.refl _ _).alloc (Nat.le_refl _) (Obj.cells #[.int .i64 2, .int .u64 0, .int .u64 0, .int .u64 0, .int .u64 0, .int .i64 0, .int .i64 ((la : Int) + 1)] 31))).grow hlt (HI3.out.2.1.alloc _) hown6 hg6)
           obtain ⟨at_, ha_, cA, fA, HS⟩ := HI6.out.1.step (by omega) HR.out
           clear HI3 hg6 hat6 hown6))
      go_ret
      have hlen : (a ++ [⟨2, 0, 0, a.length + 1⟩] : List Inst).length = la + 1 := by simp [HAL.out]
      refine piece_close (parse_piece_eq HPAR.out (by unfold often; rw [if_neg (by rw [H42.out]; simp), if_pos H43.out])) hlen ?_
      have := HI6.out.skip hlt HS
      simpa [flatI, HAL.out] using this
  · have H42 := Lib.hid h42
    have HR := Lib.hid (is_rest h42)
    clear h42
    go_wp2_with (first | (go_at_call 21; refine (is_k _ g s s1 HI.out.1 42 42 rfl).mono ?_; rw [H42.out]; rintro e w2 ⟨rfl, hp2, hg2⟩; have HI2 := Lib.hid (HI.out.call hlt hp2 hg2); clear HI hp2 hg2))
    obtain ⟨hin3, hlit⟩ := HI2.out.lit ⟨2, 0, 1, la + 2⟩
    have ew : (cellsI ⟨2, 0, 1, la + 2⟩).toArray = #[.int .i64 2, .int .u64 0, .int .u64 0, .int .u64 0, .int .u64 0, .int .i64 1, .int .i64 ((la : Int) + 2)] := by simp [cellsI, word_zero]
    rw [ew] at hin3 hlit
    clear HI2 ew
    generalize w2.heap.size = B2 at hlit ⊢
    generalize w2.alloc (Obj.cells #[.int .i64 2, .int .u64 0, .int .u64 0, .int .u64 0, .int .u64 0, .int .i64 1, .int .i64 ((la : Int) + 2)] 31) = w3 at hin3 hlit ⊢
    refine (moved_any w3 A1 la c1 a 1 1 rfl (Reads.of_own hin3.2.1) (by omega) (by omega) HX.out).mono ?_
    rintro e w4 ⟨v4, rfl, hown4, hb4⟩
    obtain ⟨A4, c4, rfl, hr4⟩ := own_reads hown4
    have hlit4 := below_own hlit hb4
    have HI4 := Lib.hid (hin3.below hb4)
    clear hin3 hlit hown4 hb4
    have s4 := HI4.out.2.2.size
    go_wp2_with (first
      | (at_builtin
         refine wpList_append_any _ rfl (.tmp 16) (.tmp 18) _ rfl w.heap.size 31 i0 _ 7 56 Try.underlying23 hi hz0 hz1 hz2 rfl (by omega) (.slice (some ⟨B2, 0, none⟩) 1 1) 1 (flatI [⟨2, 0, 1, la + 2⟩]) rfl hlit4 w4.heap.size A4 la c4 (flatI (moved a 1)) rfl hr4 (flatI_one _) (by simp only [maxLen]; omega) (by omega) ?_ ?_
         · exact s4
         intro v5 w5 hown5 hg5 hat5
         have HI5 := Lib.hid (HI4.out.grow hlt hlit4 hown5 hg5)
         have s5 := HI5.out.2.2.size
         clear HI4 hg5 hat5 hown5)
      | (at_builtin
         refine wpList_append_any _ rfl (.tmp 20) (.tmp 22) _ rfl w.heap.size 31 i0 _ 7 56 Try.underlying23 hi hz0 hz1 hz2 rfl (by omega) v5 (1 + la) (flatI [⟨2, 0, 1, la + 2⟩] ++ flatI (moved a 1)) rfl (HI5.out.2.1.alloc _) (w5.heap.size + 1) (some ⟨w5.heap.size, 0, none⟩) 1 1 (flatI [⟨3, 0, 0, 0⟩]) rfl ?_ (flatI_one _) (by simp only [maxLen]; omega) (by omega) ?_ ?_
         · simpa [cellsI, word_zero] using Reads.of_own (HI5.out.lit ⟨3, 0, 0, 0⟩).2
         · simp; omega
         intro v6 w6 hown6 hg6 hat6
         have HI6 := Lib.hid ((HI5.out.below ((Below.refl _ _).alloc (Nat.le_refl _) (Obj.cells #[.int .i64 3, .int .u64 0, .int .u64 0, .int .u64 0, .int .u64 0, .int .i64 0, .int .i64 0] 31))).grow hlt (HI5.out.2.1.alloc _) hown6 hg6)
         obtain ⟨at_, ha_, cA, fA, HS⟩ := HI6.out.1.step (by omega) HR.out
         clear HI5 hg6 hat6 hown6))
    go_ret
    have hlen : ((⟨2, 0, 1, a.length + 2⟩ :: moved a 1) ++ [⟨3, 0, 0, 0⟩] : List Inst).length = 1 + la + 1 := by simp [moved_length, HAL.out]; omega
    refine piece_close (parse_piece_eq HPAR.out (by unfold often; rw [if_pos H42.out])) hlen ?_
    have := HI6.out.skip hlt HS
    simpa [flatI, HAL.out] using this
end Go.Proofs.Ythhgfahlamdgfaa
