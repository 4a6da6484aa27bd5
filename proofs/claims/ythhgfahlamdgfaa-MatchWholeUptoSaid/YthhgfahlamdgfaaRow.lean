/- row, group, pattern: by one induction on what is left -/
import Derived.Test.YthhgfahlamdgfaaPiece
namespace Go.Proofs.Ythhgfahlamdgfaa
open Go.RowKit

def RowSaid (n : Nat) : Prop := ∀ (w : World) (g : Nat) (s : ByteArray) (st : St), Pars w g s st → s.size ≤ 256 → st.rest.length ≤ n → st.deep ≤ 20 → Calls Try.prog 20 #[.pointer (some ⟨g, 0, none⟩)] w (ParsePost 1 [] w g s st)
def PatSaid (n : Nat) : Prop := ∀ (w : World) (g : Nat) (s : ByteArray) (st : St), Pars w g s st → s.size ≤ 256 → st.rest.length ≤ n → st.deep ≤ 20 → Calls Try.prog 16 #[.pointer (some ⟨g, 0, none⟩)] w (ParsePost 0 [] w g s st)

theorem piece_said {n : Nat} (h : AtomSaid n) : PieceSaid n := fun w g s st hp hs hn hd he => piece_any h w g s st hp hs hn hd he

/-- what a world of row has, in a round -/
def InRow (w : World) (g : Nat) (s : ByteArray) (st sx : St) (o : List Inst) (v : Value) (wx : World) : Prop :=
  InPiece w g s sx v o.length (flatI o) wx ∧ AllInside o ∧ o.length + room sx ≤ room st ∧ sx.deep = st.deep ∧ sx.rest.length ≤ st.rest.length ∧
    ∀ f a st', parse f 1 o sx = some (a, st') → ∃ f', parse f' 1 [] st = some (a, st')

theorem parse_row_stop {f : Nat} {o : List Inst} {st : St} (h : (st.ends || st.is 124 || st.is 41) = true) : parse (f + 1) 1 o st = some (o, st) := by
  rw [parse, if_pos h]
theorem parse_row_go {f f' : Nat} {o a : List Inst} {st s1 : St} {r : List Inst × St} (h0 : st.ends = false) (h1 : st.is 124 = false) (h2 : st.is 41 = false) (h : parse f 2 [] st = some (a, s1)) (hr : parse f' 1 (o ++ moved a o.length) s1 = some r) :
    parse (max f f' + 1) 1 o st = some r := by
  rw [parse, if_neg (by rw [h0, h1, h2]; simp), parse_le (Nat.le_max_left f f') h, Option.bind_some]
  exact parse_le (Nat.le_max_right f f') hr

theorem InRow.finish {w : World} {g : Nat} {s : ByteArray} {st sx : St} {o : List Inst} {v : Value} {wx : World} (h : InRow w g s st sx o v wx) (hstop : (sx.ends || sx.is 124 || sx.is 41) = true) :
    ParsePost 1 [] w g s st (.returned v) wx := by
  obtain ⟨f, hf⟩ := h.2.2.2.2.2 1 o sx (parse_row_stop hstop)
  exact ⟨f, o, sx, v, hf, rfl, h.1.2.1, h.1.1, h.1.2.2⟩

theorem InRow.call {w : World} {g : Nat} {s : ByteArray} {st sx : St} {o : List Inst} {v : Value} {wx wy : World} (h : InRow w g s st sx o v wx) (hlt : g < w.heap.size) (hp : Pars wy g s sx) (hg : wx.grownBy wy (some g)) : InRow w g s st sx o v wy :=
  ⟨h.1.call hlt hp hg, h.2⟩

set_option maxHeartbeats 4000000 in
theorem row_any {n : Nat} (hP : PieceSaid n) (w : World) (g : Nat) (s : ByteArray) (st : St) (h : Pars w g s st) (hs : s.size ≤ 256) (hn : st.rest.length ≤ n) (hd : st.deep ≤ 20) :
    Calls Try.prog 20 #[.pointer (some ⟨g, 0, none⟩)] w (ParsePost 1 [] w g s st) := by
  have hlt := h.lt
  have hrb := room_bound h hs
  have HIN := Lib.hid (show InRow w g s st st [] (.slice none 0 0) w from
    ⟨⟨h, World.ownsRow_nil _ _ _ _, World.grownBy.refl _ _⟩, (fun i hi => by cases hi), by simp, rfl, Nat.le_refl _, fun f a st' hp => ⟨f, hp⟩⟩)
  clear h
  obtain ⟨i0, hi, hz0, hz1, hz2⟩ := info_parts inst_info
  go_enter Try.func20, Try.ntmps20
  go_wp2_with fail
  go_loopg [3] st.rest.length (fun k v wx => ∃ sx o, InRow w g s st sx o v wx ∧ sx.rest.length ≤ k)
  case atStart => exact ⟨st, [], HIN.out, Nat.le_refl _⟩
  case round =>
    obtain ⟨sx, o, hin, hk⟩ := hrel
    obtain ⟨A, c, rfl, _⟩ := own_reads hin.1.2.1
    have HI := Lib.hid hin
    clear hin
    cases h0 : sx.ends
    · have H0 := Lib.hid h0
      clear h0
      cases h1 : sx.is 124
      · have H1 := Lib.hid h1
        clear h1
        cases h2 : sx.is 41
        · have H2 := Lib.hid h2
          clear h2
          go_wp2_with (first | (go_at_call 17; refine (ends_k _ g s sx HI.out.1.1).mono ?_; rw [H0.out]; rintro e w7 ⟨rfl, hp7, hg7⟩; have HI7 := Lib.hid (HI.out.call hlt hp7 hg7); clear HI hp7 hg7) | (go_at_call_of 21 (Value.int IntKind.u8 124); refine (is_k _ g s sx HI7.out.1.1 124 124 rfl).mono ?_; rw [H1.out]; rintro e w8 ⟨rfl, hp8, hg8⟩; have HI8 := Lib.hid (HI7.out.call hlt hp8 hg8); clear HI7 hp8 hg8) | (go_at_call_of 21 (Value.int IntKind.u8 41); refine (is_k _ g s sx HI8.out.1.1 41 41 rfl).mono ?_; rw [H2.out]; rintro e w9 ⟨rfl, hp8, hg8⟩; have HI9 := Lib.hid (HI8.out.call hlt hp8 hg8); clear HI8 hp8 hg8))
          have hdx : sx.deep ≤ 20 := by have := HI9.out.2.2.2.1; omega
          have hnx : sx.rest.length ≤ n := by have := HI9.out.2.2.2.2.1; omega
          refine (hP w9 g s sx HI9.out.1.1 hs hnx hdx H0.out).mono ?_
          rintro e w10 ⟨f, a, s1, v1, hpar, rfl, hown, hp1, hg1⟩
          obtain ⟨hle, hlen, hless⟩ := parse_bound hpar (fun _ => H0.out)
          rw [if_neg (by omega)] at hlen
          have hins := parse_inside hpar (by omega)
          have hdeep := parse_deep hpar
          have hless := hless (.inl rfl)
          have hol := HI9.out.2.2.1
          have hla : a.length ≤ 769 := by omega
          have hlo : o.length ≤ 769 := by omega
          have HX := Lib.hid (show ∀ i ∈ a, i.x ≤ 2000 ∧ i.y ≤ 2000 from fun i hi => by have := hins i hi; exact ⟨by have := this.1; omega, by have := this.2.1; omega⟩)
          obtain ⟨A1, c1, rfl, hr1⟩ := own_reads hown
          have HI10 := Lib.hid (HI9.out.1.call hlt hp1 hg1)
          have HF := Lib.hid (And.intro hpar (And.intro hlen (And.intro hins hdeep)))
          have HR := Lib.hid HI9.out.2
          clear HI9 hown hpar hlen hins hdeep hol hg1 hp1 hle
          go_wp2_with fail
          refine (moved_any w10 A1 a.length c1 a o.length _ rfl hr1 (by omega) (by omega) HX.out).mono ?_
          rintro e w11 ⟨v2, rfl, hown2, hb2⟩
          obtain ⟨A2, c2, rfl, hr2⟩ := own_reads hown2
          have HI11 := Lib.hid (HI10.out.below hb2)
          have s11 := HI11.out.2.2.size
          clear HI10 hown2 hb2 hr1
          go_wp2_with
            (at_builtin
             refine wpList_append_any _ rfl (.tmp 20) (.tmp 25) _ rfl w.heap.size 31 i0 _ 7 56 Try.underlying23 hi hz0 hz1 hz2 rfl (by omega) (.slice A o.length c) o.length (flatI o) rfl HI11.out.2.1 w11.heap.size A2 a.length c2 (flatI (moved a o.length)) rfl hr2 (flatI_one _) (by simp only [maxLen]; omega) (by omega) s11 ?_
             intro v3 w12 hown3 hg3 hat3
             have HI12 := Lib.hid (HI11.out.grow hlt HI11.out.2.1 hown3 hg3)
             clear HI11 hown3 hg3 hat3)
          go_roundg (gk - 1)
          case measure => omega
          case rel =>
            refine ⟨s1, o ++ moved a o.length, ⟨?_, ?_, ?_, ?_, ?_, ?_⟩, by omega⟩
            · have := HI12.out
              rw [← flatI_append] at this
              rw [List.length_append, moved_length]
              exact this
            · intro i hi
              rw [List.length_append, moved_length]
              rcases List.mem_append.1 hi with hi | hi
              · exact (HR.out.1 i hi).more (by omega)
              · exact (moved_inside HF.out.2.2.1 _ i hi).more (by omega)
            · have e1 := HF.out.2.1
              have e2 := HR.out.2.1
              rw [List.length_append, moved_length]
              omega
            · rw [HF.out.2.2.2]; exact HR.out.2.2.1
            · have e2 := HR.out.2.2.2.1
              omega
            · intro f2 a2 st2 hp2
              exact HR.out.2.2.2.2 _ a2 st2 (parse_row_go H0.out H1.out H2.out HF.out.1 hp2)
        · have H2 := Lib.hid h2
          clear h2
          go_wp2_with (first | (go_at_call 17; refine (ends_k _ g s sx HI.out.1.1).mono ?_; rw [H0.out]; rintro e w7 ⟨rfl, hp7, hg7⟩; have HI7 := Lib.hid (HI.out.call hlt hp7 hg7); clear HI hp7 hg7) | (go_at_call_of 21 (Value.int IntKind.u8 124); refine (is_k _ g s sx HI7.out.1.1 124 124 rfl).mono ?_; rw [H1.out]; rintro e w8 ⟨rfl, hp8, hg8⟩; have HI8 := Lib.hid (HI7.out.call hlt hp8 hg8); clear HI7 hp8 hg8) | (go_at_call_of 21 (Value.int IntKind.u8 41); refine (is_k _ g s sx HI8.out.1.1 41 41 rfl).mono ?_; rw [H2.out]; rintro e w9 ⟨rfl, hp8, hg8⟩; have HI9 := Lib.hid (HI8.out.call hlt hp8 hg8); clear HI8 hp8 hg8))
          go_ret
          exact HI9.out.finish (by rw [H2.out]; simp)
      · have H1 := Lib.hid h1
        clear h1
        go_wp2_with (first | (go_at_call 17; refine (ends_k _ g s sx HI.out.1.1).mono ?_; rw [H0.out]; rintro e w7 ⟨rfl, hp7, hg7⟩; have HI7 := Lib.hid (HI.out.call hlt hp7 hg7); clear HI hp7 hg7) | (go_at_call_of 21 (Value.int IntKind.u8 124); refine (is_k _ g s sx HI7.out.1.1 124 124 rfl).mono ?_; rw [H1.out]; rintro e w8 ⟨rfl, hp8, hg8⟩; have HI8 := Lib.hid (HI7.out.call hlt hp8 hg8); clear HI7 hp8 hg8))
        go_ret
        exact HI8.out.finish (by rw [H1.out]; simp)
    · have H0 := Lib.hid h0
      clear h0
      go_wp2_with (go_at_call 17; refine (ends_k _ g s sx HI.out.1.1).mono ?_; rw [H0.out]; rintro e w7 ⟨rfl, hp7, hg7⟩; have HI7 := Lib.hid (HI.out.call hlt hp7 hg7); clear HI hp7 hg7)
      go_ret
      exact HI7.out.finish (by rw [H0.out]; rfl)

theorem row_said {n : Nat} (h : PieceSaid n) : RowSaid n := fun w g s st hp hs hn hd => row_any h w g s st hp hs hn hd

theorem InPiece.start {w : World} {g : Nat} {s : ByteArray} {st : St} (h : Pars w g s st) : InPiece w g s st (.slice none 0 0) 0 [] w := ⟨h, World.ownsRow_nil _ _ _ _, World.grownBy.refl _ _⟩

/-- row and pattern where nothing is left: no piece is read -/
theorem row_zero : RowSaid 0 := row_said (n := 0) (fun w g s st hp hs hn hd he => by
  obtain ⟨_, c, r, hr⟩ := not_ends he
  rw [hr] at hn
  simp at hn)

theorem parse_group_ok {f : Nat} {st s1 : St} {a : List Inst} (hd : ¬ st.deep = 20) (h : parse f 0 [] { st with deep := st.deep + 1 } = some (a, s1)) : parse (f + 1) 4 [] st = some (a, closes s1) := by
  rw [parse, if_neg hd, h]; rfl

set_option maxHeartbeats 2000000 in
theorem group_any {n : Nat} (hP : PatSaid n) (w : World) (g : Nat) (s : ByteArray) (st : St) (h : Pars w g s st) (hs : s.size ≤ 256) (hn : st.rest.length ≤ n) (hd : st.deep ≤ 20) :
    Calls Try.prog 30 #[.pointer (some ⟨g, 0, none⟩)] w (ParsePost 4 [] w g s st) := by
  have hlt := h.lt
  obtain ⟨d2, df, HD⟩ := h.depth
  by_cases h20 : st.deep = 20
  · have hk : (st.deep : Int) = 20 := by omega
    have HP := Lib.hid h
    have H20 := Lib.hid h20
    rw [hk] at d2
    clear h h20 hk HD
    go_enter Try.func30, Try.ntmps30
    go_wp2_with fail
    refine (fails_any w g s st HP.out 4 _ rfl).mono ?_
    rintro e w2 ⟨rfl, hp2, hg2⟩
    go_wp2_with fail
    go_ret
    exact ⟨1, [], st.fails 4, _, by rw [parse, if_pos H20.out], rfl, World.ownsRow_nil _ _ _ _, hp2, hg2⟩
  · have hk : ((st.deep : Int) == 20) = false := beq_eq_false_iff_ne.2 (by omega)
    have hp1 := Lib.hid (HD.out (st.deep + 1) ((st.deep : Int) + 1) (by omega))
    have hg1 := only_setCell (World.grownBy.refl w (some g)) (p := ⟨g, 2, none⟩) (.inl rfl) (.int .i64 ((st.deep : Int) + 1))
    have H20 := Lib.hid h20
    clear h h20 HD
    go_enter Try.func30, Try.ntmps30
    go_wp2_with fail
    refine (hP _ g s _ hp1.out hs hn (by have := H20.out; simp only; omega)).mono ?_
    rintro e w2 ⟨f, a, s1, v, hpar, rfl, hown, hp2, hg2⟩
    obtain ⟨A, c, rfl, _⟩ := own_reads hown
    have hdeep := parse_deep hpar
    simp only at hdeep
    have HI := Lib.hid (show InPiece w g s s1 _ _ _ w2 from ⟨hp2, own_base hown hg1.size, hg1.trans hg2⟩)
    have HPAR := Lib.hid hpar
    clear hpar hown hp2 hg2 hg1 hp1
    go_wp2_with fail
    refine (next_any w2 g s s1 HI.out.1 (by omega)).mono ?_
    rintro e w3 ⟨rfl, hp3, hg3⟩
    have HI3 := Lib.hid (HI.out.call hlt hp3 hg3)
    clear HI hp3 hg3
    by_cases h41 : s1.next.1 = 41
    · have hk : (s1.next.1.toNat : Int) = 41 := by rw [h41]; rfl
      rw [hk]
      obtain ⟨e2, ef, HE⟩ := HI3.out.1.depth
      have hnd := next_deep s1
      have hc : closes s1 = { s1.next.2 with deep := s1.next.2.deep - 1 } := by unfold closes; rw [if_pos h41]
      have HC := Lib.hid hc
      clear h41 hk hc
      go_wp2_with fail
      go_ret
      have hp4 := HE.out (s1.next.2.deep - 1) (st.deep : Int) (by omega)
      have := HI3.out.call hlt hp4 (only_setCell (World.grownBy.refl _ _) (.inl rfl) _)
      rw [← HC.out] at this
      exact ⟨f + 1, a, closes s1, _, parse_group_ok H20.out HPAR.out, rfl, this.2.1, this.1, this.2.2⟩
    · have hk : ((s1.next.1.toNat : Int) != 41) = true := by
        rw [bne_iff_ne]; exact fun h => h41 (UInt8.toNat_inj.1 (by have : (41 : UInt8).toNat = 41 := rfl; omega))
      have hnd := next_deep s1
      have hnf := fails_deep s1.next.2 3
      have hc : closes s1 = { s1.next.2.fails 3 with deep := (s1.next.2.fails 3).deep - 1 } := by unfold closes; rw [if_neg h41]
      have HC := Lib.hid hc
      clear h41 hc
      go_wp2_with fail
      refine (fails_any w3 g s s1.next.2 HI3.out.1 3 _ rfl).mono ?_
      rintro e w4 ⟨rfl, hp4, hg4⟩
      have HI4 := Lib.hid (HI3.out.call hlt hp4 hg4)
      clear HI3 hp4 hg4
      obtain ⟨e2, ef, HE⟩ := HI4.out.1.depth
      go_wp2_with fail
      go_ret
      have hp5 := HE.out ((s1.next.2.fails 3).deep - 1) (st.deep : Int) (by omega)
      have := HI4.out.call hlt hp5 (only_setCell (World.grownBy.refl _ _) (.inl rfl) _)
      rw [← HC.out] at this
      exact ⟨f + 1, a, closes s1, _, parse_group_ok H20.out HPAR.out, rfl, this.2.1, this.1, this.2.2⟩

theorem parse_pat_one {f : Nat} {st s1 : St} {a : List Inst} (h : parse f 1 [] st = some (a, s1)) (hc : s1.is 124 = false) : parse (f + 1) 0 [] st = some (a, s1) := by
  rw [parse, h, Option.bind_some, if_neg (by rw [hc]; simp)]
theorem parse_pat_two {f f' : Nat} {st s1 s2 : St} {a b : List Inst} (h : parse f 1 [] st = some (a, s1)) (hc : s1.is 124 = true) (h2 : parse f' 0 [] s1.skip = some (b, s2)) : parse (max f f' + 1) 0 [] st = some (either a b, s2) := by
  rw [parse, parse_le (Nat.le_max_left f f') h, Option.bind_some, if_pos hc, parse_le (Nat.le_max_right f f') h2]; rfl

set_option maxHeartbeats 2000000 in
theorem pat_any {n : Nat} (hR : RowSaid n) (hP : ∀ m, m < n → PatSaid m) (w : World) (g : Nat) (s : ByteArray) (st : St) (h : Pars w g s st) (hs : s.size ≤ 256) (hn : st.rest.length ≤ n) (hd : st.deep ≤ 20) :
    Calls Try.prog 16 #[.pointer (some ⟨g, 0, none⟩)] w (ParsePost 0 [] w g s st) := by
  have hlt := h.lt
  have hrb := room_bound h hs
  go_enter Try.func16, Try.ntmps16
  go_wp2_with fail
  refine (hR w g s st h hs hn hd).mono ?_
  rintro e w1 ⟨f, a, s1, v1, hpar, rfl, hown, hp1, hg1⟩
  obtain ⟨A1, c1, rfl, hr1⟩ := own_reads hown
  obtain ⟨hle, hlen, _⟩ := parse_bound hpar (by omega)
  rw [if_pos rfl, List.length_nil] at hlen
  have hins := parse_inside hpar (fun _ i hi => by cases hi)
  have hdeep := parse_deep hpar
  have hll := hle.len
  have HI := Lib.hid (show InPiece w g s s1 _ _ _ w1 from ⟨hp1, hown, hg1⟩)
  have HPAR := Lib.hid hpar
  have HINS := Lib.hid hins
  clear hle hpar hown hp1 hg1 h hins hr1
  go_wp2_with fail
  refine (is_k w1 g s s1 HI.out.1 124 124 rfl).mono ?_
  cases h124 : s1.is 124
  · have HC := Lib.hid h124
    clear h124
    rintro e w2 ⟨rfl, hp2, hg2⟩
    have HI2 := Lib.hid (HI.out.call hlt hp2 hg2)
    clear HI hp2 hg2
    go_wp2_with fail
    go_ret
    exact ⟨f + 1, a, s1, _, parse_pat_one HPAR.out HC.out, rfl, HI2.out.2.1, HI2.out.1, HI2.out.2.2⟩
  · have HC := Lib.hid h124
    have hroom := is_room h124
    have HR := Lib.hid (is_rest h124)
    clear h124
    rintro e w2 ⟨rfl, hp2, hg2⟩
    have HI2 := Lib.hid (HI.out.call hlt hp2 hg2)
    clear HI hp2 hg2
    obtain ⟨at_, ha_, cA, fA, HS⟩ := HI2.out.1.step (by omega) HR.out
    have HI3 := Lib.hid (HI2.out.skip hlt HS)
    clear HS
    go_wp2_with fail
    refine (hP (n - 1) (by omega) _ g s s1.skip HI3.out.1 hs (by omega) (by show s1.deep ≤ 20; omega)).mono ?_
    rintro e w4 ⟨f4, b, s4, v4, hpar4, rfl, hown4, hp4, hg4⟩
    obtain ⟨A4, c4, rfl, hr4⟩ := own_reads hown4
    obtain ⟨hle4, hlen4, _⟩ := parse_bound hpar4 (by omega)
    rw [if_neg (by omega)] at hlen4
    have HINS4 := Lib.hid (parse_inside hpar4 (by omega))
    have HI4 := Lib.hid (HI3.out.call hlt hp4 hg4)
    have HPAR4 := Lib.hid hpar4
    clear HI2 HI3 hpar4 hown4 hp4 hg4 hle4 cA fA
    go_wp2_with fail
    refine (either_any w4 A1 A4 a.length b.length c1 c4 a b (Reads.of_own HI4.out.2.1) hr4 (by omega) (by omega) HINS.out HINS4.out rfl rfl).mono ?_
    rintro e w5 ⟨v5, rfl, hown5, hb5⟩
    have HI5 := Lib.hid (HI4.out.below hb5)
    go_wp2_with fail
    go_ret
    exact ⟨max f f4 + 1, either a b, s4, v5, parse_pat_two HPAR.out HC.out HPAR4.out, rfl, own_base hown5 HI4.out.2.2.size, HI5.out.1, HI5.out.2.2⟩

theorem pat_said : ∀ n, PatSaid n ∧ RowSaid n
  | 0 => ⟨fun w g s st hp hs hn hd => pat_any (n := 0) row_zero (fun m hm => absurd hm (Nat.not_lt_zero m)) w g s st hp hs hn hd, row_zero⟩
  | n + 1 => by
    have ih := (pat_said n).1
    have hG : GroupSaid n := fun w g s st hp hs hn hd => group_any ih w g s st hp hs hn hd
    have hR : RowSaid (n + 1) := row_said (piece_said (atom_said hG))
    refine ⟨fun w g s st hp hs hn hd => pat_any (n := n + 1) hR (fun m hm => ?_) w g s st hp hs hn hd, hR⟩
    exact fun w g s st hp hs hn hd => ih w g s st hp hs (by omega) hd
end Go.Proofs.Ythhgfahlamdgfaa
