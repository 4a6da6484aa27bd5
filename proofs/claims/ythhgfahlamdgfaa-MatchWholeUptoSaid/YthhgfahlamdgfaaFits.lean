/- fits: whether a text, or a part of it, fits a pattern -/
import Derived.Test.YthhgfahlamdgfaaTakes
import Derived.Test.YthhgfahlamdgfaaMatchLaw
import Derived.Test.YthhgfahlamdgfaaPairs
namespace Go.Proofs.Ythhgfahlamdgfaa
open Go.RowKit

theorem sound_of {x : List Inst} (hx : AllInside x) : Sound (x ++ [done]) := by
  intro k hk
  have hl : (x ++ [done]).length = x.length + 1 := by simp
  rw [hl] at hk ⊢
  rcases Nat.lt_or_ge k x.length with h | h
  · rw [getD_left _ h]
    have := hx _ (List.getElem_mem h)
    obtain ⟨h1, h2, h3, h4, _⟩ := this
    rw [show x.getD k zeroI = x[k] by simp [List.getD, List.getElem?_eq_getElem h]]
    exact ⟨h3, by omega, by omega, by omega, fun _ => by omega⟩
  · obtain rfl : k = x.length := by omega
    have := getD_right x [done] 0
    rw [Nat.add_zero] at this
    rw [this]
    exact ⟨by decide, by decide, Nat.succ_pos _, Nat.succ_pos _, fun h => absurd h (by decide)⟩

theorem empty_list (t : ByteArray) : t.toList.isEmpty = (t.size == 0) := by
  rw [ByteArray.toList_eq, ← size_list]
  cases t.data.toList <;> rfl

/-- where it may begin -/
def Start (whole : Bool) (i : Nat) : Prop := whole = true → i = 0
/-- it wasn't found ahead -/
def Ahead (P : List Inst) (t : List UInt8) (whole : Bool) (j : Nat) : Prop := whole = false → ∀ i j' k, j' < j → i ≤ j' → Goes P t i 0 j' k → (P.getD k zeroI).kind ≠ 6

theorem fits_early {P : List Inst} {t : List UInt8} {j : Nat} {M : List Bool} {d : Bool} (hm : MarksAt P t (Start false) j M) (hd : DoneOf P M d) (hj : j ≤ t.length) (h : d = true) : FindAcc P t := by
  obtain ⟨k, hk, h6⟩ := hd.1 h
  obtain ⟨i, _, hi, hg⟩ := (hm k).1 hk
  exact ⟨i, j, k, by omega, hg, h6⟩
theorem Ahead.more {P : List Inst} {t : List UInt8} {j : Nat} {M : List Bool} {d whole : Bool} (ha : Ahead P t whole j) (hm : MarksAt P t (Start whole) j M) (hd : DoneOf P M d) (h : whole = false → d = false) : Ahead P t whole (j + 1) := by
  intro hw i j' k hj hi hg h6
  rcases Nat.lt_or_ge j' j with h1 | h1
  · exact ha hw i j' k h1 hi hg h6
  · obtain rfl : j' = j := by omega
    have hin : In M k := (hm k).2 ⟨i, fun h => (by rw [hw] at h; cases h), hi, hg⟩
    have := hd.2 ⟨k, hin, h6⟩
    rw [h hw] at this
    cases this
theorem fits_end {P : List Inst} {t : List UInt8} {M : List Bool} {d whole : Bool} (ha : Ahead P t whole t.length) (hm : MarksAt P t (Start whole) t.length M) (hd : DoneOf P M d) :
    d = true ↔ if whole = true then WholeAcc P t else FindAcc P t := by
  rw [show d = true ↔ _ from hd]
  cases whole
  · rw [if_neg (by decide)]
    constructor
    · rintro ⟨k, hk, h6⟩
      obtain ⟨i, _, hi, hg⟩ := (hm k).1 hk
      exact ⟨i, _, k, hi, hg, h6⟩
    · rintro ⟨i, j, k, hi, ⟨n, hg⟩, h6⟩
      have hj := hg.end_ hi
      have hij := hg.le
      rcases Nat.lt_or_ge j t.length with h1 | h1
      · exact absurd h6 (ha rfl i j k h1 hij ⟨n, hg⟩)
      · obtain rfl : j = t.length := by omega
        exact ⟨k, (hm k).2 ⟨i, (fun h => by cases h), hi, ⟨n, hg⟩⟩, h6⟩
  · rw [if_pos rfl]
    constructor
    · rintro ⟨k, hk, h6⟩
      obtain ⟨i, hi0, hi, hg⟩ := (hm k).1 hk
      rw [hi0 rfl] at hg
      exact ⟨k, hg, h6⟩
    · rintro ⟨k, hg, h6⟩
      exact ⟨k, (hm k).2 ⟨0, fun _ => rfl, Nat.zero_le _, hg⟩, h6⟩

set_option maxRecDepth 100000 in
set_option maxHeartbeats 4000000 in
theorem fits_any (w : World) (p t : ByteArray) (whole : Bool) (hp : p.size ≤ 9223372036854775807) : Calls Try.prog 19 #[.string p, .string t, .bool whole] w fun e w' =>
    ∃ r k, Fits p.data.toList t.data.toList whole r k ∧ e = .returned (.tuple #[.bool r, .int .i64 (k : Int)]) ∧ Below w.heap.size w w' := by
  by_cases hs : t.size ≤ 256
  · go_enter Try.func19, Try.ntmps19
    go_wp2_with fail
    refine (compile_reads w p hp).mono ?_
    rintro e w1 ⟨P, k, A, c, hc, rfl, hr, hb⟩
    rcases compiles_split hc with ⟨hk, rfl⟩ | ⟨rfl, x, rfl, hx⟩
    · have hn := neq_of hk
      have HC := Lib.hid hc
      have HB := Lib.hid hb
      clear hr hb hc
      go_wp2_with fail
      go_ret2
      exact ⟨false, k, .inr ⟨by simpa using hs, .inl ⟨hk, rfl, HC.out⟩⟩, rfl, HB.out⟩
    · have hsound := sound_of hx.inside
      obtain ⟨x', hxe, _, hpl⟩ := hc.alone
      have hlen := parse_lt hx
      have hPl : (x ++ [done]).length = x.length + 1 := by simp
      have hlen2 : (x ++ [done]).length ≤ 1000 := by omega
      have hpos : 0 < (x ++ [done]).length := by omega
      clear hxe hpl hlen hPl
      generalize x ++ [done] = P at hc hr hsound hlen2 hpos ⊢
      have HC := Lib.hid hc
      have HB := Lib.hid hb
      have hmk := run_make_row' (P := Try.prog) 50 4 (.bool false) 1 Try.underlying50 bool_info rfl .i64 .i64 P.length (by omega) (by omega)
      have HN := Lib.hid (newWays_ways (c := c) hr (Nat.le_refl _))
      have HNB := Lib.hid (newWays_below w1 A c P.length)
      clear hc hb hr hx
      have hte := empty_list t
      have htl : t.data.toList.length = t.size := size_list t
      go_wp2_with fail
      refine (enter_any _ w1.heap.size (w1.heap.size + 1) w1.heap.size c 0 A P (List.replicate P.length false) false true _ HN.out hsound hlen2 hpos (closed_none _ _ _ _) (done_none _ _)).mono ?_
      rintro e w2 ⟨rfl, M, d, hw2, hent, hb2⟩
      rw [← htl] at hent
      have hm0 := Lib.hid (marks_first (a := Start whole) (fun _ => rfl) hent)
      have hd0 := Lib.hid hent.isDone
      have HW := Lib.hid hw2
      have HB2 := Lib.hid (HNB.out.trans hb2)
      clear hmk hw2 hent hb2 hte HN HNB
      go_wp2_with fail
      go_loopg [10, 36] t.size (fun q u i wx => ∃ (j gw gb : Nat) (M : List Bool) (d : Bool), u = .pointer (some ⟨gw, 0, none⟩) ∧ i = .int .i64 (j : Int) ∧ q + j = t.size ∧ Ways wx w1.heap.size gw gb A c P M d ∧ MarksAt P t.data.toList (Start whole) j M ∧ DoneOf P M d ∧ Ahead P t.data.toList whole j ∧ Below w1.heap.size w1 wx)
      case atStart => exact ⟨0, _, _, M, d, rfl, rfl, rfl, HW.out, hm0.out, hd0.out, fun _ _ j' _ h => by omega, HB2.out⟩
      case round =>
        obtain ⟨j, gw, gb, M, d, rfl, rfl, hqj, hw, hm, hd, ha, hb⟩ := hrel
        have d2 : wr.cell? ⟨gw, 2, none⟩ = some (.bool d) := by simpa using hw.1.cell 2
        have HW := Lib.hid hw
        have HM := Lib.hid hm
        have HD := Lib.hid hd
        have HA := Lib.hid ha
        have HBX := Lib.hid hb
        clear hw hm hd ha hb
        by_cases hj : j < t.size
        · have hj' : (j : Int) < (t.size : Int) := by omega
          have hjl : t.data.toList[j]? = some t[j] := by
            have hl : j < t.data.toList.length := by omega
            rw [List.getElem?_eq_getElem hl]; rfl
          by_cases hearly : whole = false ∧ d = true
          · obtain ⟨rfl, rfl⟩ := hearly
            go_wp2_with fail
            go_ret2
            refine ⟨true, 0, .inr ⟨by omega, .inr ⟨P, HC.out, rfl, ?_⟩⟩, rfl, HB.out.trans (HBX.out.mono HB.out.size)⟩
            rw [if_neg (by decide)]
            exact ⟨fun _ => fits_early HM.out HD.out (by omega) rfl, fun _ => rfl⟩
          · have HA2 := Lib.hid (HA.out.more HM.out HD.out (fun h => by
              cases d
              · rfl
              · exact absurd ⟨h, rfl⟩ hearly))
            go_upto_region 11 with fail
            go_cut [10, 11, 36, 46] (fun u q i v wx => u = .pointer (some ⟨gw, 0, none⟩) ∧ q = .int .i64 (j : Int) ∧ i = .int .i64 (j : Int) ∧ v = .bool false ∧ wx = wr)
            case first =>
              cases d
              · go_wp2_with fail
                go_meet
                exact ⟨rfl, rfl, rfl, rfl, rfl⟩
              · cases whole
                · exact absurd ⟨rfl, rfl⟩ hearly
                · go_wp2_with fail
                  go_meet
                  exact ⟨rfl, rfl, rfl, rfl, rfl⟩
            case rest =>
              obtain ⟨rfl, rfl, rfl, rfl, rfl⟩ := hcut
              clear d2 hearly
              have hlast : ((j : Int) == (t.size : Int) - 1) = (j + 1 == t.size) := by
                rw [Bool.eq_iff_iff, beq_iff_eq, beq_iff_eq]; omega
              have hml : M.length ≤ P.length := Nat.le_of_eq HW.out.2.2.1
              go_wp2_with fail
              refine (takes_any wc w1.heap.size gw gb c t[j] A P M d (j + 1 == t.size) HW.out hsound hlen2).mono ?_
              rintro e w3 ⟨gw3, gb3, M3, d3, rfl, hw3, ht3, hb3⟩
              have hle : w1.heap.size ≤ wc.heap.size := HBX.out.size
              have HW3 := Lib.hid hw3
              have HB3 := Lib.hid (HBX.out.trans (hb3.mono hle))
              have HT3 := Lib.hid ht3
              have HML := Lib.hid hml
              clear hw3 ht3 hb3 hlast hml
              cases whole
              · go_wp2_with fail
                refine (enter_any w3 w1.heap.size gw3 gb3 c 0 A P M3 d3 false (j + 1 == t.size) HW3.out hsound hlen2 hpos HT3.out.shut HT3.out.isDone).mono ?_
                rintro e w4 ⟨rfl, M4, d4, hw4, ht4, hb4⟩
                have hmk := HT3.out
                rw [← htl] at hmk ht4
                have H1 := Lib.hid (marks_more (a := Start false) (fun h => by cases h) HM.out HML.out hjl hmk ht4)
                have H2 := Lib.hid ht4.isDone
                have HW4 := Lib.hid hw4
                have HB4 := Lib.hid (HB3.out.trans hb4)
                clear hmk hw4 ht4 hb4
                go_wp2_with fail
                go_roundg (gk - 1)
                case measure => omega
                case rel => exact ⟨j + 1, gw3, gb3, M4, d4, rfl, by go_num, by omega, HW4.out, H1.out, H2.out, HA2.out, HB4.out⟩
              · have hmk := HT3.out
                rw [← htl] at hmk
                have H1 := Lib.hid (marks_next (a := Start true) (fun h => by have := h rfl; omega) HM.out HML.out hjl hmk)
                clear hmk
                go_wp2_with fail
                go_roundg (gk - 1)
                case measure => omega
                case rel => exact ⟨j + 1, gw3, gb3, M3, d3, rfl, by go_num, by omega, HW3.out, H1.out, HT3.out.isDone, HA2.out, HB3.out⟩
        · obtain rfl : j = t.size := by omega
          go_wp2_with fail
          go_ret2
          refine ⟨d, 0, .inr ⟨by omega, .inr ⟨P, HC.out, rfl, ?_⟩⟩, rfl, HB.out.trans (HBX.out.mono HB.out.size)⟩
          have h1 := HA.out
          have h2 := HM.out
          rw [← htl] at h1 h2
          exact fits_end h1 h2 HD.out
  · go_enter Try.func19, Try.ntmps19
    go_wp2_with fail
    go_ret2
    exact ⟨false, 1, .inl ⟨by simp; omega, rfl, rfl⟩, rfl, Below.refl _ _⟩
end Go.Proofs.Ythhgfahlamdgfaa
