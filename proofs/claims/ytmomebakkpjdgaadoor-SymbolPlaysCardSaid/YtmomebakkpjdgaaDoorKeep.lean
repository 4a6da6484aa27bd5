/- what is kept of another table; contracts turned -/
import Derived.Test.YtmomebakkpjdgaaDoorCalls
namespace Go.Proofs.YtmomebakkpjdgaaDoor
open Go.RowKit Go.Maps

theorem Strs.more {w : World} {B B' : Nat} {A : Option Addr} {n : Nat} {ss : List ByteArray} (h : Strs w B A n ss) (hB : B ≤ B') : Strs w B' A n ss :=
  ⟨h.1, h.2.1, fun hn => let ⟨b, off, e, hlt, hc⟩ := h.2.2 hn; ⟨b, off, e, Nat.lt_of_lt_of_le hlt hB, hc⟩⟩

def Apart (gt bm : Nat) (v : Value) (gc bc : Nat) (vc : Value) : Prop := ∀ k, Foot gt bm v k → ¬ Foot gc bc vc k

theorem Took.apart {w w' : World} {B Bc gt bm gc bc : Nat} {v vc : Value} {own' ownc : List (List UInt8)} (ht : Took w B gt bm v own' w') (hc : Tab w Bc gc bc vc ownc) (ha : Apart gt bm v gc bc vc) :
    ∃ v', Tab w' B gt bm v' own' ∧ Tab w' Bc gc bc vc ownc ∧ Apart gt bm v' gc bc vc ∧ Keeps w w' (Foot gt bm v) := by
  obtain ⟨v', h1, h2, h3⟩ := ht
  refine ⟨v', h1, hc.keeps h2 (fun k hk hf => ha k hf hk), ?_, h2⟩
  rintro k (hk | hk | hk) hf
  · exact ha k (.inl hk) hf
  · exact ha k (.inr (.inl hk)) hf
  · rcases h3 with h3 | ⟨q, hq, h3⟩
    · exact ha k (.inr (.inr (h3 ▸ hk))) hf
    · rw [h3] at hk
      injection hk with hk
      have := (hc.foot_lt hf).2
      omega

theorem copied_apart {w w1 : World} {B gt bm gc bc : Nat} {v vc : Value} {own own' : List (List UInt8)} (h : Tab w B gt bm v own) (hc : Tab w1 w.heap.size gc bc vc own') : Apart gt bm v gc bc vc := fun k hk hf => by
  have h1 := (h.foot_lt hk).2
  have h2 := (hc.foot_lt hf).1
  omega

set_option maxRecDepth 100000 in
set_option maxHeartbeats 2000000 in
theorem number_known (w : World) (B gt bm : Nat) (v : Value) (own : List (List UInt8)) (s : ByteArray) (k0 : Nat) (h : Tab w B gt bm v own) (hs : s.size ≤ maxLen) (hk0 : numOf own s.data.toList = some k0) :
    Calls Tryd.prog 9 #[.pointer (some ⟨gt, 0, none⟩), .string s] w fun e w' => e = .returned (.tuple #[.int .i64 (k0 : Int), .bool true]) ∧ w' = w := by
  have h' := h
  obtain ⟨hb, hown, ⟨D, hD, hf⟩, hBg, hBb, hlen2, hgood, hall⟩ := h'
  obtain ⟨A, c, rfl, _⟩ := own_reads hown
  have c0 : w.cell? ⟨gt, 0, none⟩ = some (.map (some bm)) := by simpa using hb.cell 0
  have c1 : w.cell? ⟨gt, 1, none⟩ = some (.slice A own.length c) := by simpa using hb.cell 1
  have HD := Lib.hid hD
  have HF := Lib.hid hf
  have HK := Lib.hid hk0
  clear h hb hown hD hf hgood hall hk0
  go_enter Tryd.func9, Tryd.ntmps9
  go_upto_if 19 with
    (at_lookup
     refine wpList_lookup_own_ok_int _ rfl _ _ 26 rfl 9 3 .i64 keyLaw Tryd.underlying26 Tryd.underlying3 (zero3 _) bm (16 + own.length) D rfl HD.out _ (.string s.data.toList) rfl (key_mk hs) ?_
     intro z hat hwz
     have hlook := NumMap.look HF.out hat
     clear hat hwz)
  rcases hlook with ⟨hno, rfl, hhas⟩ | ⟨k, hk, rfl, hhas⟩
  · rw [HK.out] at hno; cases hno
  · rw [hhas]
    obtain rfl : k = k0 := Option.some.inj (hk.symm.trans HK.out)
    clear hhas hk
    go_wp2_with fail
    go_ret2
    exact ⟨rfl, rfl⟩

theorem number_is (w : World) (B gt bm : Nat) (v : Value) (own : List (List UInt8)) (s : ByteArray) (h : Tab w B gt bm v own) (hs : s.size ≤ maxLen) :
    Calls Tryd.prog 9 #[.pointer (some ⟨gt, 0, none⟩), .string s] w fun e w' => ∃ (k : Nat) (r : Bool) (X : List (List UInt8)), e = .returned (.tuple #[.int .i64 (k : Int), .bool r]) ∧ Took w B gt bm v (own ++ X) w' ∧ (r = true → numOf (own ++ X) s.data.toList = some k) ∧
      (numberOf own s.data.toList = (k, r, own ++ X)) := by
  refine (number_any w B gt bm v own s h hs).mono ?_
  rintro e w' ⟨rfl, ht⟩
  have hsl : s.data.toList.length = s.size := by simp
  cases hno : numOf own s.data.toList with
  | some k =>
    rw [numberOf_some hno] at ht ⊢
    exact ⟨k, true, [], rfl, by rw [List.append_nil]; exact ht, fun _ => by rw [List.append_nil]; exact hno, by rw [List.append_nil]⟩
  | none =>
    by_cases hb : 256 < s.data.toList.length ∨ 1000 ≤ own.length
    · have hv : numberOf own s.data.toList = (0, false, own) := by unfold numberOf; rw [hno]; exact if_pos hb
      rw [hv] at ht ⊢
      exact ⟨0, false, [], rfl, by rw [List.append_nil]; exact ht, (fun e => by cases e), by rw [List.append_nil]⟩
    · have hv : numberOf own s.data.toList = (1024 + own.length, true, own ++ [s.data.toList]) := by unfold numberOf; rw [hno]; exact if_neg hb
      rw [hv] at ht ⊢
      refine ⟨1024 + own.length, true, [s.data.toList], rfl, ht, fun _ => ?_, rfl⟩
      rw [numOf_snoc hno]
      unfold addNum
      rw [if_pos rfl]

theorem number_first (w : World) (B gt bm : Nat) (v : Value) (s : ByteArray) (h : Tab w B gt bm v []) (hs : s.size ≤ maxLen) (hs2 : s.size ≤ 256) :
    Calls Tryd.prog 9 #[.pointer (some ⟨gt, 0, none⟩), .string s] w fun e w' => ∃ (k : Nat) (X : List (List UInt8)), e = .returned (.tuple #[.int .i64 (k : Int), .bool true]) ∧ Took w B gt bm v X w' ∧ numOf X s.data.toList = some k ∧ X.length ≤ 1 ∧ k < 2024 := by
  refine (number_is w B gt bm v [] s h hs).mono ?_
  rintro e w' ⟨k, r, X, rfl, ht, hr, hv⟩
  rw [List.nil_append] at ht hr hv
  have hsl : s.data.toList.length = s.size := by simp
  cases hno : numOf [] s.data.toList with
  | some k' =>
    rw [numberOf_some hno] at hv
    simp only [Prod.mk.injEq] at hv
    obtain ⟨rfl, rfl, rfl⟩ := hv
    exact ⟨k', [], rfl, ht, hno, by decide, numOf_lt hno (by decide)⟩
  | none =>
    rw [numberOf_none hno (by omega) (by simp)] at hv
    simp only [List.length_nil, List.nil_append, Prod.mk.injEq] at hv
    obtain ⟨rfl, rfl, rfl⟩ := hv
    exact ⟨1024 + 0, _, rfl, ht, hr rfl, by simp, by omega⟩

theorem text_num (w : World) (hL : Len w) (B gt bm : Nat) (v : Value) (own : List (List UInt8)) (k : Nat) (s : ByteArray) (h : Tab w B gt bm v own) (hk : numOf own s.data.toList = some k) :
    Calls Tryd.prog 12 #[.pointer (some ⟨gt, 0, none⟩), .int .i64 (k : Int)] w fun e w' => e = .returned (.tuple #[.string s, .bool true]) ∧ Below w.heap.size w w' := by
  have hlt := numOf_lt hk h.2.2.2.2.2.1
  refine (text_any w hL B gt bm v own (k : Int) (by omega) (by omega) h).mono ?_
  rintro e w' ⟨rfl, hb⟩
  refine ⟨?_, hb⟩
  rw [textOf_num hk]
  unfold textV
  rw [Option.getD_some, strV_list]
  rfl
end Go.Proofs.YtmomebakkpjdgaaDoor
