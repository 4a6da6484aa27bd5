/- slices.Contains at texts; Add -/
import Derived.Test.YtmomebakkpjdgaaDoorText
namespace Go.Proofs.YtmomebakkpjdgaaDoor
open Go.RowKit Go.Maps

theorem str_eq {a b : ByteArray} (h : a.data.toList = b.data.toList) : (a.toList == b.toList) = true := by
  rw [ByteArray.toList_eq, ByteArray.toList_eq, beq_iff_eq]; exact h
theorem str_ne {a b : ByteArray} (h : a.data.toList ≠ b.data.toList) : (a.toList == b.toList) = false := by
  rw [ByteArray.toList_eq, ByteArray.toList_eq, beq_eq_false_iff_ne]; exact h

def listL (ss : List ByteArray) : List (List UInt8) := ss.map (fun s => s.data.toList)
theorem listL_get {ss : List ByteArray} {k : Nat} (h : k < ss.length) : (listL ss)[k]? = some (ss.getD k ByteArray.empty).data.toList := by
  unfold listL
  simp [List.getD, List.getElem?_eq_getElem h]

set_option maxHeartbeats 1000000 in
theorem index_any (w : World) (B : Nat) (A : Option Addr) (n c : Nat) (ss : List ByteArray) (s : ByteArray) (hS : Strs w B A n ss) (hn : n ≤ 4611686018427387904) :
    Calls Tryd.prog 28 #[.slice A n c, .string s] w fun e w' => ∃ r : Int, e = .returned (.int .i64 r) ∧ (0 ≤ r ↔ s.data.toList ∈ listL ss) ∧ w' = w := by
  go_enter Tryd.func28, Tryd.ntmps28
  go_wp2_with fail
  go_loopg [8] n (fun q i wx => ∃ j : Nat, i = .int .i64 (j : Int) ∧ q + j = n ∧ (∀ k, k < j → (listL ss)[k]? ≠ some s.data.toList) ∧ wx = w)
  case atStart => exact ⟨0, rfl, rfl, fun k hk => by omega, rfl⟩
  case round =>
    obtain ⟨j, rfl, hqj, hno, rfl⟩ := hrel
    have HNO := Lib.hid hno
    clear hno
    by_cases hj : j < n
    · have hj' : (j : Int) < (n : Int) := by omega
      obtain ⟨bl, off, rfl, hbl, hcell⟩ := hS.2.2 (by omega)
      have hjl : j < ss.length := by rw [hS.1]; exact hj
      have cs := hcell j hj
      have hget := listL_get hjl
      generalize ss.getD j ByteArray.empty = x at cs hget
      have HG := Lib.hid hget
      clear hcell hget
      by_cases hx : s.data.toList = x.data.toList
      · have hq := str_eq hx
        have HX := Lib.hid hx
        clear hx
        go_wp2_with fail
        go_ret
        refine ⟨_, rfl, ⟨fun _ => ?_, fun _ => by omega⟩, rfl⟩
        rw [HX.out]
        exact List.mem_of_getElem? HG.out
      · have hq := str_ne hx
        have HX := Lib.hid hx
        clear hx
        go_wp2_with fail
        go_roundg (gk - 1)
        case measure => omega
        case rel =>
          refine ⟨j + 1, by go_num, by omega, fun k hk => ?_, rfl⟩
          rcases Nat.lt_or_ge k j with h1 | h1
          · exact HNO.out k h1
          · obtain rfl : k = j := by omega
            rw [HG.out]
            exact fun e => HX.out (Option.some.inj e).symm
    · obtain rfl : j = n := by omega
      go_wp2_with fail
      go_ret
      refine ⟨_, rfl, ⟨fun h => absurd h (by decide), fun h => ?_⟩, rfl⟩
      obtain ⟨k, hk, hkk⟩ := List.getElem_of_mem h
      have hl : (listL ss).length = j := by unfold listL; rw [List.length_map]; exact hS.1
      exact absurd (by rw [List.getElem?_eq_getElem hk, hkk]) (HNO.out k (by omega))

theorem contains_any (w : World) (B : Nat) (A : Option Addr) (n c : Nat) (ss : List ByteArray) (s : ByteArray) (hS : Strs w B A n ss) (hn : n ≤ 4611686018427387904) :
    Calls Tryd.prog 24 #[.slice A n c, .string s] w fun e w' => ∃ r : Bool, e = .returned (.bool r) ∧ (r = true ↔ s.data.toList ∈ listL ss) ∧ w' = w := by
  go_enter Tryd.func24, Tryd.ntmps24
  go_wp2_with fail
  refine (index_any w B A n c ss s hS hn).mono ?_
  rintro e w1 ⟨r, rfl, hr, rfl⟩
  go_wp2_with fail
  go_ret
  exact ⟨_, rfl, by simp, rfl⟩

/-! ### the plain law -/
theorem idx_not_mem : ∀ {X : List (List UInt8)} {l : List UInt8}, ¬ l ∈ X → idx X l = none
  | [], _, _ => rfl
  | x :: X, l, h => by
    rw [List.mem_cons, not_or] at h
    unfold idx
    rw [if_neg (Ne.symm h.1), idx_not_mem h.2]; rfl
theorem numOf_append {own X : List (List UInt8)} {l : List UInt8} (h : numOf own l = none) (hx : ¬ l ∈ X) : numOf (own ++ X) l = none := by
  unfold numOf at h ⊢
  split at h
  · cases h
  · have ho := Option.map_eq_none_iff.1 h
    rw [idx_append, ho, idx_not_mem hx]; rfl
theorem numOf_keep {own X : List (List UInt8)} {l : List UInt8} {k : Nat} (h : numOf own l = some k) : numOf (own ++ X) l = some k := by
  unfold numOf at h ⊢
  split at h
  · exact h
  · obtain ⟨j, hj, h⟩ := Option.map_eq_some_iff.1 h
    rw [idx_append, hj]
    simp; omega

def AddOk (own L : List (List UInt8)) (i : Nat) : Prop := ∀ l, L[i]? = some l → numOf own l = none ∧ l.length ≤ 256 ∧ ¬ l ∈ L.take i
def AddAll (own L : List (List UInt8)) : Prop := own.length + L.length ≤ 1000 ∧ ∀ i, i < L.length → AddOk own L i

theorem listL_take (ss : List ByteArray) (i : Nat) : listL (ss.take i) = (listL ss).take i := by unfold listL; rw [List.map_take]
theorem listL_length (ss : List ByteArray) : (listL ss).length = ss.length := by unfold listL; simp
theorem Strs.take {w : World} {B n : Nat} {A : Option Addr} {ss : List ByteArray} (h : Strs w B A n ss) {i : Nat} (hi : i ≤ n) : Strs w B A i (ss.take i) := by
  refine ⟨by rw [List.length_take, h.1]; omega, fun s hs => h.2.1 s (List.mem_of_mem_take hs), fun h0 => ?_⟩
  obtain ⟨b, off, hA, hlt, hc⟩ := h.2.2 (by omega)
  refine ⟨b, off, hA, hlt, fun k hk => ?_⟩
  rw [hc k (by omega)]
  simp [List.getD, hk]

set_option maxRecDepth 100000 in
set_option maxHeartbeats 4000000 in
theorem add_any (w : World) (B gt bm : Nat) (v : Value) (own : List (List UInt8)) (h : Tab w B gt bm v own) (A : Option Addr) (n c : Nat) (ss : List ByteArray) (hS : Strs w B A n ss) (hn : n ≤ 4611686018427387904) (hc : n ≤ c) :
    Calls Tryd.prog 14 #[.pointer (some ⟨gt, 0, none⟩), .slice A n c] w fun e w' =>
      (AddAll own (listL ss) ∧ e = .returned (.bool true) ∧ Took w B gt bm v (own ++ listL ss) w') ∨ (¬ AddAll own (listL ss) ∧ e = .returned (.bool false) ∧ w' = w) := by
  have h' := h
  obtain ⟨hb, hown, ⟨D, hD, hf⟩, hBg, hBb, hlen2, hgood, hall⟩ := h'
  obtain ⟨A0, c0, rfl, _⟩ := own_reads hown
  have d0 : w.cell? ⟨gt, 0, none⟩ = some (.map (some bm)) := by simpa using hb.cell 0
  have d1 : w.cell? ⟨gt, 1, none⟩ = some (.slice A0 own.length c0) := by simpa using hb.cell 1
  have H := Lib.hid h
  have HD := Lib.hid hD
  have HF := Lib.hid hf
  have hLn : (listL ss).length = n := by rw [listL_length]; exact hS.1
  clear h hb hown hD hf hgood hall
  have hw : wrap64 ((own.length : Int) + (n : Int)) = (own.length : Int) + (n : Int) := by unfold wrap64; omega
  by_cases hsum : own.length + n ≤ 1000
  · go_enter Tryd.func14, Tryd.ntmps14
    go_wp2_with fail
    go_loopg [26] n (fun q i wx => ∃ j : Nat, i = .int .i64 (j : Int) ∧ q + j = n ∧ (∀ k, k < j → AddOk own (listL ss) k) ∧ wx = w)
    case atStart => exact ⟨0, rfl, rfl, fun k hk => by omega, rfl⟩
    case round =>
      obtain ⟨j, rfl, hqj, hok, rfl⟩ := hrel
      have HOK := Lib.hid hok
      clear hok
      by_cases hj : j < n
      · have hj' : (j : Int) < (n : Int) := by omega
        have hjl : j < ss.length := by rw [hS.1]; exact hj
        obtain ⟨bl, off, rfl, hbl, hcell⟩ := hS.2.2 (by omega)
        have hsz := hS.size hj
        have HT := Lib.hid (hS.take (Nat.le_of_lt hj))
        have cs := hcell j hj
        have hget := listL_get hjl
        generalize ss.getD j ByteArray.empty = x at cs hget hsz
        have HG := Lib.hid hget
        have hxl : x.data.toList.length = x.size := by simp
        clear hcell hget
        go_upto_region 7 with
          (at_lookup
           refine wpList_lookup_own_ok_int _ rfl _ _ 26 rfl 9 3 .i64 keyLaw Tryd.underlying26 Tryd.underlying3 (zero3 _) bm (16 + own.length) D rfl HD.out _ (.string x.data.toList) rfl (key_mk hsz) ?_
           intro z hat hwz
           have hlook := NumMap.look HF.out hat
           clear hat hwz)
        have HNO := Lib.hid (fun (hall : AddAll own (listL ss)) => hall.2 j (by omega) _ HG.out)
        rcases hlook with ⟨hno, rfl, hhas⟩ | ⟨k, hk, rfl, hhas⟩
        · rw [hhas]
          by_cases hbig : 256 < x.size
          · have hbig' : (256 : Int) < (x.size : Int) := by omega
            clear hhas hno
            go_wp2_with fail
            go_ret
            exact .inr ⟨fun h => by have := (HNO.out h).2.1; omega, rfl, rfl⟩
          · have hbig' : (x.size : Int) ≤ 256 := by omega
            have hjc : (j : Int) ≤ (c : Int) := by omega
            have HN := Lib.hid hno
            clear hhas hno
            go_wp2_with fail
            refine (contains_any wr B (some ⟨bl, off, none⟩) j c (ss.take j) x HT.out (by omega)).mono ?_
            rintro e w1 ⟨r, rfl, hr, rfl⟩
            rw [listL_take] at hr
            cases r
            · have HR := Lib.hid (show ¬ x.data.toList ∈ (listL ss).take j from fun h => by have := hr.2 h; cases this)
              clear hr
              go_wp2_with fail
              go_roundg (gk - 1)
              case measure => omega
              case rel =>
                refine ⟨j + 1, by go_num, by omega, fun k hk => ?_, rfl⟩
                rcases Nat.lt_or_ge k j with h1 | h1
                · exact HOK.out k h1
                · obtain rfl : k = j := by omega
                  intro l hl
                  rw [HG.out] at hl
                  obtain rfl := Option.some.inj hl
                  exact ⟨HN.out, by omega, HR.out⟩
            · have HR := Lib.hid (hr.1 rfl)
              clear hr
              go_wp2_with fail
              go_ret
              exact .inr ⟨fun h => (HNO.out h).2.2 HR.out, rfl, rfl⟩
        · rw [hhas]
          have HN := Lib.hid hk
          clear hhas hk
          go_wp2_with fail
          go_ret
          exact .inr ⟨fun h => (by have := (HNO.out h).1; rw [HN.out] at this; cases this), rfl, rfl⟩
      · obtain rfl : j = n := by omega
        have HALL := Lib.hid (show AddAll own (listL ss) from ⟨by omega, fun i hi => HOK.out i (by omega)⟩)
        clear HOK d0 d1
        obtain ⟨wo, hwo⟩ : ∃ wo : World, wo = wr := ⟨_, rfl⟩
        subst hwo
        go_wp2_with fail
        go_loopg [56] j (fun q i wx => ∃ k : Nat, i = .int .i64 (k : Int) ∧ q + k = j ∧ Took wo B gt bm (.slice A0 own.length c0) (own ++ (listL ss).take k) wx)
        case atStart => exact ⟨0, rfl, rfl, by rw [List.take_zero, List.append_nil]; exact Took.same H.out (Below.refl _ _)⟩
        case round =>
          obtain ⟨k, rfl, hqk, htook⟩ := hrel
          have HTK := Lib.hid htook
          clear htook
          by_cases hk : k < j
          · have hk' : (k : Int) < (j : Int) := by omega
            have hkl : k < ss.length := by rw [hS.1]; exact hk
            obtain ⟨bl, off, rfl, hbl, hcell⟩ := hS.2.2 (by omega)
            have hbw : B ≤ wo.heap.size := Nat.le_trans hBg (Nat.le_of_lt H.out.1.lt)
            obtain ⟨v2, ht2, hk2, hv2⟩ := HTK.out
            have hbel := hk2.below hbw (fun q hq => (H.out.foot_lt hq).1)
            have cs := (hbel.cell (p := ⟨bl, off + k, none⟩) hbl).trans (hcell k hk)
            have hget := listL_get hkl
            generalize ss.getD k ByteArray.empty = x at cs hget
            obtain ⟨g1, g2, g3⟩ := HALL.out.2 k (by omega) _ hget
            have hxl : x.data.toList.length = x.size := by simp
            have HG := Lib.hid hget
            have HT2 := Lib.hid ht2
            have HK2 := Lib.hid hk2
            have HV2 := Lib.hid hv2
            have HN := Lib.hid (numOf_append g1 g3)
            have hln : (own ++ (listL ss).take k).length < 1000 := by rw [List.length_append, List.length_take]; omega
            clear hcell hget ht2 hk2 hv2 g1 g3 hbel
            go_wp2_with fail
            refine (takes_any _ B gt bm v2 (own ++ (listL ss).take k) x HT2.out (by omega) HN.out hln).mono ?_
            rintro e w2 ⟨rfl, ht3⟩
            have H3 := Lib.hid (Took.trans HK2.out HV2.out ht3)
            clear ht3
            go_wp2_with fail
            go_roundg (gk - 1)
            case measure => omega
            case rel =>
              refine ⟨k + 1, by go_num, by omega, ?_⟩
              have hl : k < (listL ss).length := by omega
              have e : (listL ss)[k] = x.data.toList := by
                have := HG.out
                rw [List.getElem?_eq_getElem hl] at this
                exact Option.some.inj this
              have h3 := H3.out
              rw [List.append_assoc, ← e, ← List.take_succ_eq_append_getElem hl] at h3
              exact h3
          · obtain rfl : k = j := by omega
            go_wp2_with fail
            go_ret
            have h3 := HTK.out
            rw [List.take_of_length_le (by omega)] at h3
            exact .inl ⟨HALL.out, rfl, h3⟩
  · have hsum' : (1000 : Int) < (own.length : Int) + (n : Int) := by omega
    go_enter Tryd.func14, Tryd.ntmps14
    go_wp2_with fail
    go_ret
    exact .inr ⟨fun h => by have := h.1; omega, rfl, rfl⟩
end Go.Proofs.YtmomebakkpjdgaaDoor
