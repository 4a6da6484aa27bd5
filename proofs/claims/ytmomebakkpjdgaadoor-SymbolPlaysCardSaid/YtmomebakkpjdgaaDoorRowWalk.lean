/- walk of SymbolRow -/
import Derived.Test.YtmomebakkpjdgaaDoorRow
namespace Go.Proofs.YtmomebakkpjdgaaDoor
open Go.RowKit Go.Maps

def seenL (ss : List ByteArray) (j : Nat) : List (List UInt8) := (ss.take j).map (fun s => s.data.toList)
theorem seenL_more {ss : List ByteArray} {j : Nat} (h : j < ss.length) : seenL ss (j + 1) = seenL ss j ++ [(ss.getD j ByteArray.empty).data.toList] := by
  unfold seenL
  rw [List.take_succ_eq_append_getElem h]
  rw [List.map_append, List.map_singleton]
  simp only [List.getD, List.getElem?_eq_getElem h, Option.getD_some]

theorem NumMap.put_of {w' : World} {bm n k : Nat} {f : List UInt8 → Option Nat} {s : List UInt8} {D : DataW Unit} {c : Int} (hD : Maps.IsMap D)
    (hf : ∀ l, Maps.has D (.string l) = (f l).isSome ∧ ∀ k, f l = some k → ∀ z, D.atKey (.string l) z = .lit (.int .i64 (k : Int))) (hc : c = (k : Int))
    (h : w'.ownsMap Tryd.prog 9 (plainElem Tryd.prog 3) bm n (D.put (.string s) (.lit (.int .i64 c)))) : NumMap w' bm n (addNum f s k) := by
  subst hc
  exact NumMap.put hD hf h

/-- what is kept of the other map while a text is taken -/
theorem Took.map {w w' : World} {B gt bm fb n : Nat} {v : Value} {own own' : List (List UInt8)} {F : List UInt8 → Option Nat} (h : Tab w B gt bm v own) (ht : Took w B gt bm v own' w') (hm : NumMap w fb n F) (hne : fb ≠ bm) : NumMap w' fb n F := by
  obtain ⟨v', _, hk, _⟩ := ht
  exact hm.heap (hk.block fb hm.lt (fun hf => h.not_map hm hne hf rfl))
theorem Took.below {w w' : World} {B gt bm : Nat} {v : Value} {own own' : List (List UInt8)} (h : Tab w B gt bm v own) (ht : Took w B gt bm v own' w') (hB : B ≤ w.heap.size) : Below B w w' := by
  obtain ⟨v', _, hk, _⟩ := ht
  exact hk.below hB (fun k hf => (h.foot_lt hf).1)

set_option maxRecDepth 1000000 in
set_option maxHeartbeats 4000000 in
theorem row_any (W : World) (hL : Len W) (A : Option Addr) (n c : Nat) (ss : List ByteArray) (hS : Strs W W.heap.size A n ss) :
    Calls Tryd.prog 3 #[.slice A n c] W fun e w' => e = .returned (.bool true) ∧ Below W.heap.size W w' := by
  have hmm := @run_makeMap Tryd.prog
  by_cases hn : n ≤ 60
  · go_enter Tryd.func3, Tryd.ntmps3
    go_wp2_with fail
    refine (new_any W hL).mono ?_
    rintro e w1 ⟨gt, bm, rfl, ht, hb⟩
    have hT := Lib.hid (ht.below ((Below.refl w1.heap.size w1).alloc (Nat.le_refl _) (.map #[] 0)))
    have hM := Lib.hid (NumMap.made w1)
    have hB := Lib.hid (hb.alloc hb.size (.map #[] 0))
    have hfb : w1.heap.size ≠ bm := by have := ht.2.2.1.lt; omega
    have hfB : W.heap.size ≤ w1.heap.size := hb.size
    clear ht hb
    go_wp2_with fail
    generalize hfe : w1.heap.size = fb at hM hfb hfB ⊢
    go_loopg [5, 19] n (fun q u i wx => ∃ (j : Nat) (v : Value) (own : List (List UInt8)) (F : List UInt8 → Option Nat), u = .int .i64 (1024 + (own.length : Int)) ∧ i = .int .i64 (j : Int) ∧ q + j = n ∧
      Tab wx W.heap.size gt bm v own ∧ NumMap wx fb j F ∧ RowInv own (seenL ss j) F ∧ own.length ≤ j ∧ Below W.heap.size W wx)
    case atStart => exact ⟨0, _, [], _, rfl, rfl, rfl, hT.out, hM.out, RowInv.start, Nat.le_refl _, hB.out⟩
    case round =>
      obtain ⟨j, v, own, F, rfl, rfl, hqj, ht, hm, hinv, hol, hb⟩ := hrel
      by_cases hj : j < n
      · have hj' : (j : Int) < (n : Int) := by omega
        obtain ⟨bl, off, rfl, hbl, hcell⟩ := hS.2.2 (by omega)
        have hjl : j < ss.length := by rw [hS.1]; exact hj
        have hsz := hS.size hj
        have hmore := seenL_more hjl
        have cs := (hb.cell (p := ⟨bl, off + j, none⟩) hbl).trans (hcell j hj)
        generalize ss.getD j ByteArray.empty = s at cs hsz hmore
        clear hcell
        have HT := Lib.hid ht
        have HM := Lib.hid hm
        have HI := Lib.hid hinv
        have HB := Lib.hid hb
        have HMO := Lib.hid hmore
        have hsl : s.data.toList.length = s.size := by simp
        clear ht hm hinv hb hmore
        by_cases hbig : 256 < s.size
        · have hbig' : (256 : Int) < (s.size : Int) := by omega
          go_wp2_with fail
          refine (awake_any wr (hL.below HB.out hL.lt)).mono ?_
          rintro e w5 ⟨rfl, hb5⟩
          go_wp2_with fail
          go_ret
          exact ⟨rfl, HB.out.trans (hb5.mono HB.out.size)⟩
        · have hbig' : (s.size : Int) ≤ 256 := by omega
          go_wp2_with fail
          refine (number_any wr W.heap.size gt bm v own s HT.out hsz).mono ?_
          rintro e w2 ⟨rfl, htook⟩
          have HM2 := Lib.hid (Took.map HT.out htook HM.out hfb)
          have HB2 := Lib.hid (HB.out.trans (Took.below HT.out htook HB.out.size))
          cases hno : numOf own s.data.toList with
          | some k =>
            rw [numberOf_some hno] at htook ⊢
            have hklt := numOf_lt hno (by omega)
            obtain ⟨v2, ht2, _, _⟩ := htook
            have HT2 := Lib.hid ht2
            have HNO := Lib.hid hno
            clear ht2 hno
            obtain ⟨D, hD, hf⟩ := HM2.out
            have HD := Lib.hid hD
            have HF := Lib.hid hf
            clear hD hf
            rcases HI.out.was HNO.out with hF | ⟨hF, hk1⟩
            · have hki : (k : Int) < 2024 := by omega
              have hkp : (0 : Int) < (k : Int) + 1 := by omega
              have hk0 : (((k : Int) + 1) == 0) = false := by rw [beq_eq_false_iff_ne]; omega
              have hkw : wrap64 ((k : Int) + 1 - 1) = (k : Int) := by unfold wrap64; omega
              go_wp2_with
                (first
                  | (at_lookup
                     refine wpList_lookup_own_int _ rfl _ _ 26 rfl 9 3 .i64 keyLaw Tryd.underlying26 Tryd.underlying3 (zero3 _) fb j D rfl HD.out _ (.string s.data.toList) rfl (key_mk hsz) ?_
                     intro z hat hwz
                     have hz : z = (k : Int) + 1 := by
                       rcases NumMap.look HF.out hat with ⟨h1, h2, _⟩ | ⟨q, h1, h2, _⟩
                       · rw [hF] at h1; cases h1
                       · rw [hF] at h1; have h1 := Option.some.inj h1; omega
                     subst hz
                     clear hat hwz)
                  | (at_mapUpdate
                     refine wpList_mapUpdate_own _ rfl _ _ _ 26 rfl 9 3 keyLaw Tryd.underlying26 _ fb j D rfl HD.out (by unfold maxLen; omega) _ _ (.string s.data.toList) rfl rfl (key_mk hsz) _ [] (plainElem_int Tryd.underlying3 (WalkArith.wf_i64 (by omega))) ?_
                     intro w3 hown3 hgrow3
                     have HM3 := Lib.hid (NumMap.put_of HD.out.isMap HF.out (show ((k : Int) + 1) = ((k + 1 : Nat) : Int) by omega) hown3)
                     have HT3 := Lib.hid (HT2.out.keeps (Keeps.grown (F := fun x => x = fb) hgrow3 (fun x hx => by injection hx with hx; exact hx.symm)) (fun x hx => HT2.out.not_map HM2.out hfb hx))
                     have HB3 := Lib.hid (HB2.out.grown hgrow3 HB2.out.size (fun x hx => by injection hx with hx; omega))
                     clear hown3 hgrow3))
              go_roundg (gk - 1)
              case measure => omega
              case rel => exact ⟨j + 1, v2, own, _, rfl, by go_num, by omega, HT3.out, HM3.out, by rw [HMO.out]; exact HI.out.known HNO.out, by omega, HB3.out⟩
            · have hki : (k : Int) < 1024 := by omega
              go_wp2_with
                (first
                  | (at_lookup
                     refine wpList_lookup_own_int _ rfl _ _ 26 rfl 9 3 .i64 keyLaw Tryd.underlying26 Tryd.underlying3 (zero3 _) fb j D rfl HD.out _ (.string s.data.toList) rfl (key_mk hsz) ?_
                     intro z hat hwz
                     have hz : z = 0 := by
                       rcases NumMap.look HF.out hat with ⟨h1, h2, _⟩ | ⟨q, h1, h2, _⟩
                       · exact h2
                       · rw [hF] at h1; cases h1
                     subst hz
                     clear hat hwz)
                  | (at_mapUpdate
                     refine wpList_mapUpdate_own _ rfl _ _ _ 26 rfl 9 3 keyLaw Tryd.underlying26 _ fb j D rfl HD.out (by unfold maxLen; omega) _ _ (.string s.data.toList) rfl rfl (key_mk hsz) _ [] (plainElem_int Tryd.underlying3 (WalkArith.wf_i64 (by omega))) ?_
                     intro w3 hown3 hgrow3
                     have HM3 := Lib.hid (NumMap.put_of HD.out.isMap HF.out (show ((k : Int) + 1) = ((k + 1 : Nat) : Int) by omega) hown3)
                     have HT3 := Lib.hid (HT2.out.keeps (Keeps.grown (F := fun x => x = fb) hgrow3 (fun x hx => by injection hx with hx; exact hx.symm)) (fun x hx => HT2.out.not_map HM2.out hfb hx))
                     have HB3 := Lib.hid (HB2.out.grown hgrow3 HB2.out.size (fun x hx => by injection hx with hx; omega))
                     clear hown3 hgrow3))
              go_roundg (gk - 1)
              case measure => omega
              case rel => exact ⟨j + 1, v2, own, _, rfl, by go_num, by omega, HT3.out, HM3.out, by rw [HMO.out]; exact HI.out.known HNO.out, by omega, HB3.out⟩
          | none =>
            rw [numberOf_none hno (by omega) (by omega)] at htook ⊢
            obtain ⟨v2, ht2, _, _⟩ := htook
            have HT2 := Lib.hid ht2
            have HNO := Lib.hid hno
            have hF := HI.out.not_fresh hno
            clear ht2 hno
            obtain ⟨D, hD, hf⟩ := HM2.out
            have HD := Lib.hid hD
            have HF := Lib.hid hf
            clear hD hf
            have hol2 : own.length ≤ 60 := by omega
            go_wp2_with
              (first
                | (at_lookup
                   refine wpList_lookup_own_int _ rfl _ _ 26 rfl 9 3 .i64 keyLaw Tryd.underlying26 Tryd.underlying3 (zero3 _) fb j D rfl HD.out _ (.string s.data.toList) rfl (key_mk hsz) ?_
                   intro z hat hwz
                   have hz : z = 0 := by
                     rcases NumMap.look HF.out hat with ⟨h1, h2, _⟩ | ⟨q, h1, h2, _⟩
                     · exact h2
                     · rw [hF] at h1; cases h1
                   subst hz
                   clear hat hwz)
                | (at_mapUpdate
                   refine wpList_mapUpdate_own _ rfl _ _ _ 26 rfl 9 3 keyLaw Tryd.underlying26 _ fb j D rfl HD.out (by unfold maxLen; omega) _ _ (.string s.data.toList) rfl rfl (key_mk hsz) _ [] (plainElem_int Tryd.underlying3 (WalkArith.wf_i64 (by omega))) ?_
                   intro w3 hown3 hgrow3
                   have HM3 := Lib.hid (NumMap.put_of HD.out.isMap HF.out (show (1024 + (own.length : Int) + 1) = ((1024 + own.length + 1 : Nat) : Int) by omega) hown3)
                   have HT3 := Lib.hid (HT2.out.keeps (Keeps.grown (F := fun x => x = fb) hgrow3 (fun x hx => by injection hx with hx; exact hx.symm)) (fun x hx => HT2.out.not_map HM2.out hfb hx))
                   have HB3 := Lib.hid (HB2.out.grown hgrow3 HB2.out.size (fun x hx => by injection hx with hx; omega))
                   clear hown3 hgrow3))
            go_roundg (gk - 1)
            case measure => omega
            case rel => exact ⟨j + 1, v2, own ++ [s.data.toList], _, by rw [List.length_append]; congr 1, by go_num, by omega, HT3.out, HM3.out, by rw [HMO.out]; exact HI.out.fresh HNO.out, by rw [List.length_append]; simp; omega, HB3.out⟩
      · obtain rfl : j = n := by omega
        have HT := Lib.hid ht
        have HB := Lib.hid hb
        have hol2 : own.length ≤ 60 := by omega
        have hol3 : ((own.length : Int) == 1024 + (own.length : Int) - 1024) = true := by rw [beq_iff_eq]; omega
        clear ht hm hinv hb
        go_wp2_with fail
        refine (own_any wr W.heap.size gt bm v own HT.out).mono ?_
        rintro e w2 ⟨v2, rfl, ho2, hb2⟩
        obtain ⟨A2, c2, rfl, _⟩ := own_reads ho2
        have HB2 := Lib.hid (HB.out.trans (hb2.mono HB.out.size))
        clear ho2 hb2
        go_wp2_with fail
        refine (awake_any w2 (hL.below HB2.out hL.lt)).mono ?_
        rintro e w5 ⟨rfl, hb5⟩
        go_wp2_with fail
        go_ret
        exact ⟨rfl, HB2.out.trans (hb5.mono HB2.out.size)⟩
  · have hn' : (60 : Int) < (n : Int) := by omega
    go_enter Tryd.func3, Tryd.ntmps3
    go_wp2_with fail
    refine (awake_any W hL).mono ?_
    rintro e w5 ⟨rfl, hb5⟩
    go_wp2_with fail
    go_ret
    exact ⟨rfl, hb5⟩
end Go.Proofs.YtmomebakkpjdgaaDoor
