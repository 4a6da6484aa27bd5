/- the reference's Add; same -/
import Derived.Test.YtmomebakkpjdgaaDoorRefNumber
import Derived.BigQuiet
namespace Go.Proofs.YtmomebakkpjdgaaDoor
open Go.RowKit Go.Maps

set_option maxRecDepth 100000 in
set_option maxHeartbeats 4000000 in
theorem refAdd_any (w : World) (B gm : Nat) (v : Value) (own : List (List UInt8)) (h : MTab w B gm v own) (A : Option Addr) (n c : Nat) (ss : List ByteArray) (hS : Strs w B A n ss) (hn : n ≤ 4611686018427387904) :
    Calls Tryd.prog 15 #[.pointer (some ⟨gm, 0, none⟩), .slice A n c] w fun e w' =>
      (AddAll own (listL ss) ∧ e = .returned (.bool true) ∧ MTook w B gm v (own ++ listL ss) w') ∨ (¬ AddAll own (listL ss) ∧ e = .returned (.bool false) ∧ Below w.heap.size w w') := by
  have hol := h.2.2.2
  obtain ⟨A0, c0, rfl, _⟩ := own_reads h.2.1
  have d0 : w.cell? ⟨gm, 0, none⟩ = some (.slice A0 own.length c0) := by simpa using h.1.cell 0
  have hLn : (listL ss).length = n := by rw [listL_length]; exact hS.1
  have hgm := h.1.lt
  have hBg := h.2.2.1
  have hal := (Below.refl w.heap.size w).alloc (Nat.le_refl _) (Obj.cells #[.slice A0 own.length c0] 35)
  have HM := Lib.hid (show MTab (w.alloc (Obj.cells #[.slice A0 own.length c0] 35)) B w.heap.size (.slice A0 own.length c0) own from ⟨Blk.new w 35 _, h.2.1.alloc _, Nat.le_trans hBg (Nat.le_of_lt hgm), hol⟩)
  have HA := Lib.hid hal
  have H := Lib.hid h
  clear h hal
  go_enter Tryd.func15, Tryd.ntmps15
  go_wp2_with fail
  generalize w.alloc (Obj.cells #[.slice A0 own.length c0] 35) = w1 at HM HA ⊢
  go_loopg [18] n (fun q i wx => ∃ (j : Nat) (vx : Value), i = .int .i64 (j : Int) ∧ q + j = n ∧ (∀ k, k < j → AddOk own (listL ss) k) ∧ own.length + j ≤ 1000 ∧ MTab wx B w.heap.size vx (own ++ (listL ss).take j) ∧ Below w.heap.size w wx ∧
    (∀ k, vx.ownBlock = some k → (Value.slice A0 own.length c0).ownBlock = some k ∨ w.heap.size ≤ k))
  case atStart => exact ⟨0, _, rfl, rfl, fun k hk => by omega, hol, by rw [List.take_zero, List.append_nil]; exact HM.out, HA.out, fun k hk => .inl hk⟩
  case round =>
    obtain ⟨j, vx, rfl, hqj, hok, hlj, hm, hb, hv⟩ := hrel
    have HOK := Lib.hid hok
    have HM := Lib.hid hm
    have HB := Lib.hid hb
    have HV := Lib.hid hv
    clear hok hm hb hv
    by_cases hj : j < n
    · have hj' : (j : Int) < (n : Int) := by omega
      have hjl : j < ss.length := by rw [hS.1]; exact hj
      obtain ⟨bl, off, rfl, hbl, hcell⟩ := hS.2.2 (by omega)
      have cs := (HB.out.cell (p := ⟨bl, off + j, none⟩) (Nat.lt_of_lt_of_le hbl (Nat.le_trans hBg (Nat.le_of_lt hgm)))).trans (hcell j hj)
      have hget := listL_get hjl
      generalize ss.getD j ByteArray.empty = x at cs hget
      have HG := Lib.hid hget
      have hxl : x.data.toList.length = x.size := by simp
      have HNO := Lib.hid (fun (hall : AddAll own (listL ss)) => hall.2 j (by omega) _ HG.out)
      have htl : (own ++ (listL ss).take j).length = own.length + j := by rw [List.length_append, List.length_take]; omega
      clear hcell hget
      go_wp2_with fail
      refine (find_any _ B w.heap.size vx _ x HM.out).mono ?_
      rintro e w2 ⟨rfl, hb2⟩
      have HM2 := Lib.hid (HM.out.below hb2)
      have HB2 := Lib.hid (HB.out.trans (hb2.mono HB.out.size))
      clear hb2
      cases hno : numOf (own ++ (listL ss).take j) x.data.toList with
      | some k =>
        rw [findV_some hno]
        have HN := Lib.hid hno
        clear hno
        go_wp2_with fail
        go_ret
        refine .inr ⟨fun hall => ?_, rfl, HB2.out⟩
        obtain ⟨g1, g2, g3⟩ := HNO.out hall
        have := numOf_append g1 g3
        rw [HN.out] at this
        cases this
      | none =>
        rw [findV_none hno]
        have HN := Lib.hid hno
        clear hno
        go_wp2_with fail
        refine (refNumber_any w2 B w.heap.size vx _ x HM2.out).mono ?_
        rintro e w3 ⟨rfl, ht3⟩
        by_cases hbad : 256 < x.data.toList.length ∨ 1000 ≤ (own ++ (listL ss).take j).length
        · have hv : numberOf (own ++ (listL ss).take j) x.data.toList = (0, false, own ++ (listL ss).take j) := by unfold numberOf; rw [HN.out]; exact if_pos hbad
          rw [hv] at ht3 ⊢
          obtain ⟨v3, _, hk3, _⟩ := ht3
          have HB3 := Lib.hid (HB2.out.trans (hk3.below HB2.out.size (fun k hk => by omega)))
          clear hv hk3
          go_wp2_with fail
          go_ret
          refine .inr ⟨fun hall => ?_, rfl, HB3.out⟩
          have g := (HNO.out hall).2.1
          have g2 := hall.1
          omega
        · have hv : numberOf (own ++ (listL ss).take j) x.data.toList = (1024 + (own ++ (listL ss).take j).length, true, own ++ (listL ss).take j ++ [x.data.toList]) := by unfold numberOf; rw [HN.out]; exact if_neg hbad
          rw [hv] at ht3 ⊢
          obtain ⟨v3, hm3, hk3, hv3⟩ := ht3
          have HB3 := Lib.hid (HB2.out.trans (hk3.below HB2.out.size (fun k hk => by omega)))
          have HM3 := Lib.hid hm3
          have HV3 := Lib.hid hv3
          have HOK3 := Lib.hid (show AddOk own (listL ss) j by
            intro l hl
            rw [HG.out] at hl
            obtain rfl := Option.some.inj hl
            have h1 : numOf own x.data.toList = none := by
              cases hq : numOf own x.data.toList with
              | none => rfl
              | some k => rw [numOf_keep hq] at HN; exact absurd HN.out (by simp)
            refine ⟨h1, by omega, fun hmem => ?_⟩
            have := HN.out
            unfold numOf at this
            split at this
            · cases this
            · have h2 := idx_none (Option.map_eq_none_iff.1 this)
              exact h2 (List.mem_append_right _ hmem))
          clear hv hk3 hm3 hv3
          go_wp2_with fail
          go_roundg (gk - 1)
          case measure => omega
          case rel =>
            refine ⟨j + 1, v3, by go_num, by omega, fun k hk => ?_, by omega, ?_, HB3.out, fun k hk => ?_⟩
            · rcases Nat.lt_or_ge k j with h1 | h1
              · exact HOK.out k h1
              · obtain rfl : k = j := by omega
                exact HOK3.out
            · have hl : j < (listL ss).length := by omega
              have e : (listL ss)[j] = x.data.toList := by
                have := HG.out
                rw [List.getElem?_eq_getElem hl] at this
                exact Option.some.inj this
              have h3 := HM3.out
              rw [List.append_assoc, ← e, ← List.take_succ_eq_append_getElem hl] at h3
              exact h3
            · rcases HV3.out k hk with h1 | h1
              · exact HV.out k h1
              · exact .inr (Nat.le_trans HB2.out.size h1)
    · obtain rfl : j = n := by omega
      have HALL := Lib.hid (show AddAll own (listL ss) from ⟨by omega, fun i hi => HOK.out i (by omega)⟩)
      have HM4 : Hid (MTab wr B w.heap.size vx (own ++ listL ss)) := by
        have h3 := HM.out
        rw [List.take_of_length_le (by omega)] at h3
        exact Lib.hid h3
      obtain ⟨wo, hwo⟩ : ∃ wo : World, wo = wr := ⟨_, rfl⟩
      subst hwo
      obtain ⟨A4, c4, rfl, _⟩ := own_reads HM4.out.2.1
      obtain ⟨L4, HM5, HV5⟩ : ∃ L4, Hid (MTab wo B w.heap.size (.slice A4 L4 c4) (own ++ listL ss)) ∧ Hid (∀ k, (Value.slice A4 L4 c4).ownBlock = some k → (Value.slice A0 own.length c0).ownBlock = some k ∨ w.heap.size ≤ k) := ⟨_, HM4, HV⟩
      have e0 : wo.cell? ⟨w.heap.size, 0, none⟩ = some (.slice A4 L4 c4) := by simpa using HM5.out.1.cell 0
      clear HM4 HV
      have hmo : Blk wo gm 35 #[.slice A0 own.length c0] := (HB.out.block gm hgm).trans H.out.1
      have e1 : wo.cell? ⟨gm, 0, none⟩ = some (.slice A0 own.length c0) := by simpa using hmo.cell 0
      have f1 := hmo.frozen 0
      have HO := Lib.hid hmo
      clear hmo
      go_wp2_with fail
      go_ret
      have hne := own_blk_ne HM5.out.2.1 HO.out (by decide)
      refine .inl ⟨HALL.out, rfl, _, ⟨by simpa using HO.out.set_ 0 (.slice A4 L4 c4), HM5.out.2.1.kept (grown_setCell wo ⟨gm, 0, none⟩ _) (.inr hne), hBg, HM5.out.2.2.2⟩, ?_, HV5.out⟩
      exact (Keeps.of_below (fun k => k = gm) HB.out).trans (Keeps.setCell wo (F := fun k => k = gm) (p := ⟨gm, 0, none⟩) rfl _) (fun _ _ h => h)
end Go.Proofs.YtmomebakkpjdgaaDoor
