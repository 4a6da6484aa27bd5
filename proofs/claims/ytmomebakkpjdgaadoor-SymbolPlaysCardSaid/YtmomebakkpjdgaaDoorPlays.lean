/- walk of SymbolPlays -/
import Derived.Test.YtmomebakkpjdgaaDoorPair
import Derived.Deep.CutBlock
import Derived.Deep.DeepCutAuto
import Derived.Deep.RegionWith
namespace Go.Proofs.YtmomebakkpjdgaaDoor
open Go.RowKit Go.Maps

set_option maxRecDepth 1000000 in
set_option maxHeartbeats 8000000 in
theorem plays_any (W : World) (hL : Len W) (A : Option Addr) (n c : Nat) (cs : Nat → CallD) (hC : CallsIn W W.heap.size A n cs) (hn : n ≤ 4611686018427387904) :
    Calls Tryd.prog 4 #[.slice A n c] W fun e w' => e = .returned (.bool true) ∧ Below W.heap.size W w' := by
  go_enter Tryd.func4, Tryd.ntmps4
  go_wp2_with fail
  refine (few_any W A n c cs hC).mono ?_
  rintro e w0 ⟨r, rfl, hb0⟩
  have HB0 := Lib.hid hb0
  clear hb0
  cases r
  · go_wp2_with fail
    refine (awake_end W w0 hL HB0.out).mono ?_
    rintro e w5 ⟨rfl, hb5⟩
    go_wp2_with fail
    go_ret
    exact ⟨rfl, hb5⟩
  · go_wp2_with fail
    refine (new_any w0 (hL.below HB0.out hL.lt)).mono ?_
    rintro e w1 ⟨gt, bm, rfl, ht1, hb1⟩
    have hB0 : W.heap.size ≤ w0.heap.size := HB0.out.size
    have hba := (Below.refl w1.heap.size w1).alloc (Nat.le_refl _) (Obj.cells #[.slice none 0 0] 35)
    have HP := Lib.hid (show Pair (w1.alloc (Obj.cells #[.slice none 0 0] 35)) W.heap.size gt bm (.slice none 0 0) w1.heap.size (.slice none 0 0) [] [] from
      ⟨(ht1.up hB0).below hba, ⟨Blk.new w1 35 _, World.ownsRow_nil _ _ _ _, Nat.le_trans hB0 hb1.size, by decide⟩, fun k hk hf => by
        have := (ht1.foot_lt hk).2
        rcases hf with rfl | hf
        · omega
        · simp [Value.ownBlock] at hf⟩)
    have HB1 := Lib.hid ((HB0.out.trans (hb1.mono hB0)).alloc (Nat.le_trans hB0 hb1.size) (Obj.cells #[.slice none 0 0] 35))
    clear ht1 hb1 hba HB0
    go_wp2_with fail
    go_loopg [3, 4, 25] n (fun q u3 u4 i wx => ∃ (j gt bm gm : Nat) (v vm : Value) (own : List (List UInt8)), u3 = .pointer (some ⟨gt, 0, none⟩) ∧ u4 = .pointer (some ⟨gm, 0, none⟩) ∧ i = .int .i64 (j : Int) ∧ q + j = n ∧ Pair wx W.heap.size gt bm v gm vm own own ∧ Below W.heap.size W wx)
    case atStart => exact ⟨0, _, _, _, _, _, [], rfl, rfl, rfl, rfl, HP.out, HB1.out⟩
    case round =>
      clear HP HB1
      obtain ⟨j, gt, bm, gm, v, vm, own, rfl, rfl, rfl, hqj, hp, hb⟩ := hrel
      obtain ⟨wo, hwo⟩ : ∃ wo : World, wo = wr := ⟨_, rfl⟩
      subst hwo
      by_cases hj : j < n
      · have hj' : (j : Int) < (n : Int) := by omega
        obtain ⟨bl, off, rfl, hbl, hcell⟩ := (hC.below hb) (by omega)
        obtain ⟨hfine, c0, c1, c2, c3⟩ := hcell j hj
        generalize cs j = x at hfine c0 c1 c2 c3
        obtain ⟨xd, xn, xs, xA, xm, xc, xss⟩ := x
        dsimp only at c0 c1 c2 c3
        have hxs : xs.size ≤ maxLen := hfine.size
        have hreach : xm ≤ 4611686018427387904 := hfine.reach
        have hxc : xm ≤ xc := hfine.le
        have hlow : -9223372036854775808 ≤ xn := hfine.low
        have hhigh : xn ≤ 9223372036854775807 := hfine.high
        have hba := (Below.refl wo.heap.size wo).alloc (Nat.le_refl _) (Obj.cells #[.int .i64 xd, .int .i64 xn, .string xs, .slice xA xm xc] 37)
        have HS := Lib.hid (hfine.strs.below (hba.mono hb.size))
        have HQ := Lib.hid (Blk.new wo 37 #[.int .i64 xd, .int .i64 xn, .string xs, .slice xA xm xc])
        have HP := Lib.hid (hp.below hba)
        have HB := Lib.hid (hb.alloc hb.size (Obj.cells #[.int .i64 xd, .int .i64 xn, .string xs, .slice xA xm xc] 37))
        have HF := Lib.hid (fun k (h : Foot gt bm v k) => Nat.ne_of_lt (hp.1.foot_lt h).2)
        have HM := Lib.hid (fun k (h : MFoot gm vm k) => Nat.ne_of_lt (hp.2.1.foot_lt h).2)
        have hsz : W.heap.size ≤ wo.heap.size + 1 := Nat.le_succ_of_le hb.size
        clear hcell hfine hp hb hba
        go_upto_block 2 with fail
        go_cut [3, 4, 7] (fun p3 p4 p7 wx => ∃ (gt bm gm : Nat) (v vm : Value) (own : List (List UInt8)), p3 = .pointer (some ⟨gt, 0, none⟩) ∧ p4 = .pointer (some ⟨gm, 0, none⟩) ∧ p7 = .bool true ∧ Pair wx W.heap.size gt bm v gm vm own own ∧ Below W.heap.size W wx)
        case first =>
          by_cases hd0 : xd = 0
          · subst hd0
            go_wp2_with fail
            refine (text_any _ (hL.below HB.out hL.lt) W.heap.size gt bm v own xn hlow hhigh HP.out.1).mono ?_
            rintro e w5 ⟨rfl, hb5⟩
            have HP5 := Lib.hid (HP.out.below hb5)
            have HB5 := Lib.hid (HB.out.trans (hb5.mono HB.out.size))
            have e1 : w5.cell? ⟨wo.heap.size, 1, none⟩ = some (.int .i64 xn) := (hb5.cell HQ.out.lt).trans (by simp)
            clear hb5
            obtain ⟨sx, bx, hsx⟩ := @text_both own xn
            have HSX := Lib.hid hsx
            rw [hsx]
            clear hsx
            go_wp2_with fail
            refine (refText_any w5 W.heap.size gm vm own xn hlow hhigh HP5.out.2.1).mono ?_
            rintro e w6 ⟨rfl, hb6⟩
            rw [HSX.out]
            have HP6 := Lib.hid (HP5.out.below hb6)
            have HB6 := Lib.hid (HB5.out.trans (hb6.mono HB5.out.size))
            clear hb6
            go_wp2_with fail
            go_meet
            exact ⟨_, _, _, _, _, _, rfl, rfl, rfl, HP6.out, HB6.out⟩
          · have hn0 : (xd == 0) = false := by simp [hd0]
            by_cases hd1 : xd = 1
            · subst hd1
              clear hd0 hn0
              generalize wo.alloc (Obj.cells #[.int .i64 1, .int .i64 xn, .string xs, .slice xA xm xc] 37) = w1 at HS HQ HP HB ⊢
              clear hsz
              have HPD : Hid (Pair w1.drew W.heap.size gt bm v gm vm own own) := Lib.hid (HP.out.below ((Below.refl _ _).drew))
              have HBD : Hid (Below W.heap.size W w1.drew) := Lib.hid HB.out.drew
              have HSD : Hid (Strs w1.drew W.heap.size xA xm xss) := Lib.hid HS.out
              have HQD : Hid (Blk w1.drew wo.heap.size 37 #[.int .i64 1, .int .i64 xn, .string xs, .slice xA xm xc]) := Lib.hid HQ.out
              have e3 : w1.drew.cell? ⟨wo.heap.size, 3, none⟩ = some (.slice xA xm xc) := by simpa using HQD.out.cell 3
              have q3 : ∀ w', Rest w1.drew w' gt bm v gm vm → w'.cell? ⟨wo.heap.size, 3, none⟩ = some (.slice xA xm xc) := fun w' hr => by
                have h1 : Blk w' wo.heap.size 37 #[.int .i64 1, .int .i64 xn, .string xs, .slice xA xm xc] := (hr wo.heap.size HQD.out.lt (fun hf => HF.out _ hf rfl) (fun hf => HM.out _ hf rfl)).trans HQD.out
                simpa using h1.cell 3
              by_cases hall : AddAll own (listL xss)
              · have HALL := Lib.hid hall
                clear hall
                go_upto_region 19 with fail
                go_region_with (first
                  | (go_at_call 14; refine (add_yes w1.drew W.heap.size gt bm v own HPD.out.1 xA xm xc xss HSD.out hreach hxc HALL.out).mono ?_; rintro e wa ⟨rfl, hta⟩; obtain ⟨va, hpa, hba, hra⟩ := HPD.out.took hta HBD.out.size; have HPA := Lib.hid hpa; have HBA := Lib.hid (HBD.out.trans hba); have HSA := Lib.hid (HSD.out.below hba); have e3a := q3 wa hra; clear hpa hba hra hta)
                  | (go_at_call 15; refine (refAdd_yes w1.drew W.heap.size gm vm own HPD.out.2.1 xA xm xc xss HSD.out hreach HALL.out).mono ?_; rintro e wb ⟨rfl, hta⟩; obtain ⟨vb, hpa, hba, hra⟩ := HPD.out.mtook hta HBD.out.size; have HPB := Lib.hid hpa; have HBB := Lib.hid (HBD.out.trans hba); have HSB := Lib.hid (HSD.out.below hba); have e3b := q3 wb hra; clear hpa hba hra hta)
                  | (go_at_call 15; refine (refAdd_yes wa W.heap.size gm vm own HPA.out.2.1 xA xm xc xss HSA.out hreach HALL.out).mono ?_; rintro e we ⟨rfl, hta⟩; obtain ⟨vb, hpa, hba, _⟩ := HPA.out.mtook hta HBA.out.size; have HPE := Lib.hid hpa; have HBE := Lib.hid (HBA.out.trans hba); clear hpa hba hta)
                  | (go_at_call 14; refine (add_yes wb W.heap.size gt bm v own HPB.out.1 xA xm xc xss HSB.out hreach hxc HALL.out).mono ?_; rintro e we ⟨rfl, hta⟩; obtain ⟨va, hpa, hba, _⟩ := HPB.out.took hta HBB.out.size; have HPE := Lib.hid hpa; have HBE := Lib.hid (HBB.out.trans hba); clear hpa hba hta))
                all_goals
                  go_wp2_with fail
                  go_meet
                  exact ⟨_, _, _, _, _, _, rfl, rfl, rfl, HPE.out, HBE.out⟩
              · have HALL := Lib.hid hall
                clear hall
                go_upto_region 19 with fail
                go_region_with (first
                  | (go_at_call 14; refine (add_no w1.drew W.heap.size gt bm v own HPD.out.1 xA xm xc xss HSD.out hreach hxc HALL.out).mono ?_; rintro e wa ⟨rfl, rfl⟩)
                  | (go_at_call 15; refine (refAdd_no w1.drew W.heap.size gm vm own HPD.out.2.1 xA xm xc xss HSD.out hreach HALL.out).mono ?_; rintro e wb ⟨rfl, hba⟩; have HPE := Lib.hid (HPD.out.below hba); have HBE := Lib.hid (HBD.out.trans (hba.mono HBD.out.size)); have HSB := Lib.hid (HSD.out.below (hba.mono HBD.out.size)); have e3b := (hba.cell (p := ⟨wo.heap.size, 3, none⟩) HQD.out.lt).trans e3; clear hba)
                  | (go_at_call 14; refine (add_no wb W.heap.size gt bm v own HPE.out.1 xA xm xc xss HSB.out hreach hxc HALL.out).mono ?_; rintro e we ⟨rfl, rfl⟩))
                all_goals
                  go_wp2_with fail
                  go_meet
                  exact ⟨_, _, _, _, _, _, rfl, rfl, rfl, HPE.out, HBE.out⟩
            · have hn1 : (xd == 1) = false := by simp [hd1]
              by_cases hd2 : xd = 2
              · subst hd2
                clear hd0 hd1 hn0 hn1
                go_wp2_with fail
                refine (copy_any _ W.heap.size gt bm v own HP.out.1).mono ?_
                rintro e w5 ⟨gc, rfl, bc, vc, htc, hb5⟩
                have HP5 := Lib.hid (HP.out.below hb5)
                have HTC := Lib.hid htc
                have HB5 := Lib.hid (HB.out.trans (hb5.mono HB.out.size))
                clear htc hb5
                go_wp2_with fail
                refine (refCopy_any w5 W.heap.size gm vm own HP5.out.2.1).mono ?_
                rintro e w6 ⟨gd, vd, rfl, hmc, hb6⟩
                have HP6 := Lib.hid (show Pair w6 W.heap.size gc bc vc gd vd own own from ⟨(HTC.out.below hb6).up HB.out.size, hmc.up HB5.out.size, fun k hk hf => by
                  have h1 := (HTC.out.foot_lt hk).2
                  have h2 := (hmc.foot_lt hf).1
                  omega⟩)
                have HB6 := Lib.hid (HB5.out.trans (hb6.mono HB5.out.size))
                clear hmc hb6
                go_wp2_with fail
                go_meet
                exact ⟨_, _, _, _, _, _, rfl, rfl, rfl, HP6.out, HB6.out⟩
              · have hn2 : (xd == 2) = false := by simp [hd2]
                clear hd0 hd1 hd2
                go_wp2_with fail
                refine (number_is _ W.heap.size gt bm v own xs HP.out.1 hxs).mono ?_
                rintro e w5 ⟨k5, r5, Y, rfl, htook, _, hnum⟩
                obtain ⟨v5, hp5, hb5, hr5⟩ := HP.out.took htook HB.out.size
                have e2 : w5.cell? ⟨wo.heap.size, 2, none⟩ = some (.string xs) := by
                  have h1 : Blk w5 wo.heap.size 37 #[.int .i64 xd, .int .i64 xn, .string xs, .slice xA xm xc] := (hr5 wo.heap.size HQ.out.lt (fun hf => HF.out _ hf rfl) (fun hf => HM.out _ hf rfl)).trans HQ.out
                  simpa using h1.cell 2
                have HP5 := Lib.hid hp5
                have HB5 := Lib.hid (HB.out.trans hb5)
                have HNUM := Lib.hid hnum
                clear hp5 hb5 hr5 htook hnum
                go_wp2_with fail
                refine (refNumber_any w5 W.heap.size gm vm own xs HP5.out.2.1).mono ?_
                rintro e w6 ⟨rfl, ht6⟩
                rw [HNUM.out] at ht6 ⊢
                obtain ⟨vm6, hp6, hb6, _⟩ := HP5.out.mtook ht6 HB5.out.size
                have HP6 := Lib.hid hp6
                have HB6 := Lib.hid (HB5.out.trans hb6)
                clear hp6 hb6 ht6
                go_wp2_with fail
                go_meet
                exact ⟨_, _, _, _, _, _, rfl, rfl, rfl, HP6.out, HB6.out⟩
        case rest =>
          obtain ⟨gt6, bm6, gm6, v6, vm6, own6, rfl, rfl, rfl, hp6, hb6⟩ := hcut
          have HP6 := Lib.hid hp6
          have HB6 := Lib.hid hb6
          clear hp6 hb6 HP HB HF HM HS HQ
          obtain ⟨Am, cm, rfl, _⟩ := own_reads HP6.out.2.1.2.1
          have hol : own6.length ≤ 1000 := HP6.out.2.1.2.2.2
          have HPD : Hid (Pair wc.drew W.heap.size gt6 bm6 v6 gm6 (.slice Am own6.length cm) own6 own6) := Lib.hid (HP6.out.below ((Below.refl _ _).drew))
          have HBD : Hid (Below W.heap.size W wc.drew) := Lib.hid HB6.out.drew
          have e0 : wc.drew.cell? ⟨gm6, 0, none⟩ = some (.slice Am own6.length cm) := by simpa using HPD.out.2.1.1.cell 0
          clear HP6 HB6
          go_wp2_with fail
          go_region_with (first
            | (go_at_call 10; refine (own_any wc.drew W.heap.size gt6 bm6 v6 own6 HPD.out.1).mono ?_; rintro e w8 ⟨v8, rfl, ho8, hb8⟩; obtain ⟨A8, c8, rfl, _⟩ := own_reads ho8; have HO8 := Lib.hid ho8; have e1 := (hb8.cell (p := ⟨gm6, 0, none⟩) HPD.out.2.1.1.lt).trans e0; have HR8 := Lib.hid (ownsRow_heap HPD.out.2.1.2.1 (fun g hg => hb8.block g (HPD.out.2.1.2.1.lt g hg).2)); have HP8 := Lib.hid (HPD.out.below hb8); have HB8 := Lib.hid (HBD.out.trans (hb8.mono HBD.out.size)); clear ho8 hb8)
            | (go_at_call 19; refine (same_any w8 _ _ A8 Am c8 cm own6 HO8.out HR8.out hol).mono ?_; rintro e w9 ⟨rfl, hb9⟩; have HP9 := Lib.hid (HP8.out.below hb9); have HB9 := Lib.hid (HB8.out.trans (hb9.mono HB8.out.size)); clear hb9))
          all_goals
            go_wp2_with fail
            go_roundg (n - j - 1)
            case measure => omega
            case rel => exact ⟨j + 1, gt6, bm6, gm6, v6, _, own6, rfl, rfl, by go_num, by omega, HP9.out, HB9.out⟩
      · obtain rfl : j = n := by omega
        have HB := Lib.hid hb
        clear hp hb
        go_wp2_with fail
        refine (awake_end W wo hL HB.out).mono ?_
        rintro e w5 ⟨rfl, hb5⟩
        go_wp2_with fail
        go_ret
        exact ⟨rfl, hb5⟩
end Go.Proofs.YtmomebakkpjdgaaDoor
