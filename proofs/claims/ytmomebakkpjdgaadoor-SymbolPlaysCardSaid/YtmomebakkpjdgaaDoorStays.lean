/- walk of SymbolStays -/
import Derived.Test.YtmomebakkpjdgaaDoorKeep
import Derived.Test.YtmomebakkpjdgaaDoorRowWalk
namespace Go.Proofs.YtmomebakkpjdgaaDoor
open Go.RowKit Go.Maps

theorem awake_end (W w : World) (hL : Len W) (h : Below W.heap.size W w) : Calls Tryd.prog 7 #[] w fun e w' => e = .returned (.bool true) ∧ Below W.heap.size W w' :=
  (awake_any w (hL.below h hL.lt)).mono fun _ _ ⟨he, hb⟩ => ⟨he, h.trans (hb.mono h.size)⟩

set_option maxRecDepth 1000000 in
set_option maxHeartbeats 4000000 in
theorem stays_any (W : World) (hL : Len W) (A : Option Addr) (n c : Nat) (cs : Nat → CallD) (hC : CallsIn W W.heap.size A n cs) (s : ByteArray) (hs : s.size ≤ maxLen) (hn : n ≤ 4611686018427387904) :
    Calls Tryd.prog 6 #[.slice A n c, .string s] W fun e w' => e = .returned (.bool true) ∧ Below W.heap.size W w' := by
  go_enter Tryd.func6, Tryd.ntmps6
  go_wp2_with fail
  refine (few_any W A n c cs hC).mono ?_
  rintro e w0 ⟨r, rfl, hb0⟩
  have HB0 := Lib.hid hb0
  clear hb0
  cases r
  · go_wp2_with fail
    refine (awake_end W w0 hL HB0.out).mono ?_
    rintro e w5 ⟨rfl, hb5⟩
    go_wp2_with fail
    go_ret
    exact ⟨rfl, hb5⟩
  · by_cases hbig : 256 < s.size
    · have hbig' : (256 : Int) < (s.size : Int) := by omega
      go_wp2_with fail
      refine (awake_end W w0 hL HB0.out).mono ?_
      rintro e w5 ⟨rfl, hb5⟩
      go_wp2_with fail
      go_ret
      exact ⟨rfl, hb5⟩
    · have hbig' : (s.size : Int) ≤ 256 := by omega
      go_wp2_with fail
      refine (new_any w0 (hL.below HB0.out hL.lt)).mono ?_
      rintro e w1 ⟨gt, bm, rfl, ht1, hb1⟩
      have H1 := Lib.hid ht1
      have HB1 := Lib.hid (HB0.out.trans (hb1.mono HB0.out.size))
      clear ht1 hb1
      go_wp2_with fail
      refine (number_first w1 w0.heap.size gt bm _ s H1.out hs (by omega)).mono ?_
      rintro e w2 ⟨k0, X, rfl, htook, hk0, hX, hk0lt⟩
      have hbel := Took.below H1.out htook (Nat.le_trans H1.out.2.2.2.1 (Nat.le_of_lt H1.out.1.lt))
      obtain ⟨v2, ht2, _, _⟩ := htook
      have H2 := Lib.hid ht2
      have HK0 := Lib.hid hk0
      have HB2 := Lib.hid (HB1.out.trans (hbel.mono HB0.out.size))
      clear ht2 hk0 hbel
      go_wp2_with fail
      refine (copy_any w2 w0.heap.size gt bm v2 X H2.out).mono ?_
      rintro e w3 ⟨gc, rfl, bc, vc, htc, hb3⟩
      have HC := Lib.hid htc
      have HT := Lib.hid (H2.out.below hb3)
      have HA := Lib.hid (copied_apart H2.out htc)
      have HB3 := Lib.hid (HB2.out.trans (hb3.mono HB2.out.size))
      have hB0 : W.heap.size ≤ w0.heap.size := HB0.out.size
      clear htc hb3 HB0 H1 HB1 H2 HB2
      go_wp2_with fail
      go_loopg [44] n (fun q i wx => ∃ (j : Nat) (v : Value) (own : List (List UInt8)), i = .int .i64 (j : Int) ∧ q + j = n ∧ Tab wx w0.heap.size gt bm v own ∧ Tab wx w2.heap.size gc bc vc X ∧ Apart gt bm v gc bc vc ∧ numOf own s.data.toList = some k0 ∧ Below W.heap.size W wx)
      case atStart => exact ⟨0, v2, X, rfl, rfl, HT.out, HC.out, HA.out, HK0.out, HB3.out⟩
      case round =>
        obtain ⟨j, v, own, rfl, hqj, ht, hc, ha, hk, hb⟩ := hrel
        obtain ⟨wo, hwo⟩ : ∃ wo : World, wo = wr := ⟨_, rfl⟩
        subst hwo
        by_cases hj : j < n
        · have hj' : (j : Int) < (n : Int) := by omega
          obtain ⟨bl, off, rfl, hbl, hcell⟩ := (hC.below hb) (by omega)
          obtain ⟨hfine, c0, c1, c2, c3⟩ := hcell j hj
          generalize cs j = x at hfine c0 c1 c2 c3
          obtain ⟨xd, xn, xs, xA, xm, xc, xss⟩ := x
          dsimp only at c0 c1 c2 c3
          have hxs : xs.size ≤ maxLen := hfine.size
          have hreach : xm ≤ 4611686018427387904 := hfine.reach
          have hxc : xm ≤ xc := hfine.le
          have hba := (Below.refl wo.heap.size wo).alloc (Nat.le_refl _) (Obj.cells #[.int .i64 xd, .int .i64 xn, .string xs, .slice xA xm xc] 37)
          have HS := Lib.hid (hfine.strs.below (hba.mono hb.size))
          have HQ := Lib.hid (Blk.new wo 37 #[.int .i64 xd, .int .i64 xn, .string xs, .slice xA xm xc])
          have HT := Lib.hid (ht.below hba)
          have HC := Lib.hid (hc.below hba)
          have HA := Lib.hid ha
          have HN := Lib.hid hk
          have HB := Lib.hid (hb.alloc hb.size (Obj.cells #[.int .i64 xd, .int .i64 xn, .string xs, .slice xA xm xc] 37))
          have HF := Lib.hid (fun k (h : Foot gt bm v k) => Nat.ne_of_lt (ht.foot_lt h).2)
          have HW : Hid (W.heap.size ≤ w0.heap.size) := Lib.hid hB0
          clear hcell hfine ht hc ha hk hb hba
          by_cases hd : xd = 1
          · subst hd
            go_wp2_with fail
            refine (add_any _ w0.heap.size gt bm v own HT.out xA xm xc xss (HS.out.more hB0) hreach hxc).mono ?_
            rintro e w5 hadd
            obtain ⟨r, own5, rfl, htook, hn5⟩ : ∃ r own5, e = .returned (.bool r) ∧ Took (wo.alloc (Obj.cells #[.int .i64 1, .int .i64 xn, .string xs, .slice xA xm xc] 37)) w0.heap.size gt bm v own5 w5 ∧ numOf own5 s.data.toList = some k0 := by
              rcases hadd with ⟨_, rfl, ht⟩ | ⟨_, rfl, rfl⟩
              · exact ⟨true, _, rfl, ht, numOf_keep HN.out⟩
              · exact ⟨false, own, rfl, Took.same HT.out (Below.refl _ _), HN.out⟩
            obtain ⟨v5, t5, t6, t7, t8⟩ := htook.apart HC.out HA.out
            have HT5 := Lib.hid t5
            have HC5 := Lib.hid t6
            have HA5 := Lib.hid t7
            have HN5 := Lib.hid hn5
            have HB5 := Lib.hid (HB.out.trans (t8.below HB.out.size (fun k hk => Nat.le_trans HW.out (HT.out.foot_lt hk).1)))
            clear hadd t5 t6 t7 t8 hn5 htook
            go_wp2_with fail
            refine (text_num w5 (hL.below HB5.out hL.lt) w0.heap.size gt bm v5 own5 k0 s HT5.out HN5.out).mono ?_
            rintro e w6 ⟨rfl, hb6⟩
            have HT6 := Lib.hid (HT5.out.below hb6)
            have HC6 := Lib.hid (HC5.out.below hb6)
            have HB6 := Lib.hid (HB5.out.trans (hb6.mono HB5.out.size))
            clear hb6
            go_wp2_with fail
            refine (number_known w6 _ gt bm v5 own5 s k0 HT6.out hs HN5.out).mono ?_
            rintro e w7 ⟨rfl, rfl⟩
            go_wp2_with fail
            go_roundg (gk - 1)
            case measure => omega
            case rel => exact ⟨j + 1, v5, own5, by go_num, by omega, HT6.out, HC6.out, HA5.out, HN5.out, HB6.out⟩
          · have hd' : (xd == 1) = false := by simp [hd]
            clear hd
            go_wp2_with fail
            refine (number_is _ w0.heap.size gt bm v own xs HT.out hxs).mono ?_
            rintro e w5 ⟨k5, r, Y, rfl, htook, hk5, _⟩
            obtain ⟨v5, t5, t6, t7, t8⟩ := htook.apart HC.out HA.out
            have q5 : Blk w5 wo.heap.size 37 #[.int .i64 xd, .int .i64 xn, .string xs, .slice xA xm xc] := (t8.block wo.heap.size HQ.out.lt (fun hf => HF.out _ hf rfl)).trans HQ.out
            have hn5 : numOf (own ++ Y) s.data.toList = some k0 := numOf_keep HN.out
            generalize own ++ Y = own5 at t5 hk5 hn5
            have HT5 := Lib.hid t5
            have HC5 := Lib.hid t6
            have HA5 := Lib.hid t7
            have HN5 := Lib.hid hn5
            have HB5 := Lib.hid (HB.out.trans (t8.below HB.out.size (fun k hk => Nat.le_trans HW.out (HT.out.foot_lt hk).1)))
            cases r
            · clear t5 t6 t7 t8 hn5 htook hk5 q5
              go_wp2_with fail
              refine (text_num w5 (hL.below HB5.out hL.lt) w0.heap.size gt bm v5 own5 k0 s HT5.out HN5.out).mono ?_
              rintro e w6 ⟨rfl, hb6⟩
              have HT6 := Lib.hid (HT5.out.below hb6)
              have HC6 := Lib.hid (HC5.out.below hb6)
              have HB6 := Lib.hid (HB5.out.trans (hb6.mono HB5.out.size))
              clear hb6
              go_wp2_with fail
              refine (number_known w6 _ gt bm v5 own5 s k0 HT6.out hs HN5.out).mono ?_
              rintro e w7 ⟨rfl, rfl⟩
              go_wp2_with fail
              go_roundg (gk - 1)
              case measure => omega
              case rel => exact ⟨j + 1, v5, own5, by go_num, by omega, HT6.out, HC6.out, HA5.out, HN5.out, HB6.out⟩
            · have HK5 := Lib.hid (hk5 rfl)
              have HQ5 := Lib.hid q5
              clear t5 t6 t7 t8 hn5 htook hk5 q5
              go_wp2_with fail
              refine (text_num w5 (hL.below HB5.out hL.lt) w0.heap.size gt bm v5 own5 k5 xs HT5.out HK5.out).mono ?_
              rintro e w8 ⟨rfl, hb8⟩
              have HT8 := Lib.hid (HT5.out.below hb8)
              have HC8 := Lib.hid (HC5.out.below hb8)
              have HB8 := Lib.hid (HB5.out.trans (hb8.mono HB5.out.size))
              have e2 : w8.cell? ⟨wo.heap.size, 2, none⟩ = some (.string xs) := (hb8.cell HQ5.out.lt).trans (by simpa using HQ5.out.cell 2)
              clear hb8
              go_wp2_with fail
              refine (text_num w8 (hL.below HB8.out hL.lt) w0.heap.size gt bm v5 own5 k0 s HT8.out HN5.out).mono ?_
              rintro e w6 ⟨rfl, hb6⟩
              have HT6 := Lib.hid (HT8.out.below hb6)
              have HC6 := Lib.hid (HC8.out.below hb6)
              have HB6 := Lib.hid (HB8.out.trans (hb6.mono HB8.out.size))
              clear hb6
              go_wp2_with fail
              refine (number_known w6 _ gt bm v5 own5 s k0 HT6.out hs HN5.out).mono ?_
              rintro e w7 ⟨rfl, rfl⟩
              go_wp2_with fail
              go_roundg (gk - 1)
              case measure => omega
              case rel => exact ⟨j + 1, v5, own5, by go_num, by omega, HT6.out, HC6.out, HA5.out, HN5.out, HB6.out⟩
        · obtain rfl : j = n := by omega
          have HT := Lib.hid ht
          have HC := Lib.hid hc
          have HB := Lib.hid hb
          clear ht hc hb ha hk
          go_wp2_with fail
          refine (own_any wo w0.heap.size gt bm v own HT.out).mono ?_
          rintro e w5 ⟨v5, rfl, ho5, hb5⟩
          obtain ⟨A5, c5, rfl, _⟩ := own_reads ho5
          have HO5 := Lib.hid ho5
          have HT5 := Lib.hid (HT.out.below hb5)
          have HC5 := Lib.hid (HC.out.below hb5)
          have HB5 := Lib.hid (HB.out.trans (hb5.mono HB.out.size))
          have hol : own.length ≤ 1000 := HT5.out.2.2.2.2.2.1
          clear ho5 hb5
          go_wp2_with fail
          go_loopg [114] own.length (fun q i wx => ∃ j2 : Nat, i = .int .i64 (j2 : Int) ∧ q + j2 = own.length ∧ wx = w5)
          case atStart => exact ⟨0, rfl, rfl, rfl⟩
          case round =>
            obtain ⟨j2, rfl, hqj2, rfl⟩ := hrel
            by_cases hj2 : j2 < own.length
            · have hj2' : (j2 : Int) < (own.length : Int) := by omega
              obtain ⟨sx, hsx, hcell, A6, hA6⟩ : ∃ sx : ByteArray, sx.data.toList = own[j2] ∧ ∃ g, wr.cell? ⟨g, j2, none⟩ = some (.string sx) ∧ A5 = some ⟨g, 0, none⟩ := by
                rcases HO5.out.2 with ⟨h, h0⟩ | ⟨g, cap, cur, h, _⟩
                · omega
                · injection h with h1 h2 h3
                  subst h1 h3
                  have h4 := HO5.out.cellAt j2 (by omega)
                  refine ⟨⟨own[j2].toArray⟩, rfl, g, ?_, rfl⟩
                  rw [h4]
                  simp [List.getElem?_eq_getElem hj2]
                  rfl
              subst hA6
              have hsz : sx.size ≤ 256 := by
                have h := HT5.out.2.2.2.2.2.2.2 own[j2] (List.getElem_mem hj2)
                rw [← hsx] at h
                simpa using h
              have HNK := Lib.hid (show numOf own sx.data.toList = some (1024 + j2) by rw [hsx]; exact HT5.out.2.2.2.2.2.2.1 j2 _ (List.getElem?_eq_getElem hj2))
              clear hsx
              go_wp2_with fail
              refine (number_known wr _ gt bm v own sx (1024 + j2) HT5.out (by unfold maxLen; omega) HNK.out).mono ?_
              rintro e w7 ⟨rfl, rfl⟩
              rw [show (((1024 + j2 : Nat) : Int)) = 1024 + (j2 : Int) by omega]
              go_wp2_with fail
              go_roundg (own.length - j2 - 1)
              case measure => omega
              case rel => exact ⟨j2 + 1, by go_num, by omega, rfl⟩
            · obtain rfl : j2 = own.length := by omega
              go_wp2_with fail
              refine (own_any wr w2.heap.size gc bc vc X HC5.out).mono ?_
              rintro e w6 ⟨v6, rfl, ho6, hb6⟩
              obtain ⟨A6, c6, rfl, _⟩ := own_reads ho6
              have HB6 := Lib.hid (HB5.out.trans (hb6.mono HB5.out.size))
              have hX' : (X.length : Int) ≤ 1 := by omega
              clear ho6 hb6
              go_wp2_with fail
              refine (awake_end W w6 hL HB6.out).mono ?_
              rintro e w7 ⟨rfl, hb7⟩
              go_wp2_with fail
              go_ret
              exact ⟨rfl, hb7⟩
end Go.Proofs.YtmomebakkpjdgaaDoor
