/- Text, Copy -/
import Derived.Test.YtmomebakkpjdgaaDoorRow
namespace Go.Proofs.YtmomebakkpjdgaaDoor
open Go.RowKit Go.Maps

/-- the text of a number -/
def textOf (own : List (List UInt8)) (n : Int) : Option (List UInt8) := if 1024 ≤ n then own[(n - 1024).toNat]? else if 0 ≤ n then knownL[n.toNat]? else none
def textV (o : Option (List UInt8)) : Value := .tuple #[strV (o.getD []), .bool o.isSome]

theorem textOf_num {own : List (List UInt8)} {l : List UInt8} {k : Nat} (h : numOf own l = some k) : textOf own (k : Int) = some l := by
  unfold numOf at h
  unfold textOf
  split at h
  · rename_i i hi
    injection h with h
    subst h
    have := known_lt hi
    rw [if_neg (by omega), if_pos (by omega)]
    exact idx_get hi
  · obtain ⟨j, hj, h⟩ := Option.map_eq_some_iff.1 h
    subst h
    rw [if_pos (by omega), show ((((1024 + j : Nat) : Int) - 1024).toNat) = j by omega]
    exact idx_get hj

set_option maxRecDepth 100000 in
set_option maxHeartbeats 2000000 in
theorem text_any (w : World) (hL : Len w) (B gt bm : Nat) (v : Value) (own : List (List UInt8)) (n : Int) (hn : -9223372036854775808 ≤ n) (hn' : n ≤ 9223372036854775807) (h : Tab w B gt bm v own) :
    Calls Tryd.prog 12 #[.pointer (some ⟨gt, 0, none⟩), .int .i64 n] w fun e w' => e = .returned (textV (textOf own n)) ∧ Below w.heap.size w w' := by
  obtain ⟨hb, hown, _, _, _, hlen, _, _⟩ := h
  have c1 : w.cell? ⟨gt, 1, none⟩ = some v := by simpa using hb.cell 1
  have hgt := hb.lt
  have hB := (Below.refl w.heap.size w).alloc (Nat.le_refl _) (.cells (knownL.map strV).toArray 9)
  have hK := Blk.new w 9 (knownL.map strV).toArray
  have d1 : (w.alloc (.cells (knownL.map strV).toArray 9)).cell? ⟨gt, 1, none⟩ = some v := (hB.cell hgt).trans c1
  by_cases h1 : 1024 ≤ n
  · obtain ⟨m, rfl⟩ : ∃ m : Nat, n = 1024 + (m : Int) := ⟨(n - 1024).toNat, by omega⟩
    have hsub : wrap64 (1024 + (m : Int) - 1024) = (m : Int) := by unfold wrap64; omega
    have ht : textOf own (1024 + (m : Int)) = own[m]? := by unfold textOf; rw [if_pos h1, show (1024 + (m : Int) - 1024).toNat = m by omega]
    by_cases h2 : m < own.length
    · rcases hown.2 with ⟨rfl, h0⟩ | ⟨g, cap, cur, rfl, hg, hh, hn3, hcap, hsz, htake⟩
      · omega
      · have hg2 : g < w.heap.size := (hown.lt g rfl).2
        have hcell : (w.alloc (.cells (knownL.map strV).toArray 9)).cell? ⟨g, m, none⟩ = some (strV own[m]) := by
          rw [hB.cell hg2, hown.cellAt m (by omega)]
          simp [List.getElem?_eq_getElem h2]
        have HT := Lib.hid ht
        have HB := Lib.hid hB
        have hm' : (m : Int) < (own.length : Int) := by omega
        obtain ⟨sx, hsx⟩ : ∃ sx : ByteArray, strV own[m] = .string sx := ⟨_, rfl⟩
        rw [hsx] at hcell
        have HSX := Lib.hid hsx
        clear hb hown hB hK ht hsx
        go_enter Tryd.func12, Tryd.ntmps12
        go_wp2_with fail
        refine (known_any w hL).mono ?_
        rintro e w1 ⟨rfl, rfl⟩
        generalize (w.alloc (.cells (knownL.map strV).toArray 9)) = w1 at d1 hcell HB ⊢
        go_wp2_with fail
        go_ret2
        refine ⟨?_, HB.out⟩
        rw [HT.out, List.getElem?_eq_getElem h2]
        unfold textV
        rw [Option.getD_some, HSX.out]
        rfl
    · obtain ⟨A, c, rfl, _⟩ := own_reads hown
      have hnone : own[m]? = none := List.getElem?_eq_none (by omega)
      have HT := Lib.hid (ht.trans hnone)
      have HB := Lib.hid hB
      have hm' : (own.length : Int) ≤ (m : Int) := by omega
      clear hb hown hB hK ht hnone
      go_enter Tryd.func12, Tryd.ntmps12
      go_wp2_with fail
      refine (known_any w hL).mono ?_
      rintro e w1 ⟨rfl, rfl⟩
      generalize (w.alloc (.cells (knownL.map strV).toArray 9)) = w1 at d1 HB ⊢
      go_wp2_with fail
      go_ret2
      exact ⟨by rw [HT.out]; rfl, HB.out⟩
  · have h1' : n < 1024 := by omega
    by_cases h2 : 0 ≤ n ∧ n < 16
    · obtain ⟨m, rfl⟩ : ∃ m : Nat, n = (m : Int) := ⟨n.toNat, by omega⟩
      have hm16 : m < 16 := by omega
      have ht : textOf own (m : Int) = some (knownL.getD m []) := by
        unfold textOf
        have hl : m < knownL.length := hm16
        rw [if_neg h1, if_pos h2.1, Int.toNat_natCast, List.getElem?_eq_getElem hl]
        simp [List.getD, List.getElem?_eq_getElem hl]
      have hcell : (w.alloc (.cells (knownL.map strV).toArray 9)).cell? ⟨w.heap.size, m, none⟩ = some (.string (knownB m)) := by
        have hl : m < knownL.length := hm16
        rw [hK.cell m]
        unfold knownB
        simp [strV, List.getD, List.getElem?_eq_getElem hl]
      have HT := Lib.hid ht
      have HB := Lib.hid hB
      have hm' : (m : Int) < 16 := by omega
      clear hb hown hB hK ht d1 c1
      go_enter Tryd.func12, Tryd.ntmps12
      go_wp2_with fail
      refine (known_any w hL).mono ?_
      rintro e w1 ⟨rfl, rfl⟩
      generalize (w.alloc (.cells (knownL.map strV).toArray 9)) = w1 at hcell HB ⊢
      go_wp2_with fail
      go_ret2
      refine ⟨?_, HB.out⟩
      rw [HT.out]
      rfl
    · have HB := Lib.hid hB
      have hnone : textOf own n = none := by
        unfold textOf
        rw [if_neg h1]
        by_cases h3 : 0 ≤ n
        · rw [if_pos h3]
          exact List.getElem?_eq_none (by rw [known_len]; omega)
        · rw [if_neg h3]
      have HT := Lib.hid hnone
      clear hb hown hB hK hnone d1 c1
      by_cases h3 : n < 0
      · go_enter Tryd.func12, Tryd.ntmps12
        go_wp2_with fail
        refine (known_any w hL).mono ?_
        rintro e w1 ⟨rfl, rfl⟩
        generalize (w.alloc (.cells (knownL.map strV).toArray 9)) = w1 at HB ⊢
        go_wp2_with fail
        go_ret2
        exact ⟨by rw [HT.out]; rfl, HB.out⟩
      · have h4 : 16 ≤ n := by omega
        have h5 : 0 ≤ n := by omega
        go_enter Tryd.func12, Tryd.ntmps12
        go_wp2_with fail
        refine (known_any w hL).mono ?_
        rintro e w1 ⟨rfl, rfl⟩
        generalize (w.alloc (.cells (knownL.map strV).toArray 9)) = w1 at HB ⊢
        go_wp2_with fail
        go_ret2
        exact ⟨by rw [HT.out]; rfl, HB.out⟩

/-- Copy: another table, alike -/
def Copied (w : World) (own : List (List UInt8)) (w' : World) (gc : Nat) : Prop := ∃ bc vc, Tab w' w.heap.size gc bc vc own ∧ Below w.heap.size w w'

theorem clone_num {w : World} {bm n : Nat} {f : List UInt8 → Option Nat} (h : NumMap w bm n f) : ∃ es clock, w.heap[bm]? = some (.map es clock) ∧ ∀ w' b, w'.heap[b]? = some (.map es clock) → NumMap w' b n f := by
  obtain ⟨D, ⟨es, clock, h1, h2⟩, h3⟩ := h
  exact ⟨es, clock, h1, fun w' b hb => ⟨D, ⟨es, clock, hb, h2⟩, h3⟩⟩

theorem clone_str (w : World) (v : Value) (own : List (List UInt8)) (B : Nat) (hown : w.ownsRow B 9 1 v own.length (own.map strV)) (hlen : own.length ≤ 1000) :
    Calls Tryd.prog 22 #[v] w fun e w' => ∃ v', e = .returned v' ∧ w'.ownsRow w.heap.size 9 1 v' own.length (own.map strV) ∧ Below w.heap.size w w' := by
  rcases hown.2 with ⟨rfl, h0⟩ | ⟨g, cap, cur, rfl, hg, hh, hn, hcap, hsz, htake⟩
  · have ho : own = [] := List.eq_nil_of_length_eq_zero h0
    subst ho
    exact (Tryd.slices_Clone_string_nil 0 0 w).mono fun e w1 ⟨he, hw⟩ => by
      subst hw; exact ⟨_, he, World.ownsRow_nil _ _ _ _, Below.refl _ _⟩
  · have hcell : ∀ j, j < (own.map (fun l => (⟨l.toArray⟩ : ByteArray))).length → w.cell? ⟨g, 0 + j, none⟩ = some (.string ((own.map (fun l => (⟨l.toArray⟩ : ByteArray))).getD j ByteArray.empty)) := by
      intro j hj
      rw [List.length_map] at hj
      have := hown.cellAt j (by omega)
      rw [Nat.zero_add, this]
      simp [strV, List.getD, List.getElem?_eq_getElem hj]
    have hc := Tryd.slices_Clone_string g 0 own.length cap (own.map (fun l => (⟨l.toArray⟩ : ByteArray))) w (by simp) (by omega) hcell
    refine hc.mono fun e w1 ⟨v', he, ho, _, hbl⟩ => ⟨v', he, ?_, hbl⟩
    rw [List.take_of_length_le (by simp), List.map_map] at ho
    exact ho

theorem row_le {w : World} {base base' size n : Nat} {e : TypeId} {v : Value} {xs : List Value} (h : w.ownsRow base e size v n xs) (hb : base' ≤ base) : w.ownsRow base' e size v n xs :=
  ⟨h.1, h.2.elim Or.inl (fun ⟨g, cap, cur, hv, hg, r⟩ => Or.inr ⟨g, cap, cur, hv, Nat.le_trans hb hg, r⟩)⟩

theorem copied1 {w w1 : World} {B gt bm : Nat} {v v1 : Value} {own : List (List UInt8)} {es : Array MapEntry} {clock : Nat}
    (hcl : ∀ (w' : World) (b : Nat), w'.heap[b]? = some (Obj.map es clock) → NumMap w' b (16 + own.length) (numOf own)) (h : Tab w B gt bm v own)
    (hb : Below (w.drew.alloc (Obj.map es clock)).heap.size (w.drew.alloc (Obj.map es clock)) w1) (ho : w1.ownsRow (w.drew.alloc (Obj.map es clock)).heap.size 9 1 v1 own.length (own.map strV)) :
    Copied w own (w1.alloc (Obj.cells #[.map (some w.heap.size), v1] 45)) w1.heap.size := by
  have hs : (w.drew.alloc (Obj.map es clock)).heap.size = w.heap.size + 1 := by simp
  rw [hs] at hb ho
  have hs1 := hb.size
  rw [hs] at hs1
  have hm : w1.heap[w.heap.size]? = some (Obj.map es clock) := (hb.block w.heap.size (Nat.lt_succ_self _)).trans (MapKept.heap_alloc w.drew _).1
  have h0 : Below w.heap.size w (w.drew.alloc (Obj.map es clock)) := ((Below.refl w.heap.size w).drew).alloc (Nat.le_refl _) _
  have hbl : Below w.heap.size w w1 := h0.trans (hb.mono (Nat.le_succ _))
  refine ⟨w.heap.size, v1, ⟨Blk.new w1 45 _, (row_le ho (Nat.le_succ _)).alloc _, ?_, by omega, Nat.le_refl _, h.2.2.2.2.2⟩, hbl.alloc (by omega) _⟩
  exact hcl _ _ ((Below.heap_alloc w1 _ _ (by omega)).trans hm)
theorem copied2 {w w1 : World} {B gt bm : Nat} {v v1 : Value} {own : List (List UInt8)} {es : Array MapEntry} {clock : Nat}
    (hcl : ∀ (w' : World) (b : Nat), w'.heap[b]? = some (Obj.map es clock) → NumMap w' b (16 + own.length) (numOf own)) (h : Tab w B gt bm v own)
    (hb : Below w.heap.size w w1) (ho : w1.ownsRow w.drew.heap.size 9 1 v1 own.length (own.map strV)) :
    Copied w own ((w1.alloc (Obj.map es clock)).alloc (Obj.cells #[.map (some w1.heap.size), v1] 45)) (w1.heap.size + 1) := by
  have hs1 := hb.size
  have hg := Blk.new (w1.alloc (Obj.map es clock)) 45 #[.map (some w1.heap.size), v1]
  rw [show (w1.alloc (Obj.map es clock)).heap.size = w1.heap.size + 1 by simp] at hg
  refine ⟨w1.heap.size, v1, ⟨hg, (ho.alloc _).alloc _, ?_, by omega, by omega, h.2.2.2.2.2⟩, (hb.alloc (by omega) _).alloc (by simp; omega) _⟩
  exact hcl _ _ ((Below.heap_alloc _ _ _ (by simp)).trans (MapKept.heap_alloc w1 _).1)

set_option maxRecDepth 100000 in
set_option maxHeartbeats 4000000 in
theorem copy_any (w : World) (B gt bm : Nat) (v : Value) (own : List (List UInt8)) (h : Tab w B gt bm v own) :
    Calls Tryd.prog 16 #[.pointer (some ⟨gt, 0, none⟩)] w fun e w' => ∃ gc, e = .returned (.pointer (some ⟨gc, 0, none⟩)) ∧ Copied w own w' gc := by
  have H := Lib.hid h
  obtain ⟨hb, hown, hnm, _, _, hlen, hgood, hall⟩ := h
  obtain ⟨es, clock, hes, hcl⟩ := clone_num hnm
  have c0 : w.cell? ⟨gt, 0, none⟩ = some (.map (some bm)) := by simpa using hb.cell 0
  have c1 : w.cell? ⟨gt, 1, none⟩ = some v := by simpa using hb.cell 1
  obtain ⟨A, c, rfl, _⟩ := own_reads hown
  have HES := Lib.hid hes
  have HCL := Lib.hid hcl
  have HO := Lib.hid hown
  have hgt := hb.lt
  have hbm := hnm.lt
  clear hb hown hnm hes hcl hgood hall
  go_enter Tryd.func16, Tryd.ntmps16
  go_upto_region 3 with fail
  have HESD : Hid (w.drew.heap[bm]? = some (Obj.map es clock)) := Lib.hid HES.out
  have HOD : Hid (w.drew.ownsRow B 9 1 (.slice A own.length c) own.length (own.map strV)) := Lib.hid HO.out
  go_region_with (first
    | (go_at_call 26; refine (Tryd.maps_Clone bm es clock w.drew HESD.out).mono ?_; rintro e wm ⟨rfl, rfl⟩)
    | (go_at_call 26; refine (Tryd.maps_Clone bm es clock w1 ((HBL.out.block bm hbm).trans HES.out)).mono ?_; rintro e wm ⟨rfl, rfl⟩)
    | (go_at_call 22; refine (clone_str w.drew _ own B HOD.out hlen).mono ?_; rintro e w1 ⟨v1, rfl, ho1, hbl1⟩; obtain ⟨A1, c1', rfl, _⟩ := own_reads ho1; have HBL : Hid (Below w.heap.size w w1) := Lib.hid hbl1; have d0 := (HBL.out.cell (p := ⟨gt, 0, none⟩) hgt).trans c0; have HO1 := Lib.hid ho1; clear ho1 hbl1)
    | (go_at_call 22; refine (clone_str _ _ own B (HOD.out.alloc (.map es clock)) hlen).mono ?_; rintro e w1 ⟨v1, rfl, ho1, hbl1⟩; obtain ⟨A1, c1', rfl, _⟩ := own_reads ho1; have HBL2 := Lib.hid hbl1; have HO1 := Lib.hid ho1; clear ho1 hbl1))
  all_goals
    go_wp2_with fail
    go_ret
    first
      | exact ⟨_, rfl, copied1 HCL.out H.out HBL2.out HO1.out⟩
      | exact ⟨_, rfl, copied2 HCL.out H.out HBL.out HO1.out⟩
end Go.Proofs.YtmomebakkpjdgaaDoor
