/- the reference's Number, Text, Copy -/
import Derived.Test.YtmomebakkpjdgaaDoorRef
namespace Go.Proofs.YtmomebakkpjdgaaDoor
open Go.RowKit Go.Maps

def MFoot (gm : Nat) (v : Value) (k : Nat) : Prop := k = gm ∨ v.ownBlock = some k
def MTook (w : World) (B gm : Nat) (v : Value) (own : List (List UInt8)) (w' : World) : Prop :=
  ∃ v', MTab w' B gm v' own ∧ Keeps w w' (fun k => k = gm) ∧ ∀ k, v'.ownBlock = some k → v.ownBlock = some k ∨ w.heap.size ≤ k
theorem MTook.same {w w' : World} {B gm : Nat} {v : Value} {own : List (List UInt8)} (h : MTab w B gm v own) (hk : Below w.heap.size w w') : MTook w B gm v own w' := ⟨v, h.below hk, Keeps.of_below _ hk, fun _ h => .inl h⟩
theorem MTab.row_ne {w : World} {B gm : Nat} {v : Value} {own : List (List UInt8)} (h : MTab w B gm v own) : v.ownBlock ≠ some gm := own_blk_ne h.2.1 h.1 (by decide)

theorem findV_some {own : List (List UInt8)} {l : List UInt8} {k : Nat} (h : numOf own l = some k) : findV own l = (k : Int) := by unfold findV; rw [h]
theorem findV_none {own : List (List UInt8)} {l : List UInt8} (h : numOf own l = none) : findV own l = -1 := by unfold findV; rw [h]

set_option maxRecDepth 100000 in
set_option maxHeartbeats 2000000 in
theorem refNumber_any (w : World) (B gm : Nat) (v : Value) (own : List (List UInt8)) (s : ByteArray) (h : MTab w B gm v own) :
    Calls Tryd.prog 18 #[.pointer (some ⟨gm, 0, none⟩), .string s] w fun e w' => e = .returned (.tuple #[.int .i64 ((numberOf own s.data.toList).1 : Int), .bool (numberOf own s.data.toList).2.1]) ∧ MTook w B gm v (numberOf own s.data.toList).2.2 w' := by
  obtain ⟨i0, hi, hz0, hz1, hz2⟩ := info_parts str_info
  have hsl : s.data.toList.length = s.size := by simp
  have hlen2 := h.2.2.2
  obtain ⟨A, c, rfl, _⟩ := own_reads h.2.1
  have H := Lib.hid h
  clear h
  go_enter Tryd.func18, Tryd.ntmps18
  go_wp2_with fail
  refine (find_any w B gm (.slice A own.length c) own s H.out).mono ?_
  rintro e w0 ⟨rfl, hb0⟩
  have HT0 := Lib.hid (H.out.below hb0)
  have HB0 := Lib.hid hb0
  clear hb0
  cases hno : numOf own s.data.toList with
  | some k =>
    rw [findV_some hno]
    have hv : numberOf own s.data.toList = (k, true, own) := by unfold numberOf; rw [hno]
    have HV := Lib.hid hv
    clear hv hno
    go_wp2_with fail
    go_ret2
    rw [HV.out]; exact ⟨rfl, MTook.same H.out HB0.out⟩
  | none =>
    rw [findV_none hno]
    by_cases hbig : 256 < s.size
    · have hv : numberOf own s.data.toList = (0, false, own) := by unfold numberOf; rw [hno, hsl]; simp [hbig]
      have HV := Lib.hid hv
      have hbig' : (256 : Int) < (s.size : Int) := by omega
      clear hno hv
      go_wp2_with fail
      go_ret2
      rw [HV.out]; exact ⟨rfl, MTook.same H.out HB0.out⟩
    · have hbig' : (s.size : Int) ≤ 256 := by omega
      have c0 : w0.cell? ⟨gm, 0, none⟩ = some (.slice A own.length c) := by simpa using HT0.out.1.cell 0
      by_cases hfull : 1000 ≤ own.length
      · have hv : numberOf own s.data.toList = (0, false, own) := by unfold numberOf; rw [hno]; simp [hfull]
        have HV := Lib.hid hv
        have hfull' : (1000 : Int) ≤ (own.length : Int) := by omega
        clear hno hv
        go_wp2_with fail
        go_ret2
        rw [HV.out]; exact ⟨rfl, MTook.same H.out HB0.out⟩
      · have hv : numberOf own s.data.toList = (1024 + own.length, true, own ++ [s.data.toList]) := by unfold numberOf; rw [hno, hsl]; simp; omega
        have HV := Lib.hid hv
        have hfull' : (own.length : Int) < 1000 := by omega
        obtain ⟨A', c', heq, hrd⟩ := own_reads HT0.out.2.1
        have hrd' : Reads w0 w0.heap.size 1 A own.length (own.map strV) := by injection heq with h1 h2 h3; subst h1; exact hrd
        have HR0 := Lib.hid hrd'
        clear hno hv heq hrd hrd'
        go_wp2_with
          (first
            | (at_builtin
               refine wpList_append_any _ rfl (.const (.slice none 0 0)) (.tmp 28) _ rfl w0.heap.size 9 i0 _ 1 16 Tryd.underlying22 hi hz0 hz1 hz2 rfl (by omega) (.slice none 0 0) 0 [] rfl (World.ownsRow_nil _ _ _ _) w0.heap.size A own.length c (own.map strV) rfl HR0.out (by intro u hu; obtain ⟨l, _, rfl⟩ := List.mem_map.1 hu; rfl) (by simp only [maxLen]; omega) (by omega) (Nat.le_refl _) ?_
               intro v1 w1 hown1 hg1 hat1
               rw [List.nil_append, Nat.zero_add] at hown1
               obtain ⟨A1, c1, rfl, _⟩ := own_reads hown1
               have hb1 : Below w0.heap.size w0 w1 := ⟨hg1.os, hg1.tape, hg1.output, hg1.size, fun k hk => hg1.block k hk (by simp [Value.ownBlock])⟩
               have HO1 := Lib.hid (hown1.alloc (Obj.cells #[.string s] 9))
               have HT1 := Lib.hid ((HT0.out.below hb1).below ((Below.refl _ _).alloc (Nat.le_refl _) (Obj.cells #[.string s] 9)))
               have HB1 := Lib.hid (hb1.alloc hb1.size (Obj.cells #[.string s] 9))
               have HR := Lib.hid (str_reads w1 s)
               have hsz1 := hb1.size
               clear hown1 hg1 hat1 hb1)
            | (at_builtin
               refine wpList_append_any _ rfl (.tmp 29) (.tmp 31) _ rfl w0.heap.size 9 i0 _ 1 16 Tryd.underlying22 hi hz0 hz1 hz2 rfl (by omega) (.slice A1 own.length c1) own.length (own.map strV) rfl HO1.out (w1.heap.size + 1) (some ⟨w1.heap.size, 0, none⟩) 1 1 [.string s] rfl HR.out (by intro u hu; rw [List.mem_singleton] at hu; subst hu; rfl) (by simp only [maxLen]; omega) (by omega) (by simp; omega) ?_
               intro v3 w3 hown3 hg3 hat3
               obtain ⟨A3, c3, rfl, _⟩ := own_reads hown3
               have hm3 : Blk w3 gm 35 #[.slice A own.length c] := HT1.out.1.grown hg3 (fun e => by have := (HO1.out.lt gm e.symm).1; have := HT0.out.1.lt; omega)
               have hb3 : Below w0.heap.size w0 w3 := HB1.out.trans ⟨hg3.os, hg3.tape, hg3.output, hg3.size, fun k hk => hg3.block k (Nat.lt_of_lt_of_le hk (by simp; omega)) (fun e => by have := (HO1.out.lt k e.symm).1; omega)⟩
               have f3 := hm3.frozen 0
               have d3 : w3.cell? ⟨gm, 0, none⟩ = some (.slice A own.length c) := by simpa using hm3.cell 0
               have hne3 := own_blk_ne hown3 hm3 (by decide)
               have hset := hm3.set_ 0 (.slice A3 (own.length + 1) c3)
               have d4 : (w3.setCell ⟨gm, 0, none⟩ (.slice A3 (own.length + 1) c3)).cell? ⟨gm, 0, none⟩ = some (.slice A3 (own.length + 1) c3) := by simpa using hset.cell 0
               have H1 := Lib.hid hset
               have H2 := Lib.hid (hown3.kept (grown_setCell w3 ⟨gm, 0, none⟩ (.slice A3 (own.length + 1) c3)) (.inr hne3))
               have H3 := Lib.hid ((Keeps.of_below (fun k => k = gm) (HB0.out.trans (hb3.mono HB0.out.size))).trans (Keeps.setCell w3 (F := fun k => k = gm) (p := ⟨gm, 0, none⟩) rfl (.slice A3 (own.length + 1) c3)) (fun _ _ h => h))
               have HLT := Lib.hid hown3.lt
               clear hm3 hb3 hset hne3 hown3 hg3 hat3))
        go_ret2
        rw [HV.out]
        refine ⟨?_, .slice A3 (own.length + 1) c3, ⟨by simpa using H1.out, ?_, H.out.2.2.1, by rw [List.length_append]; simp; omega⟩, H3.out, ?_⟩
        · go_num
        · have := H2.out
          rw [List.length_append, List.map_append, List.map_cons, strV_list]
          exact row_le this (Nat.le_trans H.out.2.2.1 (Nat.le_trans (Nat.le_of_lt H.out.1.lt) HB0.out.size))
        · exact fun k hk => .inr (Nat.le_trans HB0.out.size (HLT.out k hk).1)

theorem MTook.trans {a b c : World} {B gm : Nat} {v v1 : Value} {own' : List (List UInt8)} (hk : Keeps a b (fun k => k = gm)) (hv : ∀ k, v1.ownBlock = some k → v.ownBlock = some k ∨ a.heap.size ≤ k) (h2 : MTook b B gm v1 own' c) : MTook a B gm v own' c := by
  obtain ⟨v2, h3, h4, h5⟩ := h2
  refine ⟨v2, h3, hk.trans h4 (fun _ _ h => h), fun k hk2 => ?_⟩
  rcases h5 k hk2 with h | h
  · exact hv k h
  · exact .inr (Nat.le_trans hk.size h)

set_option maxRecDepth 100000 in
set_option maxHeartbeats 2000000 in
theorem refText_any (w : World) (B gm : Nat) (v : Value) (own : List (List UInt8)) (n : Int) (hn : -9223372036854775808 ≤ n) (hn' : n ≤ 9223372036854775807) (h : MTab w B gm v own) :
    Calls Tryd.prog 13 #[.pointer (some ⟨gm, 0, none⟩), .int .i64 n] w fun e w' => e = .returned (textV (textOf own n)) ∧ Below w.heap.size w w' := by
  have hol := h.2.2.2
  obtain ⟨A, c, rfl, _⟩ := own_reads h.2.1
  have c0 : w.cell? ⟨gm, 0, none⟩ = some (.slice A own.length c) := by simpa using h.1.cell 0
  have H := Lib.hid h
  clear h
  by_cases h1 : 0 ≤ n ∧ n < 16
  · obtain ⟨m, rfl⟩ : ∃ m : Nat, n = (m : Int) := ⟨n.toNat, by omega⟩
    have hm : m < 16 := by omega
    have hm' : (m : Int) < 16 := by omega
    have hm0 : (0 : Int) ≤ (m : Int) := by omega
    have ht : textOf own (m : Int) = some (knownB m).data.toList := by
      unfold textOf
      have hl : m < knownL.length := hm
      rw [if_neg (by omega), if_pos h1.1, Int.toNat_natCast, knownB_list, List.getElem?_eq_getElem hl]
      simp [List.getD, List.getElem?_eq_getElem hl]
    have HT := Lib.hid ht
    clear ht h1
    go_enter Tryd.func13, Tryd.ntmps13
    go_wp2_with fail
    refine (refKnown_any w).mono ?_
    rintro e w1 ⟨rfl, hb1⟩
    have HB := Lib.hid hb1
    have hix := run_index48 w1 (knownL.map strV).toArray m _ hm (by simpa using known_get hm)
    generalize (knownL.map strV).toArray = K at hix ⊢
    clear hb1
    go_wp2_with fail
    go_ret2
    refine ⟨?_, HB.out⟩
    rw [HT.out]
    unfold textV
    rw [Option.getD_some, strV_list]
    rfl
  · by_cases h2 : 1024 ≤ n
    · obtain ⟨m, rfl⟩ : ∃ m : Nat, n = 1024 + (m : Int) := ⟨(n - 1024).toNat, by omega⟩
      have hsub : wrap64 (1024 + (m : Int) - 1024) = (m : Int) := by unfold wrap64; omega
      have ht : textOf own (1024 + (m : Int)) = own[m]? := by unfold textOf; rw [if_pos h2, show (1024 + (m : Int) - 1024).toNat = m by omega]
      have h16 : (16 : Int) ≤ 1024 + (m : Int) := by omega
      by_cases h3 : m < own.length
      · have h3' : (m : Int) < (own.length : Int) := by omega
        obtain ⟨sx, g, hsx, hcell, rfl⟩ := own_cell H.out.2.1 h3
        have HT := Lib.hid (show textOf own (1024 + (m : Int)) = some sx.data.toList by rw [ht, hsx, List.getElem?_eq_getElem h3])
        clear ht h1 h2 hsx
        go_enter Tryd.func13, Tryd.ntmps13
        go_wp2_with fail
        go_ret2
        refine ⟨?_, Below.refl _ _⟩
        rw [HT.out]
        unfold textV
        rw [Option.getD_some, strV_list]
        rfl
      · have h3' : (own.length : Int) ≤ (m : Int) := by omega
        have HT := Lib.hid (show textOf own (1024 + (m : Int)) = none by rw [ht]; exact List.getElem?_eq_none (by omega))
        clear ht h1 h2
        go_enter Tryd.func13, Tryd.ntmps13
        go_wp2_with fail
        go_ret2
        refine ⟨?_, Below.refl _ _⟩
        rw [HT.out]
        rfl
    · have HT := Lib.hid (show textOf own n = none by
        unfold textOf
        rw [if_neg h2]
        by_cases h3 : 0 ≤ n
        · rw [if_pos h3]
          exact List.getElem?_eq_none (by rw [known_len]; omega)
        · rw [if_neg h3])
      by_cases h3 : n < 0
      · clear h1 h2
        go_enter Tryd.func13, Tryd.ntmps13
        go_wp2_with fail
        go_ret2
        refine ⟨?_, Below.refl _ _⟩
        rw [HT.out]
        rfl
      · have h4 : 16 ≤ n := by omega
        have h5 : 0 ≤ n := by omega
        have h6 : n < 1024 := by omega
        clear h1 h2
        go_enter Tryd.func13, Tryd.ntmps13
        go_wp2_with fail
        go_ret2
        refine ⟨?_, Below.refl _ _⟩
        rw [HT.out]
        rfl

set_option maxHeartbeats 2000000 in
theorem refCopy_any (w : World) (B gm : Nat) (v : Value) (own : List (List UInt8)) (h : MTab w B gm v own) :
    Calls Tryd.prog 17 #[.pointer (some ⟨gm, 0, none⟩)] w fun e w' => ∃ gc vc, e = .returned (.pointer (some ⟨gc, 0, none⟩)) ∧ MTab w' w.heap.size gc vc own ∧ Below w.heap.size w w' := by
  obtain ⟨i0, hi, hz0, hz1, hz2⟩ := info_parts str_info
  have hol := h.2.2.2
  obtain ⟨A, c, rfl, hrd⟩ := own_reads h.2.1
  have c0 : w.cell? ⟨gm, 0, none⟩ = some (.slice A own.length c) := by simpa using h.1.cell 0
  have HR0 := Lib.hid hrd
  have H := Lib.hid h
  clear h hrd
  go_enter Tryd.func17, Tryd.ntmps17
  go_wp2_with
    (at_builtin
     refine wpList_append_any _ rfl (.const (.slice none 0 0)) (.tmp 6) _ rfl w.heap.size 9 i0 _ 1 16 Tryd.underlying22 hi hz0 hz1 hz2 rfl (by omega) (.slice none 0 0) 0 [] rfl (World.ownsRow_nil _ _ _ _) w.heap.size A own.length c (own.map strV) rfl HR0.out (by intro u hu; obtain ⟨l, _, rfl⟩ := List.mem_map.1 hu; rfl) (by simp only [maxLen]; omega) (by omega) (Nat.le_refl _) ?_
     intro v1 w1 hown1 hg1 hat1
     rw [List.nil_append, Nat.zero_add] at hown1
     obtain ⟨A1, c1, rfl, _⟩ := own_reads hown1
     have hb1 : Below w.heap.size w w1 := ⟨hg1.os, hg1.tape, hg1.output, hg1.size, fun k hk => hg1.block k hk (by simp [Value.ownBlock])⟩
     have HO1 := Lib.hid hown1
     have HB1 := Lib.hid hb1
     clear hown1 hg1 hat1 hb1)
  go_ret
  refine ⟨w1.heap.size, _, rfl, ⟨Blk.new w1 35 _, HO1.out.alloc _, HB1.out.size, hol⟩, HB1.out.alloc HB1.out.size _⟩
end Go.Proofs.YtmomebakkpjdgaaDoor
