/- known, New, Number, awake -/
import Derived.Test.YtmomebakkpjdgaaDoorTab
import Derived.Deep.LoopGhost
import Derived.Deep.DeepCutAuto
namespace Go.Proofs.YtmomebakkpjdgaaDoor
open Go.RowKit Go.Maps

/-- the library's own number that strings.Split reads -/
def Len (w : World) : Prop := ∃ m : Int, w.cell? ⟨0, 0, none⟩ = some (.int .i64 m)
theorem Len.lt {w : World} (h : Len w) : 0 < w.heap.size := by obtain ⟨m, h⟩ := h; exact World.block_lt_of_cell? _ _ h
theorem Len.below {w w' : World} {B : Nat} (h : Len w) (hb : Below B w w') (hB : 0 < B) : Len w' := by
  obtain ⟨m, h⟩ := h; exact ⟨m, (hb.cell hB).trans h⟩

def knownText : ByteArray := { data := ([114, 101, 97, 100, 32, 119, 114, 105, 116, 101, 32, 114, 101, 115, 111, 117, 114, 99, 101, 32, 111, 112, 101, 114, 97, 116, 105, 111, 110, 32, 114, 105, 103, 104, 116, 32, 116, 105, 109, 101, 32, 114, 111, 108, 101, 32, 111, 119, 110, 101, 114, 32, 116, 101, 110, 97, 110, 116, 32, 117, 115, 101, 114, 32, 116, 101, 97, 109, 32, 115, 101, 114, 118, 105, 99, 101, 32, 97, 100, 109, 105, 110, 32, 101, 109, 97, 105, 108, 32, 103, 114, 111, 117, 112, 32, 109, 101, 109, 98, 101, 114] : List UInt8).toArray }
def blank : ByteArray := { data := #[32] }

theorem known_count : Lib.countB knownText blank = 15 := by kernel_rfl
theorem known_split : Lib.splitB blank 0 15 knownText = knownL.map (fun l => (⟨l.toArray⟩ : ByteArray)) := by kernel_rfl

theorem known_any (w : World) (hL : Len w) : Calls Tryd.prog 20 #[] w fun e w' => e = .returned (.slice (some ⟨w.heap.size, 0, none⟩) 16 16) ∧ w' = w.alloc (.cells (knownL.map strV).toArray 9) := by
  obtain ⟨m, hm⟩ := hL
  have hc := Tryd.strings_Split knownText blank m w (by decide) hm (by decide)
  rw [known_count, known_split, List.map_map] at hc
  go_enter Tryd.func20, Tryd.ntmps20
  go_wp2_with fail
  refine hc.mono ?_
  rintro e w1 ⟨rfl, rfl⟩
  go_wp2_with fail
  go_ret
  exact ⟨rfl, rfl⟩

theorem known_len : knownL.length = 16 := rfl
theorem known_short : ∀ l ∈ knownL, l.length ≤ 9 := by decide
theorem known_once : ∀ j, j < 16 → idx (knownL.take j) (knownL.getD j []) = none := by decide
def knownB (j : Nat) : ByteArray := ⟨(knownL.getD j []).toArray⟩
theorem knownB_list (j : Nat) : (knownB j).data.toList = knownL.getD j [] := by unfold knownB; simp
theorem known_mem {j : Nat} (h : j < 16) : knownL.getD j [] ∈ knownL := by
  have hl : j < knownL.length := h
  simp only [List.getD, List.getElem?_eq_getElem hl, Option.getD_some]
  exact List.getElem_mem hl
theorem knownB_size {j : Nat} (h : j < 16) : (knownB j).size ≤ 9 := by
  have h1 := known_short _ (known_mem h)
  rw [← knownB_list] at h1
  simpa using h1
theorem idx_take {j : Nat} (h : j < 16) : idx (knownL.take (j + 1)) = addNum (idx (knownL.take j)) (knownL.getD j []) j := by
  have hl : j < knownL.length := h
  funext l
  rw [List.take_succ_eq_append_getElem hl]
  have e : knownL[j] = knownL.getD j [] := by simp [List.getD, List.getElem?_eq_getElem hl]
  rw [e, idx_snoc (known_once j h)]
  have : (knownL.take j).length = j := by rw [List.length_take, known_len]; omega
  rw [this]
theorem idx_zero : idx (knownL.take 0) = fun _ => none := rfl
theorem idx_all : idx (knownL.take 16) = idx knownL := rfl

set_option maxHeartbeats 2000000 in
theorem new_any (w : World) (hL : Len w) : Calls Tryd.prog 8 #[] w fun e w' => ∃ gt bm, e = .returned (.pointer (some ⟨gt, 0, none⟩)) ∧ Tab w' w.heap.size gt bm (.slice none 0 0) [] ∧ Below w.heap.size w w' := by
  have hmm := @run_makeMap Tryd.prog
  have h0 := hL.lt
  go_enter Tryd.func8, Tryd.ntmps8
  go_wp2_with fail
  have hb1 : Below w.heap.size w ((w.alloc (.map #[] 0)).alloc (.cells #[.map (some w.heap.size), .slice none 0 0] 45)) := ((Below.refl w.heap.size w).alloc (Nat.le_refl _) _).alloc (by simp) _
  have hs1 : ((w.alloc (.map #[] 0)).alloc (.cells #[.map (some w.heap.size), .slice none 0 0] 45)).heap.size = w.heap.size + 2 := by simp
  have hg1 := Blk.new (w.alloc (.map #[] 0)) 45 #[.map (some w.heap.size), .slice none 0 0]
  rw [show (w.alloc (.map #[] 0)).heap.size = w.heap.size + 1 by simp] at hg1
  have hn1 : NumMap ((w.alloc (.map #[] 0)).alloc (.cells #[.map (some w.heap.size), .slice none 0 0] 45)) w.heap.size 0 (fun _ => none) :=
    (NumMap.made w).heap (Below.heap_alloc _ _ _ (by simp))
  refine (known_any _ (hL.below hb1 h0)).mono ?_
  rintro e w1 ⟨rfl, rfl⟩
  rw [hs1]
  have HK := Lib.hid (Blk.new ((w.alloc (.map #[] 0)).alloc (.cells #[.map (some w.heap.size), .slice none 0 0] 45)) 9 (knownL.map strV).toArray)
  rw [hs1] at HK
  have HG := Lib.hid (hg1.alloc (.cells (knownL.map strV).toArray 9))
  have HN := Lib.hid (hn1.heap (Below.heap_alloc ((w.alloc (.map #[] 0)).alloc (.cells #[.map (some w.heap.size), .slice none 0 0] 45)) (.cells (knownL.map strV).toArray 9) w.heap.size (by rw [hs1]; omega)))
  have HB := Lib.hid (hb1.alloc (by rw [hs1]; omega) (.cells (knownL.map strV).toArray 9))
  generalize (((w.alloc (.map #[] 0)).alloc (.cells #[.map (some w.heap.size), .slice none 0 0] 45)).alloc (.cells (knownL.map strV).toArray 9)) = w1 at HK HG HN HB ⊢
  clear hb1 hs1 hg1 hn1 hmm
  go_wp2_with fail
  go_loopg [9] 16 (fun q i wx => ∃ j : Nat, i = .int .i64 (j : Int) ∧ q + j = 16 ∧ NumMap wx w.heap.size j (idx (knownL.take j)) ∧ Blk wx (w.heap.size + 1) 45 #[.map (some w.heap.size), .slice none 0 0] ∧ Blk wx (w.heap.size + 2) 9 (knownL.map strV).toArray ∧ Below w.heap.size w wx)
  case atStart => exact ⟨0, rfl, rfl, HN.out, HG.out, HK.out, HB.out⟩
  case round =>
    obtain ⟨j, rfl, hqj, hn, hg, hk, hb⟩ := hrel
    by_cases hj : j < 16
    · have hj' : (j : Int) < 16 := by omega
      have ck : wr.cell? ⟨w.heap.size + 2, j, none⟩ = some (.string (knownB j)) := by
        have hl : j < knownL.length := hj
        rw [hk.cell j]
        unfold knownB
        simp [strV, List.getD, List.getElem?_eq_getElem hl]
      have c0 : wr.cell? ⟨w.heap.size + 1, 0, none⟩ = some (.map (some w.heap.size)) := by simpa using hg.cell 0
      obtain ⟨D, hD, hf⟩ := hn
      have HD := Lib.hid hD
      have HF := Lib.hid hf
      have H1 := Lib.hid hg
      have H2 := Lib.hid hk
      have H3 := Lib.hid hb
      have hsz := hb.size
      have hks := knownB_size hj
      clear hD hf hg hk hb
      go_wp2_with
        (at_mapUpdate
         refine wpList_mapUpdate_own _ rfl _ _ _ 26 rfl 9 3 keyLaw Tryd.underlying26 _ w.heap.size j D rfl HD.out (by unfold maxLen; omega) _ _ (.string (knownB j).data.toList) rfl rfl (key_mk (by unfold maxLen; omega)) _ [] (plainElem_int Tryd.underlying3 (WalkArith.wf_i64 (by omega))) ?_
         intro w2 hown2 hgrow2
         rw [knownB_list] at hown2
         have HN2 := Lib.hid (NumMap.put (k := j) HD.out.isMap HF.out hown2)
         have HG2 := Lib.hid (H1.out.grown hgrow2 (fun e => by injection e; omega))
         have HK2 := Lib.hid (H2.out.grown hgrow2 (fun e => by injection e; omega))
         have HB2 := Lib.hid (H3.out.grown hgrow2 hsz (fun k hk => by injection hk; omega))
         clear hown2 hgrow2)
      go_roundg (gk - 1)
      case measure => omega
      case rel => exact ⟨j + 1, by go_num, by omega, by rw [idx_take hj]; exact HN2.out, HG2.out, HK2.out, HB2.out⟩
    · obtain rfl : j = 16 := by omega
      have HG2 := Lib.hid hg
      have HN2 := Lib.hid hn
      have HB2 := Lib.hid hb
      clear hg hn hb hk
      go_wp2_with fail
      go_ret
      refine ⟨w.heap.size + 1, w.heap.size, rfl, ⟨HG2.out, World.ownsRow_nil _ _ _ _, ?_, Nat.le_succ _, Nat.le_refl _, by simp, good_nil, by simp⟩, HB2.out⟩
      have := HN2.out
      rw [idx_all] at this
      rw [numOf_nil]
      exact this

/-- what Number answers, and its own behind it -/
def numberOf (own : List (List UInt8)) (s : List UInt8) : Nat × Bool × List (List UInt8) :=
  match numOf own s with
  | some k => (k, true, own)
  | none => if 256 < s.length ∨ 1000 ≤ own.length then (0, false, own) else (1024 + own.length, true, own ++ [s])

set_option maxRecDepth 100000 in
set_option maxHeartbeats 2000000 in
theorem number_any (w : World) (B gt bm : Nat) (v : Value) (own : List (List UInt8)) (s : ByteArray) (h : Tab w B gt bm v own) (hs : s.size ≤ maxLen) :
    Calls Tryd.prog 9 #[.pointer (some ⟨gt, 0, none⟩), .string s] w fun e w' => e = .returned (.tuple #[.int .i64 ((numberOf own s.data.toList).1 : Int), .bool (numberOf own s.data.toList).2.1]) ∧ Took w B gt bm v (numberOf own s.data.toList).2.2 w' := by
  have h' := h
  obtain ⟨hb, hown, ⟨D, hD, hf⟩, hBg, hBb, hlen2, hgood, hall⟩ := h'
  obtain ⟨A, c, rfl, _⟩ := own_reads hown
  have c0 : w.cell? ⟨gt, 0, none⟩ = some (.map (some bm)) := by simpa using hb.cell 0
  have c1 : w.cell? ⟨gt, 1, none⟩ = some (.slice A own.length c) := by simpa using hb.cell 1
  have hsl : s.data.toList.length = s.size := by simp
  have H := Lib.hid h
  have HD := Lib.hid hD
  have HF := Lib.hid hf
  clear h hb hown hD hf hgood hall
  go_enter Tryd.func9, Tryd.ntmps9
  go_upto_if 19 with
    (at_lookup
     refine wpList_lookup_own_ok_int _ rfl _ _ 26 rfl 9 3 .i64 keyLaw Tryd.underlying26 Tryd.underlying3 (zero3 _) bm (16 + own.length) D rfl HD.out _ (.string s.data.toList) rfl (key_mk hs) ?_
     intro z hat hwz
     have hlook := NumMap.look HF.out hat
     clear hat hwz)
  rcases hlook with ⟨hno, rfl, hhas⟩ | ⟨k, hk, rfl, hhas⟩
  · rw [hhas]
    have HNO := Lib.hid hno
    by_cases hbig : 256 < s.size
    · have hv : numberOf own s.data.toList = (0, false, own) := by unfold numberOf; rw [hno, hsl]; simp [hbig]
      have HV := Lib.hid hv
      have hbig' : (256 : Int) < (s.size : Int) := by omega
      clear hno hhas hv
      go_wp2_with fail
      go_ret2
      rw [HV.out]; exact ⟨rfl, Took.same H.out (Below.refl _ _)⟩
    · by_cases hfull : 1000 ≤ own.length
      · have hv : numberOf own s.data.toList = (0, false, own) := by unfold numberOf; rw [hno]; simp [hfull]
        have HV := Lib.hid hv
        have hbig' : (s.size : Int) ≤ 256 := by omega
        have hfull' : (1000 : Int) ≤ (own.length : Int) := by omega
        clear hno hhas hv
        go_wp2_with fail
        go_ret2
        rw [HV.out]; exact ⟨rfl, Took.same H.out (Below.refl _ _)⟩
      · have hv : numberOf own s.data.toList = (1024 + own.length, true, own ++ [s.data.toList]) := by unfold numberOf; rw [hno, hsl]; simp; omega
        have HV := Lib.hid hv
        have hbig' : (s.size : Int) ≤ 256 := by omega
        have hfull' : (own.length : Int) < 1000 := by omega
        clear hno hhas hv
        go_wp2_with fail
        refine (takes_any w B gt bm (.slice A own.length c) own s H.out (by omega) HNO.out (by omega)).mono ?_
        rintro e w1 ⟨rfl, ht⟩
        go_wp2_with fail
        go_ret2
        rw [HV.out]; exact ⟨rfl, ht⟩
  · rw [hhas]
    have hv : numberOf own s.data.toList = (k, true, own) := by unfold numberOf; rw [hk]
    have HV := Lib.hid hv
    clear hhas hv hk
    go_wp2_with fail
    go_ret2
    rw [HV.out]; exact ⟨rfl, Took.same H.out (Below.refl _ _)⟩
end Go.Proofs.YtmomebakkpjdgaaDoor
