/- same -/
import Derived.Test.YtmomebakkpjdgaaDoorRefAdd
import Derived.BigQuiet
namespace Go.Proofs.YtmomebakkpjdgaaDoor
open Go.RowKit Go.Maps

set_option maxRecDepth 100000 in
set_option maxHeartbeats 2000000 in
theorem same_any (w : World) (B1 B2 : Nat) (A1 A2 : Option Addr) (c1 c2 : Nat) (own : List (List UInt8)) (h1 : w.ownsRow B1 9 1 (.slice A1 own.length c1) own.length (own.map strV)) (h2 : w.ownsRow B2 9 1 (.slice A2 own.length c2) own.length (own.map strV)) (hol : own.length ≤ 1000) :
    Calls Tryd.prog 19 #[.slice A1 own.length c1, .slice A2 own.length c2] w fun e w' => e = .returned (.bool true) ∧ Below w.heap.size w w' := by
  have H1 := Lib.hid h1
  have H2 := Lib.hid h2
  clear h1 h2
  go_enter Tryd.func19, Tryd.ntmps19
  go_wp2_with fail
  go_loopg [13] own.length (fun q i wx => ∃ j : Nat, i = .int .i64 (j : Int) ∧ q + j = own.length ∧ Below w.heap.size w wx)
  case atStart => exact ⟨0, rfl, rfl, Below.refl _ _⟩
  case round =>
    obtain ⟨j, rfl, hqj, hb⟩ := hrel
    have HB := Lib.hid hb
    clear hb
    by_cases hj : j < own.length
    · have hj' : (j : Int) < (own.length : Int) := by omega
      obtain ⟨x1, g1, hx1, cell1, rfl⟩ := own_cell H1.out hj
      obtain ⟨x2, g2, hx2, cell2, rfl⟩ := own_cell H2.out hj
      obtain rfl : x1 = x2 := by
        have : x1.data.toList = x2.data.toList := hx1.trans hx2.symm
        cases x1; cases x2; congr 1; exact Array.toList_inj.1 this
      have d1 := (HB.out.cell (p := ⟨g1, j, none⟩) (H1.out.lt g1 rfl).2).trans cell1
      have d2 := (HB.out.cell (p := ⟨g2, j, none⟩) (H2.out.lt g2 rfl).2).trans cell2
      clear cell1 cell2 hx1 hx2
      go_upto_region 6 with fail
      go_quiet (fail)
      go_wp2_with fail
      go_roundg (gk - 1)
      case measure => omega
      case rel => exact ⟨j + 1, by go_num, by omega, HB.out.trans ⟨rfl, rfl, rfl, Nat.le_refl _, fun _ _ => rfl⟩⟩
    · obtain rfl : j = own.length := by omega
      go_wp2_with fail
      go_ret
      exact ⟨rfl, HB.out⟩
end Go.Proofs.YtmomebakkpjdgaaDoor
