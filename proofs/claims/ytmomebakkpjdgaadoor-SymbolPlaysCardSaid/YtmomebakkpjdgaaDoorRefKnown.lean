/- what the reference's table knows -/
import Derived.Test.YtmomebakkpjdgaaDoorKeep
import Derived.OwnWalk
import Derived.Handy
namespace Go.Proofs.YtmomebakkpjdgaaDoor
open Go.RowKit Go.Maps

set_option maxRecDepth 100000 in
theorem refKnown_any (w : World) : Calls Tryd.prog 23 #[] w fun e w' => e = .returned (.agg (knownL.map strV).toArray) ∧ Below w.heap.size w w' := by
  go_enter Tryd.func23, Tryd.ntmps23
  go_wp2_with fail
  refine bodyPost_ret (results_cell_row rfl _ _ w.heap.size 48 _ (0, 0) (.array 16 9) rfl (Blk.new w 48 _) Tryd.underlying48 rfl (by kernel_rfl)) rfl ⟨rfl, (Below.refl _ _).alloc (Nat.le_refl _) _⟩

end Go.Proofs.YtmomebakkpjdgaaDoor
