/- one scope, by value, opened -/
import Derived.Test.YtcpcohkfailmaaaOpen
import Derived.Lib.SmallJoins
namespace Go.Proofs.Ytcpcohkfailmaaa
open Go.ChangeShapes Go.WideShapes Go.Deep Go.RowKit
section
variable {H : Type} {enc : TypeId × Value → H} {P : Program} {w : World} {base : Nat} {spare : Nat → Bool} {held : Bool}
theorem open_scp {r : Reach} {b0 : Nat} {t t0 t1 : TypeId} {f0 f1 : Field} {v : Value} {d : DataW H} {p : List MemPlace} (hs : P.underlying t = some (.struct #[f0, f1]))
    (e0 : f0.type = t0) (e1 : f1.type = t1) (u0 : P.underlying t0 = some (.int .i64)) (u1 : P.underlying t1 = some .string) (hone : oneCellFields P #[f0, f1] = true) (hC : P.cellsOf t = 2)
    (hv : Value.okWide P w r b0 t v) (h : DataW.Trod enc P w base spare held t v d p) : ∃ (g : Int) (s : ByteArray), v = .agg #[.int .i64 g, .string s] := by
  obtain ⟨c0, c1, y0, y1, m, rfl, rfl, rfl, h0, h1⟩ := Joins.open_agg2 hs hone hC hv h
  rw [e0] at h0
  rw [e1] at h1
  obtain ⟨z, x0, _, _⟩ := DataW.trod_int u0 h0
  obtain ⟨s, x1, _, _⟩ := DataW.trod_string u1 h1
  simp at x0 x1
  subst x0 x1
  exact ⟨z, s, rfl⟩
end
end Go.Proofs.Ytcpcohkfailmaaa
