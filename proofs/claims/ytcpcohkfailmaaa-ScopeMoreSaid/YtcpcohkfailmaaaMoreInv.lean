/- the drawn statement of ScopeMore: what holds while its operations run, in whatever order -/
import Derived.Test.YtcpcohkfailmaaaAwake
import Derived.Test.YtcpcohkfailmaaaFlat
import Derived.Test.YtcpcohkfailmaaaInv
import Derived.BigRegion
import Derived.Lib.Hide
import Derived.Deep.WholeRow
namespace Go.Proofs.Ytcpcohkfailmaaa
open Go.RowKit

theorem scope_info : (Try.prog.info? 33).map (fun i => (i.zero, i.size, i.bytes)) = some (some (.agg #[.int .i64 0, .string { data := #[] }]), 2, 24) := by kernel_rfl
theorem string_info : (Try.prog.info? 9).map (fun i => (i.zero, i.size, i.bytes)) = some (some (.string { data := #[] }), 1, 16) := by kernel_rfl

/-- Of, called in a later world, on what lay there at first -/
theorem of_at (w W : World) (hW : Below w.heap.size w W) (A : Option Addr) (n c : Nat) (l : List (Int × ByteArray)) (own : Int) (K : Option Addr) (m d : Nat) (keys : List ByteArray)
    (hl : Scps w w.heap.size A n l) (hk : Strs w w.heap.size K m keys) (hn : n ≤ 1000000) (hm : m ≤ 140737488351232) :
    Calls Try.prog 10 #[.slice A n c, .int .i64 own, .slice K m d] W fun e w' => e = .returned (.int .u32 (ofMask l own keys n : Nat)) ∧ Below w.heap.size w w' ∧ Below W.heap.size W w' :=
  (of_any W A n c l own K m d keys ((hl.below hW).more hW.size) ((hk.below hW).more hW.size) hn hm).mono fun _ _ ⟨he, hb⟩ => ⟨he, hW.trans (hb.mono hW.size), hb⟩

theorem ownsRow_same {w w' : World} {base size n : Nat} {e : TypeId} {v : Value} {xs : List Value} (h : w.ownsRow base e size v n xs) (hb : ∀ g, v.ownBlock = some g → w'.heap[g]? = w.heap[g]?) : w'.ownsRow base e size v n xs := by
  refine ⟨h.1, ?_⟩
  rcases h.2 with h | ⟨g, cap, cur, rfl, h1, h2, h3⟩
  · exact .inl h
  · exact .inr ⟨g, cap, cur, rfl, h1, (hb g rfl).trans h2, h3⟩
theorem grown_setCell_ne {w w' : World} {row : Option Nat} {g : Nat} {t : TypeId} {cs : Array Value} (h : Blk w g t cs) (hg : w.grownBy w' row) (hne : row ≠ some g) : Blk w' g t cs := h.grown hg (fun e => hne e.symm)

section
variable (A K : Option Addr) (n k c f g : Nat) (kind own : Int) (s key : ByteArray) (l : List (Int × ByteArray)) (keys : List ByteArray)

/-- the frame -/
def frM (x11 x12 x20 x21 x22 x23 x24 x25 x26 x27 x28 x29 x30 x31 x32 : Value) : Array Value := #[.slice A n c, .agg #[.int .i64 kind, .string s], .int .i64 own, .slice K k f, .string key, undef, .pointer (some ⟨g, 0, none⟩), undef, undef, undef, .bool false, x11, x12, undef, undef, .slice A n c, .slice K k f, .bool true, .bool false, undef, x20, x21, x22, x23, x24, x25, x26, x27, x28, x29, x30, x31, x32, undef, undef, undef, undef, undef, undef, undef, undef, undef, undef, undef, undef, undef, undef, undef, undef, undef, undef, undef, undef, undef, undef, undef, undef, undef, undef, undef, undef, undef, undef, undef, undef, undef, undef, undef, undef, undef, undef, undef, undef, undef, undef, undef, undef, undef, undef, undef, undef, undef, undef, undef, undef, undef]

/-- what holds: bi: has operation i run? -/
structure JM (w0 : World) (b0 b1 b2 b3 b4 b5 b6 b7 b8 b9 b10 b11 b12 b13 b14 : Bool) (x11 x12 x20 x21 x22 x23 x24 x25 x26 x27 x28 x29 x30 x31 x32 : Value) (w : World) : Prop where
  hb : Below w0.heap.size w0 w
  m0 : b0 = true → x20 = .slice A n c
  m1 : b1 = true → x21 = .int .i64 own
  m2 : b2 = true → x22 = .slice K k f
  c3 : b3 = true → x23 = .int .u32 (ofMask l own keys n : Nat)
  m4 : b4 = true → b6 = false → w.ownsRow w0.heap.size 33 2 x24 0 []
  m5 : b5 = true → x25 = .slice A n c
  m6 : b6 = true → b9 = false → w.ownsRow w0.heap.size 33 2 x26 n (flat l)
  m7 : b7 = true → x27 = .agg #[.int .i64 kind, .string s]
  m8 : b8 = true → b9 = false → ∃ q, x28 = .slice (some ⟨q, 0, none⟩) 1 1 ∧ Blk w q 33 #[.int .i64 kind, .string s] ∧ (b4 = true → b6 = false → x24.ownBlock ≠ some q)
  m9 : b9 = true → b12 = false → w.ownsRow w0.heap.size 33 2 x29 (n + 1) (flat (l ++ [(kind, s)]))
  d9 : b9 = true → b6 = true
  m10 : b10 = true → x30 = .int .i64 own
  m11 : b11 = true → x31 = .slice K k f
  c12 : b12 = true → x32 = .int .u32 (ofMask (l ++ [(kind, s)]) own keys (n + 1) : Nat)
  m13 : b13 = true → x11 = .int .u32 (ofMask l own keys n : Nat)
  m14 : b14 = true → x12 = .int .u32 (ofMask (l ++ [(kind, s)]) own keys (n + 1) : Nat)

def InvM (w0 : World) (L : Array Bool) (a : Act) (w : World) : Prop :=
  ∃ (b0 b1 b2 b3 b4 b5 b6 b7 b8 b9 b10 b11 b12 b13 b14 : Bool) (x11 x12 x20 x21 x22 x23 x24 x25 x26 x27 x28 x29 x30 x31 x32 : Value), L = #[b0, b1, b2, b3, b4, b5, b6, b7, b8, b9, b10, b11, b12, b13, b14] ∧ a = ⟨frM A K n k c f g kind own s key x11 x12 x20 x21 x22 x23 x24 x25 x26 x27 x28 x29 x30 x31 x32, []⟩ ∧ JM A K n k c f kind own s l keys w0 b0 b1 b2 b3 b4 b5 b6 b7 b8 b9 b10 b11 b12 b13 b14 x11 x12 x20 x21 x22 x23 x24 x25 x26 x27 x28 x29 x30 x31 x32 w
end

/-- only new blocks -/
theorem JM.later {A K : Option Addr} {n k c f : Nat} {kind own : Int} {s : ByteArray} {l : List (Int × ByteArray)} {keys : List ByteArray} {w0 w w' : World} {b0 b1 b2 b3 b4 b5 b6 b7 b8 b9 b10 b11 b12 b13 b14 : Bool} {x11 x12 x20 x21 x22 x23 x24 x25 x26 x27 x28 x29 x30 x31 x32 : Value}
    (h : JM A K n k c f kind own s l keys w0 b0 b1 b2 b3 b4 b5 b6 b7 b8 b9 b10 b11 b12 b13 b14 x11 x12 x20 x21 x22 x23 x24 x25 x26 x27 x28 x29 x30 x31 x32 w) (hb : Below w.heap.size w w') : JM A K n k c f kind own s l keys w0 b0 b1 b2 b3 b4 b5 b6 b7 b8 b9 b10 b11 b12 b13 b14 x11 x12 x20 x21 x22 x23 x24 x25 x26 x27 x28 x29 x30 x31 x32 w' :=
  { h with
    hb := h.hb.trans (hb.mono h.hb.size)
    m4 := fun h1 h2 => ownsRow_same (h.m4 h1 h2) (fun q hq => hb.block q ((h.m4 h1 h2).lt q hq).2)
    m6 := fun h1 h2 => ownsRow_same (h.m6 h1 h2) (fun q hq => hb.block q ((h.m6 h1 h2).lt q hq).2)
    m8 := fun h1 h2 => let ⟨q, h3, h4, h5⟩ := h.m8 h1 h2; ⟨q, h3, (hb.block q h4.lt).trans h4, h5⟩
    m9 := fun h1 h2 => ownsRow_same (h.m9 h1 h2) (fun q hq => hb.block q ((h.m9 h1 h2).lt q hq).2) }

theorem wp_mv {P : Program} {o : Oper} {a : Act} {w : World} {R : Act → World → Prop} {Q : Exit → Act → World → Prop} (x : Operand) (ho : o.op = .move x) (h : R (a.put o.dst (a.eval x)) w) : o.wp P a w R Q := by
  unfold Oper.wp execOp; rw [ho]; exact h
theorem wp_as {P : Program} {o : Oper} {a : Act} {w : World} {R : Act → World → Prop} {Q : Exit → Act → World → Prop} (x : Operand) (ho : o.op = .assign x) (h : R (a.put o.dst (a.eval x)) w) : o.wp P a w R Q := by
  unfold Oper.wp execOp; rw [ho]; exact h
end Go.Proofs.Ytcpcohkfailmaaa
