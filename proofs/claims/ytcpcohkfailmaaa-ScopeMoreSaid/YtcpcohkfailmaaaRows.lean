/-
  No cell of these rows narrows 'for every input' (looked for: loops, veiled, ifaces, maps, wideKeys, modest, calm, conditions, laid).
  DERIVED. THE GIVEN ROWS OF THIS SEAT. 5 by the template 'for every input the law returns true; each argument reads behind the call as it read before'; 0 by the template 'total and deterministic' (their statements: YtcpcohkfailmaaaTotals.lean).
  GIVEN WITH THE SEED: the statements are not yours to turn. If you find one false, say at which input.
  Laid BY PROGRAM, IN A SANDBOX (cutbox-rows.mjs): the forced cells as the released guide's own fill.sh prints them over the translation 8045302b1ba4ef71… (all of the seat's roots in one cut). By AI agents, Wed Nov 11 2026. No macro, syntax, notation, axiom, sorry.
-/
import Derived.Test.YtcpcohkfailmaaaChecked
import GoSem.Claim
import GoSem.ClaimJoined
import GoSem.ClaimMapViews
import Derived.JoinedTies
import Derived.KernelRfl
namespace Go.Proofs.Ytcpcohkfailmaaa
/- THE CELL 'sum', in the pinned program and in every row, IS THE sha256 OF THE DUMP (.gsa) THAT YtcpcohkfailmaaaProg.lean LOADS. Nothing in Lean hashes anything: it is a label: what it is worth is what the hold of that sum in a sandbox is worth. -/
noncomputable def Try.pinned : Pinned := { name := "ytcpcohkfailmaaa", sum := "8045302b1ba4ef7186814923f8a7150ca1de4829ddfad3d889029a10eafa6ae2", checked := Try.checked }
namespace Rows
def none {H : Type} : Left H := { results := [], args := [] }

/-- 'viaticumlaw20.ScopeForms': WHATEVER THE INPUT: true; the input reads as it did. -/
def scopeFormsSpec : ChangeSpec := { name := "scopeForms", fn := fun _ => fun
  | [d1, d2, d3, d4] => { results := [.lit (.bool true)], args := [d1, d2, d3, d4] }
  | _ => none }
def scopeFormsRow : OpenClaim := { program := "ytcpcohkfailmaaa", sum := "8045302b1ba4ef7186814923f8a7150ca1de4829ddfad3d889029a10eafa6ae2", func := "viaticum/viaticumlaw20.ScopeForms", spec := "scopeForms", apart := false }
def ScopeFormsSaid : Prop := scopeFormsRow.holds Try.pinned (OpenSpec.ofChange scopeFormsSpec)

/-- ITS FALSE NEIGHBOUR: 'it returns false'. Refute it at one input. -/
def scopeFormsWrong : ChangeSpec := { name := "scopeForms", fn := fun _ => fun
  | [d1, d2, d3, d4] => { results := [.lit (.bool false)], args := [d1, d2, d3, d4] }
  | _ => none }
def ScopeFormsWrongFalsely : Prop := scopeFormsRow.holds Try.pinned (OpenSpec.ofChange scopeFormsWrong)

/-- 'viaticumlaw20.ScopeBehind': WHATEVER THE INPUT: true; the input reads as it did. -/
def scopeBehindSpec : ChangeSpec := { name := "scopeBehind", fn := fun _ => fun
  | [d1, d2, d3, d4] => { results := [.lit (.bool true)], args := [d1, d2, d3, d4] }
  | _ => none }
def scopeBehindRow : OpenClaim := { program := "ytcpcohkfailmaaa", sum := "8045302b1ba4ef7186814923f8a7150ca1de4829ddfad3d889029a10eafa6ae2", func := "viaticum/viaticumlaw20.ScopeBehind", spec := "scopeBehind", apart := false }
def ScopeBehindSaid : Prop := scopeBehindRow.holds Try.pinned (OpenSpec.ofChange scopeBehindSpec)

/-- ITS FALSE NEIGHBOUR: 'it returns false'. Refute it at one input. -/
def scopeBehindWrong : ChangeSpec := { name := "scopeBehind", fn := fun _ => fun
  | [d1, d2, d3, d4] => { results := [.lit (.bool false)], args := [d1, d2, d3, d4] }
  | _ => none }
def ScopeBehindWrongFalsely : Prop := scopeBehindRow.holds Try.pinned (OpenSpec.ofChange scopeBehindWrong)

/-- 'viaticumlaw20.ScopeMore': WHATEVER THE INPUT: true; the input reads as it did. -/
def scopeMoreSpec : ChangeSpec := { name := "scopeMore", fn := fun _ => fun
  | [d1, d2, d3, d4, d5] => { results := [.lit (.bool true)], args := [d1, d2, d3, d4, d5] }
  | _ => none }
def scopeMoreRow : OpenClaim := { program := "ytcpcohkfailmaaa", sum := "8045302b1ba4ef7186814923f8a7150ca1de4829ddfad3d889029a10eafa6ae2", func := "viaticum/viaticumlaw20.ScopeMore", spec := "scopeMore", apart := false }
def ScopeMoreSaid : Prop := scopeMoreRow.holds Try.pinned (OpenSpec.ofChange scopeMoreSpec)

/-- ITS FALSE NEIGHBOUR: 'it returns false'. Refute it at one input. -/
def scopeMoreWrong : ChangeSpec := { name := "scopeMore", fn := fun _ => fun
  | [d1, d2, d3, d4, d5] => { results := [.lit (.bool false)], args := [d1, d2, d3, d4, d5] }
  | _ => none }
def ScopeMoreWrongFalsely : Prop := scopeMoreRow.holds Try.pinned (OpenSpec.ofChange scopeMoreWrong)

/-- 'viaticumlaw20.ScopeDefaults': WHATEVER THE INPUT: true; the input reads as it did. -/
def scopeDefaultsSpec : ChangeSpec := { name := "scopeDefaults", fn := fun _ => fun
  | [d1, d2, d3, d4] => { results := [.lit (.bool true)], args := [d1, d2, d3, d4] }
  | _ => none }
def scopeDefaultsRow : OpenClaim := { program := "ytcpcohkfailmaaa", sum := "8045302b1ba4ef7186814923f8a7150ca1de4829ddfad3d889029a10eafa6ae2", func := "viaticum/viaticumlaw20.ScopeDefaults", spec := "scopeDefaults", apart := false }
def ScopeDefaultsSaid : Prop := scopeDefaultsRow.holds Try.pinned (OpenSpec.ofChange scopeDefaultsSpec)

/-- ITS FALSE NEIGHBOUR: 'it returns false'. Refute it at one input. -/
def scopeDefaultsWrong : ChangeSpec := { name := "scopeDefaults", fn := fun _ => fun
  | [d1, d2, d3, d4] => { results := [.lit (.bool false)], args := [d1, d2, d3, d4] }
  | _ => none }
def ScopeDefaultsWrongFalsely : Prop := scopeDefaultsRow.holds Try.pinned (OpenSpec.ofChange scopeDefaultsWrong)

/-- 'viaticumlaw20.ScopePrevious': WHATEVER THE INPUT: true; the input reads as it did. -/
def scopePreviousSpec : ChangeSpec := { name := "scopePrevious", fn := fun _ => fun
  | [d1, d2] => { results := [.lit (.bool true)], args := [d1, d2] }
  | _ => none }
def scopePreviousRow : OpenClaim := { program := "ytcpcohkfailmaaa", sum := "8045302b1ba4ef7186814923f8a7150ca1de4829ddfad3d889029a10eafa6ae2", func := "viaticum/viaticumlaw20.ScopePrevious", spec := "scopePrevious", apart := false }
def ScopePreviousSaid : Prop := scopePreviousRow.holds Try.pinned (OpenSpec.ofChange scopePreviousSpec)

/-- ITS FALSE NEIGHBOUR: 'it returns false'. Refute it at one input. -/
def scopePreviousWrong : ChangeSpec := { name := "scopePrevious", fn := fun _ => fun
  | [d1, d2] => { results := [.lit (.bool false)], args := [d1, d2] }
  | _ => none }
def ScopePreviousWrongFalsely : Prop := scopePreviousRow.holds Try.pinned (OpenSpec.ofChange scopePreviousWrong)

/- THE SECOND FORM. 'bulk': how many values and letters a reading holds, each counted each time it is reached (what is shared counts as often as it is met; a slice's spare places count too). A statement '..UptoSaid' is the law's where the arguments, and the package variables that the reading takes, are together of bulk at most 1048576: NARROWER than '..Said'. Prove '..Said' where nothing that the law and all that it calls make is longer than what came in: it says more and counts as full. Else prove '..UptoSaid'. A law counts once. -/
mutual
def uptoBulk {H : Type} : DataW H → Nat
  | .lit (.string bytes) => bytes.length + 1
  | .lit _ => 1
  | .nil => 1
  | .ptr d => uptoBulk d + 1
  | .slice elems spare => uptoBulkAll elems + uptoBulkAll spare + 1
  | .agg parts => uptoBulkAll parts + 1
  | .iface _ d => uptoBulk d + 1
  | .map entries => uptoBulkEntries entries + 1
  | .held _ => 1
def uptoBulkAll {H : Type} : List (DataW H) → Nat
  | [] => 0
  | d :: r => uptoBulk d + uptoBulkAll r
def uptoBulkEntries {H : Type} : List (Lit × DataW H) → Nat
  | [] => 0
  | x :: r => uptoBulkEntry x + uptoBulkEntries r
def uptoBulkEntry {H : Type} : Lit × DataW H → Nat
  | (.string bytes, d) => bytes.length + uptoBulk d + 1
  | (_, d) => uptoBulk d + 1
 end
def uptoSmall : (H : Type) → List (DataW H) → Bool := fun _ ds => decide (uptoBulkAll ds ≤ 1048576)
def OpenSpec.upto (s : _root_.Go.ChangeSpec) : _root_.Go.OpenSpec := { _root_.Go.OpenSpec.ofChange s with cond := some uptoSmall }

/-- 'viaticumlaw20.ScopeForms', WHERE WHAT IT READS IS OF BULK AT MOST 1048576: true; the input reads as it did. -/
def scopeFormsUptoRow : OpenClaim := { program := "ytcpcohkfailmaaa", sum := "8045302b1ba4ef7186814923f8a7150ca1de4829ddfad3d889029a10eafa6ae2", func := "viaticum/viaticumlaw20.ScopeForms", spec := "scopeForms", apart := false, narrowed := true }
def ScopeFormsUptoSaid : Prop := scopeFormsUptoRow.holds Try.pinned (OpenSpec.upto scopeFormsSpec)

/-- 'viaticumlaw20.ScopeBehind', WHERE WHAT IT READS IS OF BULK AT MOST 1048576: true; the input reads as it did. -/
def scopeBehindUptoRow : OpenClaim := { program := "ytcpcohkfailmaaa", sum := "8045302b1ba4ef7186814923f8a7150ca1de4829ddfad3d889029a10eafa6ae2", func := "viaticum/viaticumlaw20.ScopeBehind", spec := "scopeBehind", apart := false, narrowed := true }
def ScopeBehindUptoSaid : Prop := scopeBehindUptoRow.holds Try.pinned (OpenSpec.upto scopeBehindSpec)

/-- 'viaticumlaw20.ScopeMore', WHERE WHAT IT READS IS OF BULK AT MOST 1048576: true; the input reads as it did. -/
def scopeMoreUptoRow : OpenClaim := { program := "ytcpcohkfailmaaa", sum := "8045302b1ba4ef7186814923f8a7150ca1de4829ddfad3d889029a10eafa6ae2", func := "viaticum/viaticumlaw20.ScopeMore", spec := "scopeMore", apart := false, narrowed := true }
def ScopeMoreUptoSaid : Prop := scopeMoreUptoRow.holds Try.pinned (OpenSpec.upto scopeMoreSpec)

/-- 'viaticumlaw20.ScopeDefaults', WHERE WHAT IT READS IS OF BULK AT MOST 1048576: true; the input reads as it did. -/
def scopeDefaultsUptoRow : OpenClaim := { program := "ytcpcohkfailmaaa", sum := "8045302b1ba4ef7186814923f8a7150ca1de4829ddfad3d889029a10eafa6ae2", func := "viaticum/viaticumlaw20.ScopeDefaults", spec := "scopeDefaults", apart := false, narrowed := true }
def ScopeDefaultsUptoSaid : Prop := scopeDefaultsUptoRow.holds Try.pinned (OpenSpec.upto scopeDefaultsSpec)

/-- 'viaticumlaw20.ScopePrevious', WHERE WHAT IT READS IS OF BULK AT MOST 1048576: true; the input reads as it did. -/
def scopePreviousUptoRow : OpenClaim := { program := "ytcpcohkfailmaaa", sum := "8045302b1ba4ef7186814923f8a7150ca1de4829ddfad3d889029a10eafa6ae2", func := "viaticum/viaticumlaw20.ScopePrevious", spec := "scopePrevious", apart := false, narrowed := true }
def ScopePreviousUptoSaid : Prop := scopePreviousUptoRow.holds Try.pinned (OpenSpec.upto scopePreviousSpec)

end Rows
end Go.Proofs.Ytcpcohkfailmaaa
