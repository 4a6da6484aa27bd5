/-
  NARROWER THAN 'FOR EVERY INPUT', by the rows' own cells (each row's printed sentence says how): SymbolRow: laid · SymbolPlays: laid · SymbolNil: laid · SymbolStays: laid.
  DERIVED. THE GIVEN ROWS OF THIS SEAT. 4 by the template 'for every input the law returns true; each argument reads behind the call as it read before'; 0 by the template 'total and deterministic' (their statements: YtmomebakkpjdgaaDoorTotals.lean).
  GIVEN WITH THE SEED: the statements are not yours to turn. If you find one false, say at which input.
  Laid BY PROGRAM, IN A SANDBOX (cutbox-rows.mjs): the forced cells as the released guide's own fill.sh prints them over the translation cedd0c750a910781… (all of the seat's roots in one cut). By AI agents, Wed Nov 11 2026. No macro, syntax, notation, axiom, sorry.
-/
import Derived.Test.YtmomebakkpjdgaaDoorChecked
import GoSem.PinnedTables
import GoSem.Claim
import GoSem.ClaimJoined
import GoSem.ClaimMapViews
import Derived.JoinedTies
import Derived.KernelRfl
namespace Go.Proofs.YtmomebakkpjdgaaDoor
/- THE CELL 'sum', in the pinned program and in every row, IS THE sha256 OF THE DUMP (.gsa) THAT YtmomebakkpjdgaaDoorProg.lean LOADS. Nothing in Lean hashes anything: it is a label: what it is worth is what the hold of that sum in a sandbox is worth. -/
noncomputable def Tryd.pinned : Pinned := { name := "ytmomebakkpjdgaadoor", sum := "cedd0c750a91078192f3784aba2626f97f121f87a5d6fcd7e9fd3451a03b664d", checked := Tryd.checked }
namespace Rows
def none {H : Type} : Left H := { results := [], args := [] }

/- WHAT THE LISTED PACKAGE-LEVEL VARIABLES READ AS WHEN THE CALL BEGINS. Each datum BY PROGRAM (the guide's laid-datum.mjs) off the statement by which the dump's own 'gosem.cut.vars' lays the variable. In a bare row this is a premise. The card (YtmomebakkpjdgaaDoorCards.lean) ties it to the program's text. -/
def laid_unicode_utf8_acceptRanges {H : Type} : DataW H := .agg [.agg [.lit (.int .u8 128), .lit (.int .u8 191)], .agg [.lit (.int .u8 160), .lit (.int .u8 191)], .agg [.lit (.int .u8 128), .lit (.int .u8 159)], .agg [.lit (.int .u8 144), .lit (.int .u8 191)], .agg [.lit (.int .u8 128), .lit (.int .u8 143)], .agg [.lit (.int .u8 0), .lit (.int .u8 0)], .agg [.lit (.int .u8 0), .lit (.int .u8 0)], .agg [.lit (.int .u8 0), .lit (.int .u8 0)], .agg [.lit (.int .u8 0), .lit (.int .u8 0)], .agg [.lit (.int .u8 0), .lit (.int .u8 0)], .agg [.lit (.int .u8 0), .lit (.int .u8 0)], .agg [.lit (.int .u8 0), .lit (.int .u8 0)], .agg [.lit (.int .u8 0), .lit (.int .u8 0)], .agg [.lit (.int .u8 0), .lit (.int .u8 0)], .agg [.lit (.int .u8 0), .lit (.int .u8 0)], .agg [.lit (.int .u8 0), .lit (.int .u8 0)]]
/-- One of Go's own tables, pinned by name: the form's constant. -/
def laid_unicode_utf8_first : DataW Unit := Go.Pinned.utf8First

/-- 'viaticumlaw13.SymbolRow': WHATEVER THE INPUT: true; the input reads as it did. -/
def symbolRowSpec : ChangeSpec := { name := "symbolRow", fn := fun _ => fun
  | [d] => { results := [.lit (.bool true)], args := [d] }
  | _ => none }
def symbolRowRow : OpenClaim := { program := "ytmomebakkpjdgaadoor", sum := "cedd0c750a91078192f3784aba2626f97f121f87a5d6fcd7e9fd3451a03b664d", func := "viaticum/viaticumlaw13.SymbolRow", spec := "symbolRow", inPlace := ["internal/bytealg.CountString", "internal/bytealg.IndexByteString", "internal/bytealg.IndexString"], named := ["unicode/utf8.first", "unicode/utf8.acceptRanges", "internal/bytealg.MaxLen"], apart := false, laid := [("unicode/utf8.acceptRanges", laid_unicode_utf8_acceptRanges), ("unicode/utf8.first", laid_unicode_utf8_first)] }
def SymbolRowSaid : Prop := symbolRowRow.holds Tryd.pinned (OpenSpec.ofChange symbolRowSpec)

/-- ITS FALSE NEIGHBOUR: 'it returns false'. Refute it at one input. -/
def symbolRowWrong : ChangeSpec := { name := "symbolRow", fn := fun _ => fun
  | [d] => { results := [.lit (.bool false)], args := [d] }
  | _ => none }
def SymbolRowWrongFalsely : Prop := symbolRowRow.holds Tryd.pinned (OpenSpec.ofChange symbolRowWrong)

/-- 'viaticumlaw13.SymbolPlays': WHATEVER THE INPUT: true; the input reads as it did. -/
def symbolPlaysSpec : ChangeSpec := { name := "symbolPlays", fn := fun _ => fun
  | [d] => { results := [.lit (.bool true)], args := [d] }
  | _ => none }
def symbolPlaysRow : OpenClaim := { program := "ytmomebakkpjdgaadoor", sum := "cedd0c750a91078192f3784aba2626f97f121f87a5d6fcd7e9fd3451a03b664d", func := "viaticum/viaticumlaw13.SymbolPlays", spec := "symbolPlays", inPlace := ["internal/bytealg.CountString", "internal/bytealg.IndexByteString", "internal/bytealg.IndexString", "maps.clone"], named := ["unicode/utf8.first", "unicode/utf8.acceptRanges", "internal/bytealg.MaxLen"], apart := false, laid := [("unicode/utf8.acceptRanges", laid_unicode_utf8_acceptRanges), ("unicode/utf8.first", laid_unicode_utf8_first)] }
def SymbolPlaysSaid : Prop := symbolPlaysRow.holds Tryd.pinned (OpenSpec.ofChange symbolPlaysSpec)

/-- ITS FALSE NEIGHBOUR: 'it returns false'. Refute it at one input. -/
def symbolPlaysWrong : ChangeSpec := { name := "symbolPlays", fn := fun _ => fun
  | [d] => { results := [.lit (.bool false)], args := [d] }
  | _ => none }
def SymbolPlaysWrongFalsely : Prop := symbolPlaysRow.holds Tryd.pinned (OpenSpec.ofChange symbolPlaysWrong)

/-- 'viaticumlaw13.SymbolNil': WHATEVER THE INPUT: true; the input reads as it did. -/
def symbolNilSpec : ChangeSpec := { name := "symbolNil", fn := fun _ => fun
  | [d] => { results := [.lit (.bool true)], args := [d] }
  | _ => none }
def symbolNilRow : OpenClaim := { program := "ytmomebakkpjdgaadoor", sum := "cedd0c750a91078192f3784aba2626f97f121f87a5d6fcd7e9fd3451a03b664d", func := "viaticum/viaticumlaw13.SymbolNil", spec := "symbolNil", inPlace := ["internal/bytealg.CountString", "internal/bytealg.IndexByteString", "internal/bytealg.IndexString", "maps.clone"], named := ["unicode/utf8.first", "unicode/utf8.acceptRanges", "internal/bytealg.MaxLen"], apart := false, laid := [("unicode/utf8.acceptRanges", laid_unicode_utf8_acceptRanges), ("unicode/utf8.first", laid_unicode_utf8_first)] }
def SymbolNilSaid : Prop := symbolNilRow.holds Tryd.pinned (OpenSpec.ofChange symbolNilSpec)

/-- ITS FALSE NEIGHBOUR: 'it returns false'. Refute it at one input. -/
def symbolNilWrong : ChangeSpec := { name := "symbolNil", fn := fun _ => fun
  | [d] => { results := [.lit (.bool false)], args := [d] }
  | _ => none }
def SymbolNilWrongFalsely : Prop := symbolNilRow.holds Tryd.pinned (OpenSpec.ofChange symbolNilWrong)

/-- 'viaticumlaw13.SymbolStays': WHATEVER THE INPUT: true; the input reads as it did. -/
def symbolStaysSpec : ChangeSpec := { name := "symbolStays", fn := fun _ => fun
  | [d1, d2] => { results := [.lit (.bool true)], args := [d1, d2] }
  | _ => none }
def symbolStaysRow : OpenClaim := { program := "ytmomebakkpjdgaadoor", sum := "cedd0c750a91078192f3784aba2626f97f121f87a5d6fcd7e9fd3451a03b664d", func := "viaticum/viaticumlaw13.SymbolStays", spec := "symbolStays", inPlace := ["internal/bytealg.CountString", "internal/bytealg.IndexByteString", "internal/bytealg.IndexString", "maps.clone"], named := ["unicode/utf8.first", "unicode/utf8.acceptRanges", "internal/bytealg.MaxLen"], apart := false, laid := [("unicode/utf8.acceptRanges", laid_unicode_utf8_acceptRanges), ("unicode/utf8.first", laid_unicode_utf8_first)] }
def SymbolStaysSaid : Prop := symbolStaysRow.holds Tryd.pinned (OpenSpec.ofChange symbolStaysSpec)

/-- ITS FALSE NEIGHBOUR: 'it returns false'. Refute it at one input. -/
def symbolStaysWrong : ChangeSpec := { name := "symbolStays", fn := fun _ => fun
  | [d1, d2] => { results := [.lit (.bool false)], args := [d1, d2] }
  | _ => none }
def SymbolStaysWrongFalsely : Prop := symbolStaysRow.holds Tryd.pinned (OpenSpec.ofChange symbolStaysWrong)

/- THE SECOND FORM. 'bulk': how many values and letters a reading holds, each counted each time it is reached (what is shared counts as often as it is met; a slice's spare places count too). A statement '..UptoSaid' is the law's where the arguments, and the package variables that the reading takes, are together of bulk at most 1048576: NARROWER than '..Said'. Prove '..Said' where nothing that the law and all that it calls make is longer than what came in: it says more and counts as full. Else prove '..UptoSaid'. A law counts once. -/
mutual
def uptoBulk {H : Type} : DataW H → Nat
  | .lit (.string bytes) => bytes.length + 1
  | .lit _ => 1
  | .nil => 1
  | .ptr d => uptoBulk d + 1
  | .slice elems spare => uptoBulkAll elems + uptoBulkAll spare + 1
  | .agg parts => uptoBulkAll parts + 1
  | .iface _ d => uptoBulk d + 1
  | .map entries => uptoBulkEntries entries + 1
  | .held _ => 1
def uptoBulkAll {H : Type} : List (DataW H) → Nat
  | [] => 0
  | d :: r => uptoBulk d + uptoBulkAll r
def uptoBulkEntries {H : Type} : List (Lit × DataW H) → Nat
  | [] => 0
  | x :: r => uptoBulkEntry x + uptoBulkEntries r
def uptoBulkEntry {H : Type} : Lit × DataW H → Nat
  | (.string bytes, d) => bytes.length + uptoBulk d + 1
  | (_, d) => uptoBulk d + 1
 end
def uptoSmall : (H : Type) → List (DataW H) → Bool := fun _ ds => decide (uptoBulkAll ds ≤ 1048576)
def OpenSpec.upto (s : _root_.Go.ChangeSpec) : _root_.Go.OpenSpec := { _root_.Go.OpenSpec.ofChange s with cond := some uptoSmall }

/-- 'viaticumlaw13.SymbolRow', WHERE WHAT IT READS IS OF BULK AT MOST 1048576: true; the input reads as it did. -/
def symbolRowUptoRow : OpenClaim := { program := "ytmomebakkpjdgaadoor", sum := "cedd0c750a91078192f3784aba2626f97f121f87a5d6fcd7e9fd3451a03b664d", func := "viaticum/viaticumlaw13.SymbolRow", spec := "symbolRow", inPlace := ["internal/bytealg.CountString", "internal/bytealg.IndexByteString", "internal/bytealg.IndexString"], named := ["unicode/utf8.first", "unicode/utf8.acceptRanges", "internal/bytealg.MaxLen"], apart := false, laid := [("unicode/utf8.acceptRanges", laid_unicode_utf8_acceptRanges), ("unicode/utf8.first", laid_unicode_utf8_first)], narrowed := true }
def SymbolRowUptoSaid : Prop := symbolRowUptoRow.holds Tryd.pinned (OpenSpec.upto symbolRowSpec)

/-- 'viaticumlaw13.SymbolPlays', WHERE WHAT IT READS IS OF BULK AT MOST 1048576: true; the input reads as it did. -/
def symbolPlaysUptoRow : OpenClaim := { program := "ytmomebakkpjdgaadoor", sum := "cedd0c750a91078192f3784aba2626f97f121f87a5d6fcd7e9fd3451a03b664d", func := "viaticum/viaticumlaw13.SymbolPlays", spec := "symbolPlays", inPlace := ["internal/bytealg.CountString", "internal/bytealg.IndexByteString", "internal/bytealg.IndexString", "maps.clone"], named := ["unicode/utf8.first", "unicode/utf8.acceptRanges", "internal/bytealg.MaxLen"], apart := false, laid := [("unicode/utf8.acceptRanges", laid_unicode_utf8_acceptRanges), ("unicode/utf8.first", laid_unicode_utf8_first)], narrowed := true }
def SymbolPlaysUptoSaid : Prop := symbolPlaysUptoRow.holds Tryd.pinned (OpenSpec.upto symbolPlaysSpec)

/-- 'viaticumlaw13.SymbolNil', WHERE WHAT IT READS IS OF BULK AT MOST 1048576: true; the input reads as it did. -/
def symbolNilUptoRow : OpenClaim := { program := "ytmomebakkpjdgaadoor", sum := "cedd0c750a91078192f3784aba2626f97f121f87a5d6fcd7e9fd3451a03b664d", func := "viaticum/viaticumlaw13.SymbolNil", spec := "symbolNil", inPlace := ["internal/bytealg.CountString", "internal/bytealg.IndexByteString", "internal/bytealg.IndexString", "maps.clone"], named := ["unicode/utf8.first", "unicode/utf8.acceptRanges", "internal/bytealg.MaxLen"], apart := false, laid := [("unicode/utf8.acceptRanges", laid_unicode_utf8_acceptRanges), ("unicode/utf8.first", laid_unicode_utf8_first)], narrowed := true }
def SymbolNilUptoSaid : Prop := symbolNilUptoRow.holds Tryd.pinned (OpenSpec.upto symbolNilSpec)

/-- 'viaticumlaw13.SymbolStays', WHERE WHAT IT READS IS OF BULK AT MOST 1048576: true; the input reads as it did. -/
def symbolStaysUptoRow : OpenClaim := { program := "ytmomebakkpjdgaadoor", sum := "cedd0c750a91078192f3784aba2626f97f121f87a5d6fcd7e9fd3451a03b664d", func := "viaticum/viaticumlaw13.SymbolStays", spec := "symbolStays", inPlace := ["internal/bytealg.CountString", "internal/bytealg.IndexByteString", "internal/bytealg.IndexString", "maps.clone"], named := ["unicode/utf8.first", "unicode/utf8.acceptRanges", "internal/bytealg.MaxLen"], apart := false, laid := [("unicode/utf8.acceptRanges", laid_unicode_utf8_acceptRanges), ("unicode/utf8.first", laid_unicode_utf8_first)], narrowed := true }
def SymbolStaysUptoSaid : Prop := symbolStaysUptoRow.holds Tryd.pinned (OpenSpec.upto symbolStaysSpec)

end Rows
end Go.Proofs.YtmomebakkpjdgaaDoor
