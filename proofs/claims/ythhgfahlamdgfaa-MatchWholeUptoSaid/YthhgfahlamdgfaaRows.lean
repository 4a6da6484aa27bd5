/-
  No cell of these rows narrows 'for every input' (looked for: loops, veiled, ifaces, maps, wideKeys, modest, calm, conditions, laid).
  DERIVED. THE GIVEN ROWS OF THIS SEAT. 8 by the template 'for every input the law returns true; each argument reads behind the call as it read before'; 0 by the template 'total and deterministic' (their statements: YthhgfahlamdgfaaTotals.lean).
  GIVEN WITH THE SEED: the statements are not yours to turn. If you find one false, say at which input.
  Laid BY PROGRAM, IN A SANDBOX (cutbox-rows.mjs): the forced cells as the released guide's own fill.sh prints them over the translation 61f57839ba9f9e2a… (all of the seat's roots in one cut). By AI agents, Wed Nov 11 2026. No macro, syntax, notation, axiom, sorry.
-/
import Derived.Test.YthhgfahlamdgfaaChecked
import GoSem.Claim
import GoSem.ClaimJoined
import GoSem.ClaimMapViews
import Derived.JoinedTies
import Derived.KernelRfl
namespace Go.Proofs.Ythhgfahlamdgfaa
/- THE CELL 'sum', in the pinned program and in every row, IS THE sha256 OF THE DUMP (.gsa) THAT YthhgfahlamdgfaaProg.lean LOADS. Nothing in Lean hashes anything: it is a label: what it is worth is what the hold of that sum in a sandbox is worth. -/
noncomputable def Try.pinned : Pinned := { name := "ythhgfahlamdgfaa", sum := "61f57839ba9f9e2a50e142ffaf3b78e979deb7121ee63be3daa139065dbaa220", checked := Try.checked }
namespace Rows
def none {H : Type} : Left H := { results := [], args := [] }

/-- 'viaticumlaw9.RegexPlain': WHATEVER THE INPUT: true; the input reads as it did. -/
def regexPlainSpec : ChangeSpec := { name := "regexPlain", fn := fun _ => fun
  | [d] => { results := [.lit (.bool true)], args := [d] }
  | _ => none }
def regexPlainRow : OpenClaim := { program := "ythhgfahlamdgfaa", sum := "61f57839ba9f9e2a50e142ffaf3b78e979deb7121ee63be3daa139065dbaa220", func := "viaticum/viaticumlaw9.RegexPlain", spec := "regexPlain", inPlace := ["internal/bytealg.IndexByteString"], unfollowed := true, recurses := true, apart := false }
def RegexPlainSaid : Prop := regexPlainRow.holds Try.pinned (OpenSpec.ofChange regexPlainSpec)

/-- ITS FALSE NEIGHBOUR: 'it returns false'. Refute it at one input. -/
def regexPlainWrong : ChangeSpec := { name := "regexPlain", fn := fun _ => fun
  | [d] => { results := [.lit (.bool false)], args := [d] }
  | _ => none }
def RegexPlainWrongFalsely : Prop := regexPlainRow.holds Try.pinned (OpenSpec.ofChange regexPlainWrong)

/-- 'viaticumlaw9.RegexPairs': WHATEVER THE INPUT: true; the input reads as it did. -/
def regexPairsSpec : ChangeSpec := { name := "regexPairs", fn := fun _ => fun
  | [d1, d2] => { results := [.lit (.bool true)], args := [d1, d2] }
  | _ => none }
def regexPairsRow : OpenClaim := { program := "ythhgfahlamdgfaa", sum := "61f57839ba9f9e2a50e142ffaf3b78e979deb7121ee63be3daa139065dbaa220", func := "viaticum/viaticumlaw9.RegexPairs", spec := "regexPairs", inPlace := ["internal/bytealg.IndexByteString"], unfollowed := true, recurses := true, apart := false }
def RegexPairsSaid : Prop := regexPairsRow.holds Try.pinned (OpenSpec.ofChange regexPairsSpec)

/-- ITS FALSE NEIGHBOUR: 'it returns false'. Refute it at one input. -/
def regexPairsWrong : ChangeSpec := { name := "regexPairs", fn := fun _ => fun
  | [d1, d2] => { results := [.lit (.bool false)], args := [d1, d2] }
  | _ => none }
def RegexPairsWrongFalsely : Prop := regexPairsRow.holds Try.pinned (OpenSpec.ofChange regexPairsWrong)

/-- 'viaticumlaw9.RegexDeep': WHATEVER THE INPUT: true; the input reads as it did. -/
def regexDeepSpec : ChangeSpec := { name := "regexDeep", fn := fun _ => fun
  | [d1, d2] => { results := [.lit (.bool true)], args := [d1, d2] }
  | _ => none }
def regexDeepRow : OpenClaim := { program := "ythhgfahlamdgfaa", sum := "61f57839ba9f9e2a50e142ffaf3b78e979deb7121ee63be3daa139065dbaa220", func := "viaticum/viaticumlaw9.RegexDeep", spec := "regexDeep", inPlace := ["internal/bytealg.IndexByteString"], unfollowed := true, recurses := true, apart := false }
def RegexDeepSaid : Prop := regexDeepRow.holds Try.pinned (OpenSpec.ofChange regexDeepSpec)

/-- ITS FALSE NEIGHBOUR: 'it returns false'. Refute it at one input. -/
def regexDeepWrong : ChangeSpec := { name := "regexDeep", fn := fun _ => fun
  | [d1, d2] => { results := [.lit (.bool false)], args := [d1, d2] }
  | _ => none }
def RegexDeepWrongFalsely : Prop := regexDeepRow.holds Try.pinned (OpenSpec.ofChange regexDeepWrong)

/-- 'viaticumlaw9.RegexClasses': WHATEVER THE INPUT: true; the input reads as it did. -/
def regexClassesSpec : ChangeSpec := { name := "regexClasses", fn := fun _ => fun
  | [d1, d2, d3] => { results := [.lit (.bool true)], args := [d1, d2, d3] }
  | _ => none }
def regexClassesRow : OpenClaim := { program := "ythhgfahlamdgfaa", sum := "61f57839ba9f9e2a50e142ffaf3b78e979deb7121ee63be3daa139065dbaa220", func := "viaticum/viaticumlaw9.RegexClasses", spec := "regexClasses", inPlace := ["internal/bytealg.IndexByteString"], unfollowed := true, recurses := true, apart := false }
def RegexClassesSaid : Prop := regexClassesRow.holds Try.pinned (OpenSpec.ofChange regexClassesSpec)

/-- ITS FALSE NEIGHBOUR: 'it returns false'. Refute it at one input. -/
def regexClassesWrong : ChangeSpec := { name := "regexClasses", fn := fun _ => fun
  | [d1, d2, d3] => { results := [.lit (.bool false)], args := [d1, d2, d3] }
  | _ => none }
def RegexClassesWrongFalsely : Prop := regexClassesRow.holds Try.pinned (OpenSpec.ofChange regexClassesWrong)

/-- 'viaticumlaw10.MatchWhole': WHATEVER THE INPUT: true; the input reads as it did. -/
def matchWholeSpec : ChangeSpec := { name := "matchWhole", fn := fun _ => fun
  | [d1, d2, d3] => { results := [.lit (.bool true)], args := [d1, d2, d3] }
  | _ => none }
def matchWholeRow : OpenClaim := { program := "ythhgfahlamdgfaa", sum := "61f57839ba9f9e2a50e142ffaf3b78e979deb7121ee63be3daa139065dbaa220", func := "viaticum/viaticumlaw10.MatchWhole", spec := "matchWhole", inPlace := ["internal/bytealg.IndexByteString"], unfollowed := true, recurses := true, apart := false }
def MatchWholeSaid : Prop := matchWholeRow.holds Try.pinned (OpenSpec.ofChange matchWholeSpec)

/-- ITS FALSE NEIGHBOUR: 'it returns false'. Refute it at one input. -/
def matchWholeWrong : ChangeSpec := { name := "matchWhole", fn := fun _ => fun
  | [d1, d2, d3] => { results := [.lit (.bool false)], args := [d1, d2, d3] }
  | _ => none }
def MatchWholeWrongFalsely : Prop := matchWholeRow.holds Try.pinned (OpenSpec.ofChange matchWholeWrong)

/-- 'viaticumlaw10.MatchSums': WHATEVER THE INPUT: true; the input reads as it did. -/
def matchSumsSpec : ChangeSpec := { name := "matchSums", fn := fun _ => fun
  | [d1, d2, d3] => { results := [.lit (.bool true)], args := [d1, d2, d3] }
  | _ => none }
def matchSumsRow : OpenClaim := { program := "ythhgfahlamdgfaa", sum := "61f57839ba9f9e2a50e142ffaf3b78e979deb7121ee63be3daa139065dbaa220", func := "viaticum/viaticumlaw10.MatchSums", spec := "matchSums", inPlace := ["internal/bytealg.IndexByteString"], unfollowed := true, recurses := true, apart := false }
def MatchSumsSaid : Prop := matchSumsRow.holds Try.pinned (OpenSpec.ofChange matchSumsSpec)

/-- ITS FALSE NEIGHBOUR: 'it returns false'. Refute it at one input. -/
def matchSumsWrong : ChangeSpec := { name := "matchSums", fn := fun _ => fun
  | [d1, d2, d3] => { results := [.lit (.bool false)], args := [d1, d2, d3] }
  | _ => none }
def MatchSumsWrongFalsely : Prop := matchSumsRow.holds Try.pinned (OpenSpec.ofChange matchSumsWrong)

/-- 'viaticumlaw10.MatchEnds': WHATEVER THE INPUT: true; the input reads as it did. -/
def matchEndsSpec : ChangeSpec := { name := "matchEnds", fn := fun _ => fun
  | [d1, d2] => { results := [.lit (.bool true)], args := [d1, d2] }
  | _ => none }
def matchEndsRow : OpenClaim := { program := "ythhgfahlamdgfaa", sum := "61f57839ba9f9e2a50e142ffaf3b78e979deb7121ee63be3daa139065dbaa220", func := "viaticum/viaticumlaw10.MatchEnds", spec := "matchEnds", inPlace := ["internal/bytealg.IndexByteString"], unfollowed := true, recurses := true, apart := false }
def MatchEndsSaid : Prop := matchEndsRow.holds Try.pinned (OpenSpec.ofChange matchEndsSpec)

/-- ITS FALSE NEIGHBOUR: 'it returns false'. Refute it at one input. -/
def matchEndsWrong : ChangeSpec := { name := "matchEnds", fn := fun _ => fun
  | [d1, d2] => { results := [.lit (.bool false)], args := [d1, d2] }
  | _ => none }
def MatchEndsWrongFalsely : Prop := matchEndsRow.holds Try.pinned (OpenSpec.ofChange matchEndsWrong)

/-- 'viaticumlaw10.MatchStars': WHATEVER THE INPUT: true; the input reads as it did. -/
def matchStarsSpec : ChangeSpec := { name := "matchStars", fn := fun _ => fun
  | [d1, d2] => { results := [.lit (.bool true)], args := [d1, d2] }
  | _ => none }
def matchStarsRow : OpenClaim := { program := "ythhgfahlamdgfaa", sum := "61f57839ba9f9e2a50e142ffaf3b78e979deb7121ee63be3daa139065dbaa220", func := "viaticum/viaticumlaw10.MatchStars", spec := "matchStars", inPlace := ["internal/bytealg.IndexByteString"], unfollowed := true, recurses := true, apart := false }
def MatchStarsSaid : Prop := matchStarsRow.holds Try.pinned (OpenSpec.ofChange matchStarsSpec)

/-- ITS FALSE NEIGHBOUR: 'it returns false'. Refute it at one input. -/
def matchStarsWrong : ChangeSpec := { name := "matchStars", fn := fun _ => fun
  | [d1, d2] => { results := [.lit (.bool false)], args := [d1, d2] }
  | _ => none }
def MatchStarsWrongFalsely : Prop := matchStarsRow.holds Try.pinned (OpenSpec.ofChange matchStarsWrong)

/- THE SECOND FORM. 'bulk': how many values and letters a reading holds, each counted each time it is reached (what is shared counts as often as it is met; a slice's spare places count too). A statement '..UptoSaid' is the law's where the arguments, and the package variables that the reading takes, are together of bulk at most 1048576: NARROWER than '..Said'. Prove '..Said' where nothing that the law and all that it calls make is longer than what came in: it says more and counts as full. Else prove '..UptoSaid'. A law counts once. -/
mutual
def uptoBulk {H : Type} : DataW H → Nat
  | .lit (.string bytes) => bytes.length + 1
  | .lit _ => 1
  | .nil => 1
  | .ptr d => uptoBulk d + 1
  | .slice elems spare => uptoBulkAll elems + uptoBulkAll spare + 1
  | .agg parts => uptoBulkAll parts + 1
  | .iface _ d => uptoBulk d + 1
  | .map entries => uptoBulkEntries entries + 1
  | .held _ => 1
def uptoBulkAll {H : Type} : List (DataW H) → Nat
  | [] => 0
  | d :: r => uptoBulk d + uptoBulkAll r
def uptoBulkEntries {H : Type} : List (Lit × DataW H) → Nat
  | [] => 0
  | x :: r => uptoBulkEntry x + uptoBulkEntries r
def uptoBulkEntry {H : Type} : Lit × DataW H → Nat
  | (.string bytes, d) => bytes.length + uptoBulk d + 1
  | (_, d) => uptoBulk d + 1
 end
def uptoSmall : (H : Type) → List (DataW H) → Bool := fun _ ds => decide (uptoBulkAll ds ≤ 1048576)
def OpenSpec.upto (s : _root_.Go.ChangeSpec) : _root_.Go.OpenSpec := { _root_.Go.OpenSpec.ofChange s with cond := some uptoSmall }

/-- 'viaticumlaw9.RegexPlain', WHERE WHAT IT READS IS OF BULK AT MOST 1048576: true; the input reads as it did. -/
def regexPlainUptoRow : OpenClaim := { program := "ythhgfahlamdgfaa", sum := "61f57839ba9f9e2a50e142ffaf3b78e979deb7121ee63be3daa139065dbaa220", func := "viaticum/viaticumlaw9.RegexPlain", spec := "regexPlain", inPlace := ["internal/bytealg.IndexByteString"], unfollowed := true, recurses := true, apart := false, narrowed := true }
def RegexPlainUptoSaid : Prop := regexPlainUptoRow.holds Try.pinned (OpenSpec.upto regexPlainSpec)

/-- 'viaticumlaw9.RegexPairs', WHERE WHAT IT READS IS OF BULK AT MOST 1048576: true; the input reads as it did. -/
def regexPairsUptoRow : OpenClaim := { program := "ythhgfahlamdgfaa", sum := "61f57839ba9f9e2a50e142ffaf3b78e979deb7121ee63be3daa139065dbaa220", func := "viaticum/viaticumlaw9.RegexPairs", spec := "regexPairs", inPlace := ["internal/bytealg.IndexByteString"], unfollowed := true, recurses := true, apart := false, narrowed := true }
def RegexPairsUptoSaid : Prop := regexPairsUptoRow.holds Try.pinned (OpenSpec.upto regexPairsSpec)

/-- 'viaticumlaw9.RegexDeep', WHERE WHAT IT READS IS OF BULK AT MOST 1048576: true; the input reads as it did. -/
def regexDeepUptoRow : OpenClaim := { program := "ythhgfahlamdgfaa", sum := "61f57839ba9f9e2a50e142ffaf3b78e979deb7121ee63be3daa139065dbaa220", func := "viaticum/viaticumlaw9.RegexDeep", spec := "regexDeep", inPlace := ["internal/bytealg.IndexByteString"], unfollowed := true, recurses := true, apart := false, narrowed := true }
def RegexDeepUptoSaid : Prop := regexDeepUptoRow.holds Try.pinned (OpenSpec.upto regexDeepSpec)

/-- 'viaticumlaw9.RegexClasses', WHERE WHAT IT READS IS OF BULK AT MOST 1048576: true; the input reads as it did. -/
def regexClassesUptoRow : OpenClaim := { program := "ythhgfahlamdgfaa", sum := "61f57839ba9f9e2a50e142ffaf3b78e979deb7121ee63be3daa139065dbaa220", func := "viaticum/viaticumlaw9.RegexClasses", spec := "regexClasses", inPlace := ["internal/bytealg.IndexByteString"], unfollowed := true, recurses := true, apart := false, narrowed := true }
def RegexClassesUptoSaid : Prop := regexClassesUptoRow.holds Try.pinned (OpenSpec.upto regexClassesSpec)

/-- 'viaticumlaw10.MatchWhole', WHERE WHAT IT READS IS OF BULK AT MOST 1048576: true; the input reads as it did. -/
def matchWholeUptoRow : OpenClaim := { program := "ythhgfahlamdgfaa", sum := "61f57839ba9f9e2a50e142ffaf3b78e979deb7121ee63be3daa139065dbaa220", func := "viaticum/viaticumlaw10.MatchWhole", spec := "matchWhole", inPlace := ["internal/bytealg.IndexByteString"], unfollowed := true, recurses := true, apart := false, narrowed := true }
def MatchWholeUptoSaid : Prop := matchWholeUptoRow.holds Try.pinned (OpenSpec.upto matchWholeSpec)

/-- 'viaticumlaw10.MatchSums', WHERE WHAT IT READS IS OF BULK AT MOST 1048576: true; the input reads as it did. -/
def matchSumsUptoRow : OpenClaim := { program := "ythhgfahlamdgfaa", sum := "61f57839ba9f9e2a50e142ffaf3b78e979deb7121ee63be3daa139065dbaa220", func := "viaticum/viaticumlaw10.MatchSums", spec := "matchSums", inPlace := ["internal/bytealg.IndexByteString"], unfollowed := true, recurses := true, apart := false, narrowed := true }
def MatchSumsUptoSaid : Prop := matchSumsUptoRow.holds Try.pinned (OpenSpec.upto matchSumsSpec)

/-- 'viaticumlaw10.MatchEnds', WHERE WHAT IT READS IS OF BULK AT MOST 1048576: true; the input reads as it did. -/
def matchEndsUptoRow : OpenClaim := { program := "ythhgfahlamdgfaa", sum := "61f57839ba9f9e2a50e142ffaf3b78e979deb7121ee63be3daa139065dbaa220", func := "viaticum/viaticumlaw10.MatchEnds", spec := "matchEnds", inPlace := ["internal/bytealg.IndexByteString"], unfollowed := true, recurses := true, apart := false, narrowed := true }
def MatchEndsUptoSaid : Prop := matchEndsUptoRow.holds Try.pinned (OpenSpec.upto matchEndsSpec)

/-- 'viaticumlaw10.MatchStars', WHERE WHAT IT READS IS OF BULK AT MOST 1048576: true; the input reads as it did. -/
def matchStarsUptoRow : OpenClaim := { program := "ythhgfahlamdgfaa", sum := "61f57839ba9f9e2a50e142ffaf3b78e979deb7121ee63be3daa139065dbaa220", func := "viaticum/viaticumlaw10.MatchStars", spec := "matchStars", inPlace := ["internal/bytealg.IndexByteString"], unfollowed := true, recurses := true, apart := false, narrowed := true }
def MatchStarsUptoSaid : Prop := matchStarsUptoRow.holds Try.pinned (OpenSpec.upto matchStarsSpec)

end Rows
end Go.Proofs.Ythhgfahlamdgfaa
