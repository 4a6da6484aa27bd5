/-
  DERIVED. GIVEN WITH THE SEED: THE CARDS: each row of YtmomebakkpjdgaaDoorRows.lean that lists a variable, with what it lists TIED to the program's text (the seventh form; the later family's looks); each row that meets fmt, with fmt's text TOLD by the authors' own Lean function (tested against real Go, not proved from fmt's source: count such statements apart). THE CARD IS WHAT COUNTS. Prove the row's statement (the work); the ties are given (YtmomebakkpjdgaaDoorTie.lean); close each card by the builder's one call (the guide's Derived/Test/ToyasCard.lean, 'card_holds'). Laid BY PROGRAM, IN A SANDBOX (cutbox-door.mjs). By AI agents, Wed Nov 11 2026. No macro, syntax, notation, axiom, sorry.
-/
import Derived.Test.YtmomebakkpjdgaaDoorRows
import GoSem.ClaimSeven
namespace Go.Proofs.YtmomebakkpjdgaaDoor
namespace Rows

/-- THE TIED CARD OF 'viaticumlaw13.SymbolRow'. -/
def symbolRowCard : Claim7 := { stood := { row := symbolRowRow, standIns := [], harness := (true, "9d66dcba0b24a6bd8e5de25c9802a7f4e80bc6170ef98ede3409cd4550420ef9"), looks := true }, kinds := [], alts := [], laidByText := true, laidKinds := [.data, .pinned], laidTests := true, laidLooks := .later }
def SymbolRowCardSaid : Prop := Claim7.holds Tryd.pinned (.plain (OpenSpec.ofChange symbolRowSpec)) symbolRowCard

/-- THE TIED CARD OF 'viaticumlaw13.SymbolPlays'. -/
def symbolPlaysCard : Claim7 := { stood := { row := symbolPlaysRow, standIns := [], harness := (true, "9d66dcba0b24a6bd8e5de25c9802a7f4e80bc6170ef98ede3409cd4550420ef9"), looks := true }, kinds := [], alts := [], laidByText := true, laidKinds := [.data, .pinned], laidTests := true, laidLooks := .later }
def SymbolPlaysCardSaid : Prop := Claim7.holds Tryd.pinned (.plain (OpenSpec.ofChange symbolPlaysSpec)) symbolPlaysCard

/-- THE TIED CARD OF 'viaticumlaw13.SymbolNil'. -/
def symbolNilCard : Claim7 := { stood := { row := symbolNilRow, standIns := [], harness := (true, "9d66dcba0b24a6bd8e5de25c9802a7f4e80bc6170ef98ede3409cd4550420ef9"), looks := true }, kinds := [], alts := [], laidByText := true, laidKinds := [.data, .pinned], laidTests := true, laidLooks := .later }
def SymbolNilCardSaid : Prop := Claim7.holds Tryd.pinned (.plain (OpenSpec.ofChange symbolNilSpec)) symbolNilCard

/-- THE TIED CARD OF 'viaticumlaw13.SymbolStays'. -/
def symbolStaysCard : Claim7 := { stood := { row := symbolStaysRow, standIns := [], harness := (true, "9d66dcba0b24a6bd8e5de25c9802a7f4e80bc6170ef98ede3409cd4550420ef9"), looks := true }, kinds := [], alts := [], laidByText := true, laidKinds := [.data, .pinned], laidTests := true, laidLooks := .later }
def SymbolStaysCardSaid : Prop := Claim7.holds Tryd.pinned (.plain (OpenSpec.ofChange symbolStaysSpec)) symbolStaysCard

/-- THE SECOND FORM's CARD OF 'viaticumlaw13.SymbolRow'. -/
def symbolRowUptoCard : Claim7 := { stood := { row := symbolRowUptoRow, standIns := [], harness := (true, "9d66dcba0b24a6bd8e5de25c9802a7f4e80bc6170ef98ede3409cd4550420ef9"), looks := true }, kinds := [], alts := [], laidByText := true, laidKinds := [.data, .pinned], laidTests := true, laidLooks := .later }
def SymbolRowUptoCardSaid : Prop := Claim7.holds Tryd.pinned (.plain (OpenSpec.upto symbolRowSpec)) symbolRowUptoCard

/-- THE SECOND FORM's CARD OF 'viaticumlaw13.SymbolPlays'. -/
def symbolPlaysUptoCard : Claim7 := { stood := { row := symbolPlaysUptoRow, standIns := [], harness := (true, "9d66dcba0b24a6bd8e5de25c9802a7f4e80bc6170ef98ede3409cd4550420ef9"), looks := true }, kinds := [], alts := [], laidByText := true, laidKinds := [.data, .pinned], laidTests := true, laidLooks := .later }
def SymbolPlaysUptoCardSaid : Prop := Claim7.holds Tryd.pinned (.plain (OpenSpec.upto symbolPlaysSpec)) symbolPlaysUptoCard

/-- THE SECOND FORM's CARD OF 'viaticumlaw13.SymbolNil'. -/
def symbolNilUptoCard : Claim7 := { stood := { row := symbolNilUptoRow, standIns := [], harness := (true, "9d66dcba0b24a6bd8e5de25c9802a7f4e80bc6170ef98ede3409cd4550420ef9"), looks := true }, kinds := [], alts := [], laidByText := true, laidKinds := [.data, .pinned], laidTests := true, laidLooks := .later }
def SymbolNilUptoCardSaid : Prop := Claim7.holds Tryd.pinned (.plain (OpenSpec.upto symbolNilSpec)) symbolNilUptoCard

/-- THE SECOND FORM's CARD OF 'viaticumlaw13.SymbolStays'. -/
def symbolStaysUptoCard : Claim7 := { stood := { row := symbolStaysUptoRow, standIns := [], harness := (true, "9d66dcba0b24a6bd8e5de25c9802a7f4e80bc6170ef98ede3409cd4550420ef9"), looks := true }, kinds := [], alts := [], laidByText := true, laidKinds := [.data, .pinned], laidTests := true, laidLooks := .later }
def SymbolStaysUptoCardSaid : Prop := Claim7.holds Tryd.pinned (.plain (OpenSpec.upto symbolStaysSpec)) symbolStaysUptoCard
end Rows
end Go.Proofs.YtmomebakkpjdgaaDoor
