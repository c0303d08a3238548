/-
  DERIVED. GIVEN WITH THE SEED: THE CARDS: each row of YtaegjihmpgdfcaaDoorRows.lean that lists a variable, with what it lists TIED to the program's text (the seventh form; the later family's looks); each row that meets fmt, with fmt's text TOLD by the authors' own Lean function (tested against real Go, not proved from fmt's source: count such statements apart). THE CARD IS WHAT COUNTS. Prove the row's statement (the work); the ties are given (YtaegjihmpgdfcaaDoorTie.lean); close each card by the builder's one call (the guide's Derived/Test/ToyasCard.lean, 'card_holds'). Laid BY PROGRAM, IN A SANDBOX (cutbox-door.mjs). By AI agents, Wed Nov 11 2026. No macro, syntax, notation, axiom, sorry.
-/
import Derived.Test.YtaegjihmpgdfcaaDoorRows
import GoSem.ClaimSeven
namespace Go.Proofs.YtaegjihmpgdfcaaDoor
namespace Rows

/-- THE TIED CARD OF 'perigeelaw6.ProcsTextsComeBack'. -/
def procsTextsComeBackCard : Claim7 := { stood := { row := procsTextsComeBackRow, standIns := [], harness := (true, "45e844b3c2d6c6e5443dce811da7f35cb65236a812e883aabdf3738357fe5b48"), looks := false }, kinds := [], alts := [], laidByText := true, laidKinds := [.data, .data, .data, .data, .pinned], laidTests := true, laidLooks := .later }
def ProcsTextsComeBackCardSaid : Prop := Claim7.holds Tryd.pinned (.plain (OpenSpec.ofChange procsTextsComeBackSpec)) procsTextsComeBackCard

/-- THE TIED CARD OF 'perigeelaw6.EntriesTextsComeBack'. -/
def entriesTextsComeBackCard : Claim7 := { stood := { row := entriesTextsComeBackRow, standIns := [], harness := (true, "45e844b3c2d6c6e5443dce811da7f35cb65236a812e883aabdf3738357fe5b48"), looks := false }, kinds := [], alts := [], laidByText := true, laidKinds := [.data, .data, .data, .data, .pinned], laidTests := true, laidLooks := .later }
def EntriesTextsComeBackCardSaid : Prop := Claim7.holds Tryd.pinned (.plain (OpenSpec.ofChange entriesTextsComeBackSpec)) entriesTextsComeBackCard

/-- THE TIED CARD OF 'perigeelaw6.EntriesTextsMatchSpec'. -/
def entriesTextsMatchSpecCard : Claim7 := { stood := { row := entriesTextsMatchSpecRow, standIns := [], harness := (true, "45e844b3c2d6c6e5443dce811da7f35cb65236a812e883aabdf3738357fe5b48"), looks := false }, kinds := [], alts := [], laidByText := true, laidKinds := [.data, .data, .data, .data, .pinned], laidTests := true, laidLooks := .later }
def EntriesTextsMatchSpecCardSaid : Prop := Claim7.holds Tryd.pinned (.plain (OpenSpec.ofChange entriesTextsMatchSpecSpec)) entriesTextsMatchSpecCard

/-- THE SECOND FORM's CARD OF 'perigeelaw6.ProcsTextsComeBack'. -/
def procsTextsComeBackUptoCard : Claim7 := { stood := { row := procsTextsComeBackUptoRow, standIns := [], harness := (true, "45e844b3c2d6c6e5443dce811da7f35cb65236a812e883aabdf3738357fe5b48"), looks := false }, kinds := [], alts := [], laidByText := true, laidKinds := [.data, .data, .data, .data, .pinned], laidTests := true, laidLooks := .later }
def ProcsTextsComeBackUptoCardSaid : Prop := Claim7.holds Tryd.pinned (.plain (OpenSpec.upto procsTextsComeBackSpec)) procsTextsComeBackUptoCard

/-- THE SECOND FORM's CARD OF 'perigeelaw6.EntriesTextsComeBack'. -/
def entriesTextsComeBackUptoCard : Claim7 := { stood := { row := entriesTextsComeBackUptoRow, standIns := [], harness := (true, "45e844b3c2d6c6e5443dce811da7f35cb65236a812e883aabdf3738357fe5b48"), looks := false }, kinds := [], alts := [], laidByText := true, laidKinds := [.data, .data, .data, .data, .pinned], laidTests := true, laidLooks := .later }
def EntriesTextsComeBackUptoCardSaid : Prop := Claim7.holds Tryd.pinned (.plain (OpenSpec.upto entriesTextsComeBackSpec)) entriesTextsComeBackUptoCard

/-- THE SECOND FORM's CARD OF 'perigeelaw6.EntriesTextsMatchSpec'. -/
def entriesTextsMatchSpecUptoCard : Claim7 := { stood := { row := entriesTextsMatchSpecUptoRow, standIns := [], harness := (true, "45e844b3c2d6c6e5443dce811da7f35cb65236a812e883aabdf3738357fe5b48"), looks := false }, kinds := [], alts := [], laidByText := true, laidKinds := [.data, .data, .data, .data, .pinned], laidTests := true, laidLooks := .later }
def EntriesTextsMatchSpecUptoCardSaid : Prop := Claim7.holds Tryd.pinned (.plain (OpenSpec.upto entriesTextsMatchSpecSpec)) entriesTextsMatchSpecUptoCard
end Rows
end Go.Proofs.YtaegjihmpgdfcaaDoor
