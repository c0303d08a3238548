/-
  DERIVED. GIVEN WITH THE SEED: THE CARDS: each row of YtjldiihndmkpfaaDoorRows.lean that lists a variable, with what it lists TIED to the program's text (the seventh form; the later family's looks); each row that meets fmt, with fmt's text TOLD by the authors' own Lean function (tested against real Go, not proved from fmt's source: count such statements apart). THE CARD IS WHAT COUNTS. Prove the row's statement (the work); the ties are given (YtjldiihndmkpfaaDoorTie.lean); close each card by the builder's one call (the guide's Derived/Test/ToyasCard.lean, 'card_holds'). Laid BY PROGRAM, IN A SANDBOX (cutbox-door.mjs). By AI agents, Wed Nov 11 2026. No macro, syntax, notation, axiom, sorry.
-/
import Derived.Test.YtjldiihndmkpfaaDoorRows
import GoSem.ClaimSeven
namespace Go.Proofs.YtjldiihndmkpfaaDoor
namespace Rows

/-- THE TIED CARD OF 'perigeelaw2.DatesMatchSpec'. -/
def datesMatchSpecCard : Claim7 := { stood := { row := datesMatchSpecRow, standIns := [], harness := (true, "70f66e0a9f0668fe7b77200c4bcd9df345c49a27764926bc2a9e1c58d23c5b86"), looks := true }, kinds := [], alts := [], laidByText := true, laidKinds := [.data, .data, .data], laidTests := true, laidLooks := .later }
def DatesMatchSpecCardSaid : Prop := Claim7.holds Tryd.pinned (.plain (OpenSpec.ofChange datesMatchSpecSpec)) datesMatchSpecCard

/-- THE TIED CARD OF 'perigeelaw2.DatesComeBack'. -/
def datesComeBackCard : Claim7 := { stood := { row := datesComeBackRow, standIns := [], harness := (true, "70f66e0a9f0668fe7b77200c4bcd9df345c49a27764926bc2a9e1c58d23c5b86"), looks := true }, kinds := [], alts := [], laidByText := true, laidKinds := [.data, .data, .data], laidTests := true, laidLooks := .later }
def DatesComeBackCardSaid : Prop := Claim7.holds Tryd.pinned (.plain (OpenSpec.ofChange datesComeBackSpec)) datesComeBackCard

/-- THE TIED CARD OF 'perigeelaw2.MarksTextsComeBack'. -/
def marksTextsComeBackCard : Claim7 := { stood := { row := marksTextsComeBackRow, standIns := [], harness := (true, "70f66e0a9f0668fe7b77200c4bcd9df345c49a27764926bc2a9e1c58d23c5b86"), looks := true }, kinds := [], alts := [], laidByText := true, laidKinds := [.data, .data, .data, .data, .pinned], laidTests := true, laidLooks := .later }
def MarksTextsComeBackCardSaid : Prop := Claim7.holds Tryd.pinned (.plain (OpenSpec.ofChange marksTextsComeBackSpec)) marksTextsComeBackCard

/-- THE TIED CARD OF 'perigeelaw2.MarksTextsMatchSpec'. -/
def marksTextsMatchSpecCard : Claim7 := { stood := { row := marksTextsMatchSpecRow, standIns := [], harness := (true, "70f66e0a9f0668fe7b77200c4bcd9df345c49a27764926bc2a9e1c58d23c5b86"), looks := true }, kinds := [], alts := [], laidByText := true, laidKinds := [.data, .data, .data, .data, .pinned], laidTests := true, laidLooks := .later }
def MarksTextsMatchSpecCardSaid : Prop := Claim7.holds Tryd.pinned (.plain (OpenSpec.ofChange marksTextsMatchSpecSpec)) marksTextsMatchSpecCard

/-- THE TIED CARD OF 'perigeelaw3.MemoryTextsMatchSpec'. -/
def memoryTextsMatchSpecCard : Claim7 := { stood := { row := memoryTextsMatchSpecRow, standIns := [], harness := (true, "70f66e0a9f0668fe7b77200c4bcd9df345c49a27764926bc2a9e1c58d23c5b86"), looks := true }, kinds := [], alts := [], laidByText := true, laidKinds := [.data, .data, .data], laidTests := true, laidLooks := .later }
def MemoryTextsMatchSpecCardSaid : Prop := Claim7.holds Tryd.pinned (.plain (OpenSpec.ofChange memoryTextsMatchSpecSpec)) memoryTextsMatchSpecCard

/-- THE TIED CARD OF 'perigeelaw3.MemoryReadsMatchSpec'. -/
def memoryReadsMatchSpecCard : Claim7 := { stood := { row := memoryReadsMatchSpecRow, standIns := [], harness := (true, "70f66e0a9f0668fe7b77200c4bcd9df345c49a27764926bc2a9e1c58d23c5b86"), looks := true }, kinds := [], alts := [], laidByText := true, laidKinds := [.data, .data, .data, .data, .sentinel, .sentinel, .pinned], laidTests := true, laidLooks := .later }
def MemoryReadsMatchSpecCardSaid : Prop := Claim7.holds Tryd.pinned (.plain (OpenSpec.ofChange memoryReadsMatchSpecSpec)) memoryReadsMatchSpecCard

/-- THE SECOND FORM's CARD OF 'perigeelaw2.DatesMatchSpec'. -/
def datesMatchSpecUptoCard : Claim7 := { stood := { row := datesMatchSpecUptoRow, standIns := [], harness := (true, "70f66e0a9f0668fe7b77200c4bcd9df345c49a27764926bc2a9e1c58d23c5b86"), looks := true }, kinds := [], alts := [], laidByText := true, laidKinds := [.data, .data, .data], laidTests := true, laidLooks := .later }
def DatesMatchSpecUptoCardSaid : Prop := Claim7.holds Tryd.pinned (.plain (OpenSpec.upto datesMatchSpecSpec)) datesMatchSpecUptoCard

/-- THE SECOND FORM's CARD OF 'perigeelaw2.DatesComeBack'. -/
def datesComeBackUptoCard : Claim7 := { stood := { row := datesComeBackUptoRow, standIns := [], harness := (true, "70f66e0a9f0668fe7b77200c4bcd9df345c49a27764926bc2a9e1c58d23c5b86"), looks := true }, kinds := [], alts := [], laidByText := true, laidKinds := [.data, .data, .data], laidTests := true, laidLooks := .later }
def DatesComeBackUptoCardSaid : Prop := Claim7.holds Tryd.pinned (.plain (OpenSpec.upto datesComeBackSpec)) datesComeBackUptoCard

/-- THE SECOND FORM's CARD OF 'perigeelaw2.MarksTextsComeBack'. -/
def marksTextsComeBackUptoCard : Claim7 := { stood := { row := marksTextsComeBackUptoRow, standIns := [], harness := (true, "70f66e0a9f0668fe7b77200c4bcd9df345c49a27764926bc2a9e1c58d23c5b86"), looks := true }, kinds := [], alts := [], laidByText := true, laidKinds := [.data, .data, .data, .data, .pinned], laidTests := true, laidLooks := .later }
def MarksTextsComeBackUptoCardSaid : Prop := Claim7.holds Tryd.pinned (.plain (OpenSpec.upto marksTextsComeBackSpec)) marksTextsComeBackUptoCard

/-- THE SECOND FORM's CARD OF 'perigeelaw2.MarksTextsMatchSpec'. -/
def marksTextsMatchSpecUptoCard : Claim7 := { stood := { row := marksTextsMatchSpecUptoRow, standIns := [], harness := (true, "70f66e0a9f0668fe7b77200c4bcd9df345c49a27764926bc2a9e1c58d23c5b86"), looks := true }, kinds := [], alts := [], laidByText := true, laidKinds := [.data, .data, .data, .data, .pinned], laidTests := true, laidLooks := .later }
def MarksTextsMatchSpecUptoCardSaid : Prop := Claim7.holds Tryd.pinned (.plain (OpenSpec.upto marksTextsMatchSpecSpec)) marksTextsMatchSpecUptoCard

/-- THE SECOND FORM's CARD OF 'perigeelaw3.MemoryTextsMatchSpec'. -/
def memoryTextsMatchSpecUptoCard : Claim7 := { stood := { row := memoryTextsMatchSpecUptoRow, standIns := [], harness := (true, "70f66e0a9f0668fe7b77200c4bcd9df345c49a27764926bc2a9e1c58d23c5b86"), looks := true }, kinds := [], alts := [], laidByText := true, laidKinds := [.data, .data, .data], laidTests := true, laidLooks := .later }
def MemoryTextsMatchSpecUptoCardSaid : Prop := Claim7.holds Tryd.pinned (.plain (OpenSpec.upto memoryTextsMatchSpecSpec)) memoryTextsMatchSpecUptoCard

/-- THE SECOND FORM's CARD OF 'perigeelaw3.MemoryReadsMatchSpec'. -/
def memoryReadsMatchSpecUptoCard : Claim7 := { stood := { row := memoryReadsMatchSpecUptoRow, standIns := [], harness := (true, "70f66e0a9f0668fe7b77200c4bcd9df345c49a27764926bc2a9e1c58d23c5b86"), looks := true }, kinds := [], alts := [], laidByText := true, laidKinds := [.data, .data, .data, .data, .sentinel, .sentinel, .pinned], laidTests := true, laidLooks := .later }
def MemoryReadsMatchSpecUptoCardSaid : Prop := Claim7.holds Tryd.pinned (.plain (OpenSpec.upto memoryReadsMatchSpecSpec)) memoryReadsMatchSpecUptoCard
end Rows
end Go.Proofs.YtjldiihndmkpfaaDoor
