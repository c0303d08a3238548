/-
  No cell of these rows narrows 'for every input' (looked for: loops, veiled, ifaces, maps, wideKeys, modest, calm, conditions, laid).
  DERIVED. THE GIVEN ROWS OF THIS SEAT. 8 by the template 'for every input the law returns true; each argument reads behind the call as it read before'; 0 by the template 'total and deterministic' (their statements: YtionejclfbdlmaaTotals.lean).
  GIVEN WITH THE SEED: the statements are not yours to turn. If you find one false, say at which input.
  Laid BY PROGRAM, IN A SANDBOX (cutbox-rows.mjs): the forced cells as the released guide's own fill.sh prints them over the translation 7dce839304f463ac… (all of the seat's roots in one cut). By AI agents, Wed Nov 11 2026. No macro, syntax, notation, axiom, sorry.
-/
import Derived.Test.YtionejclfbdlmaaChecked
import GoSem.Claim
import GoSem.ClaimJoined
import GoSem.ClaimMapViews
import Derived.JoinedTies
import Derived.KernelRfl
namespace Go.Proofs.Ytionejclfbdlmaa
/- THE CELL 'sum', in the pinned program and in every row, IS THE sha256 OF THE DUMP (.gsa) THAT YtionejclfbdlmaaProg.lean LOADS. Nothing in Lean hashes anything: it is a label: what it is worth is what the hold of that sum in a sandbox is worth. -/
noncomputable def Try.pinned : Pinned := { name := "ytionejclfbdlmaa", sum := "7dce839304f463ac422387f36edb56b3a82ce025469a3aba525c4a3e77d8a6aa", checked := Try.checked }
namespace Rows
def none {H : Type} : Left H := { results := [], args := [] }

/-- 'perigeetop.TopReadingsHaveTimes': WHATEVER THE INPUT: true; the input reads as it did. -/
def topReadingsHaveTimesSpec : ChangeSpec := { name := "topReadingsHaveTimes", fn := fun _ => fun
  | [d1, d2, d3] => { results := [.lit (.bool true)], args := [d1, d2, d3] }
  | _ => none }
def topReadingsHaveTimesRow : OpenClaim := { program := "ytionejclfbdlmaa", sum := "7dce839304f463ac422387f36edb56b3a82ce025469a3aba525c4a3e77d8a6aa", func := "perigee/perigeetop.TopReadingsHaveTimes", spec := "topReadingsHaveTimes", unfollowed := true, recurses := true, named := ["math/bits.divideError", "math/bits.overflowError"], apart := false }
def TopReadingsHaveTimesSaid : Prop := topReadingsHaveTimesRow.holds Try.pinned (OpenSpec.ofChange topReadingsHaveTimesSpec)

/-- ITS FALSE NEIGHBOUR: 'it returns false'. Refute it at one input. -/
def topReadingsHaveTimesWrong : ChangeSpec := { name := "topReadingsHaveTimes", fn := fun _ => fun
  | [d1, d2, d3] => { results := [.lit (.bool false)], args := [d1, d2, d3] }
  | _ => none }
def TopReadingsHaveTimesWrongFalsely : Prop := topReadingsHaveTimesRow.holds Try.pinned (OpenSpec.ofChange topReadingsHaveTimesWrong)

/-- 'perigeelaw2.MarksTimesNeverFall': WHATEVER THE INPUT: true; the input reads as it did. -/
def marksTimesNeverFallSpec : ChangeSpec := { name := "marksTimesNeverFall", fn := fun _ => fun
  | [d1, d2, d3, d4] => { results := [.lit (.bool true)], args := [d1, d2, d3, d4] }
  | _ => none }
def marksTimesNeverFallRow : OpenClaim := { program := "ytionejclfbdlmaa", sum := "7dce839304f463ac422387f36edb56b3a82ce025469a3aba525c4a3e77d8a6aa", func := "perigee/perigeelaw2.MarksTimesNeverFall", spec := "marksTimesNeverFall", unfollowed := true, recurses := true, named := ["math/bits.divideError", "math/bits.overflowError"], apart := false }
def MarksTimesNeverFallSaid : Prop := marksTimesNeverFallRow.holds Try.pinned (OpenSpec.ofChange marksTimesNeverFallSpec)

/-- ITS FALSE NEIGHBOUR: 'it returns false'. Refute it at one input. -/
def marksTimesNeverFallWrong : ChangeSpec := { name := "marksTimesNeverFall", fn := fun _ => fun
  | [d1, d2, d3, d4] => { results := [.lit (.bool false)], args := [d1, d2, d3, d4] }
  | _ => none }
def MarksTimesNeverFallWrongFalsely : Prop := marksTimesNeverFallRow.holds Try.pinned (OpenSpec.ofChange marksTimesNeverFallWrong)

/-- 'perigeelaw2.MarksTicksAreLeast': WHATEVER THE INPUT: true; the input reads as it did. -/
def marksTicksAreLeastSpec : ChangeSpec := { name := "marksTicksAreLeast", fn := fun _ => fun
  | [d1, d2] => { results := [.lit (.bool true)], args := [d1, d2] }
  | _ => none }
def marksTicksAreLeastRow : OpenClaim := { program := "ytionejclfbdlmaa", sum := "7dce839304f463ac422387f36edb56b3a82ce025469a3aba525c4a3e77d8a6aa", func := "perigee/perigeelaw2.MarksTicksAreLeast", spec := "marksTicksAreLeast", unfollowed := true, recurses := true, named := ["math/bits.divideError", "math/bits.overflowError"], apart := false }
def MarksTicksAreLeastSaid : Prop := marksTicksAreLeastRow.holds Try.pinned (OpenSpec.ofChange marksTicksAreLeastSpec)

/-- ITS FALSE NEIGHBOUR: 'it returns false'. Refute it at one input. -/
def marksTicksAreLeastWrong : ChangeSpec := { name := "marksTicksAreLeast", fn := fun _ => fun
  | [d1, d2] => { results := [.lit (.bool false)], args := [d1, d2] }
  | _ => none }
def MarksTicksAreLeastWrongFalsely : Prop := marksTicksAreLeastRow.holds Try.pinned (OpenSpec.ofChange marksTicksAreLeastWrong)

/-- 'perigeelaw2.MarksTicksComeBack': WHATEVER THE INPUT: true; the input reads as it did. -/
def marksTicksComeBackSpec : ChangeSpec := { name := "marksTicksComeBack", fn := fun _ => fun
  | [d1, d2] => { results := [.lit (.bool true)], args := [d1, d2] }
  | _ => none }
def marksTicksComeBackRow : OpenClaim := { program := "ytionejclfbdlmaa", sum := "7dce839304f463ac422387f36edb56b3a82ce025469a3aba525c4a3e77d8a6aa", func := "perigee/perigeelaw2.MarksTicksComeBack", spec := "marksTicksComeBack", unfollowed := true, recurses := true, named := ["math/bits.divideError", "math/bits.overflowError"], apart := false }
def MarksTicksComeBackSaid : Prop := marksTicksComeBackRow.holds Try.pinned (OpenSpec.ofChange marksTicksComeBackSpec)

/-- ITS FALSE NEIGHBOUR: 'it returns false'. Refute it at one input. -/
def marksTicksComeBackWrong : ChangeSpec := { name := "marksTicksComeBack", fn := fun _ => fun
  | [d1, d2] => { results := [.lit (.bool false)], args := [d1, d2] }
  | _ => none }
def MarksTicksComeBackWrongFalsely : Prop := marksTicksComeBackRow.holds Try.pinned (OpenSpec.ofChange marksTicksComeBackWrong)

/-- 'perigeelaw2.MarksMatchSpec': WHATEVER THE INPUT: true; the input reads as it did. -/
def marksMatchSpecSpec : ChangeSpec := { name := "marksMatchSpec", fn := fun _ => fun
  | [d1, d2, d3] => { results := [.lit (.bool true)], args := [d1, d2, d3] }
  | _ => none }
def marksMatchSpecRow : OpenClaim := { program := "ytionejclfbdlmaa", sum := "7dce839304f463ac422387f36edb56b3a82ce025469a3aba525c4a3e77d8a6aa", func := "perigee/perigeelaw2.MarksMatchSpec", spec := "marksMatchSpec", unfollowed := true, recurses := true, named := ["math/bits.divideError", "math/bits.overflowError"], apart := false }
def MarksMatchSpecSaid : Prop := marksMatchSpecRow.holds Try.pinned (OpenSpec.ofChange marksMatchSpecSpec)

/-- ITS FALSE NEIGHBOUR: 'it returns false'. Refute it at one input. -/
def marksMatchSpecWrong : ChangeSpec := { name := "marksMatchSpec", fn := fun _ => fun
  | [d1, d2, d3] => { results := [.lit (.bool false)], args := [d1, d2, d3] }
  | _ => none }
def MarksMatchSpecWrongFalsely : Prop := marksMatchSpecRow.holds Try.pinned (OpenSpec.ofChange marksMatchSpecWrong)

/-- 'perigeelaw2.MarksMergeEven': WHATEVER THE INPUT: true; the input reads as it did. -/
def marksMergeEvenSpec : ChangeSpec := { name := "marksMergeEven", fn := fun _ => fun
  | [d1, d2] => { results := [.lit (.bool true)], args := [d1, d2] }
  | _ => none }
def marksMergeEvenRow : OpenClaim := { program := "ytionejclfbdlmaa", sum := "7dce839304f463ac422387f36edb56b3a82ce025469a3aba525c4a3e77d8a6aa", func := "perigee/perigeelaw2.MarksMergeEven", spec := "marksMergeEven", unfollowed := true, recurses := true, apart := false }
def MarksMergeEvenSaid : Prop := marksMergeEvenRow.holds Try.pinned (OpenSpec.ofChange marksMergeEvenSpec)

/-- ITS FALSE NEIGHBOUR: 'it returns false'. Refute it at one input. -/
def marksMergeEvenWrong : ChangeSpec := { name := "marksMergeEven", fn := fun _ => fun
  | [d1, d2] => { results := [.lit (.bool false)], args := [d1, d2] }
  | _ => none }
def MarksMergeEvenWrongFalsely : Prop := marksMergeEvenRow.holds Try.pinned (OpenSpec.ofChange marksMergeEvenWrong)

/-- 'perigeelaw2.MarksThinStayNear': WHATEVER THE INPUT: true; the input reads as it did. -/
def marksThinStayNearSpec : ChangeSpec := { name := "marksThinStayNear", fn := fun _ => fun
  | [d1, d2, d3] => { results := [.lit (.bool true)], args := [d1, d2, d3] }
  | _ => none }
def marksThinStayNearRow : OpenClaim := { program := "ytionejclfbdlmaa", sum := "7dce839304f463ac422387f36edb56b3a82ce025469a3aba525c4a3e77d8a6aa", func := "perigee/perigeelaw2.MarksThinStayNear", spec := "marksThinStayNear", unfollowed := true, recurses := true, named := ["math/bits.divideError", "math/bits.overflowError"], apart := false }
def MarksThinStayNearSaid : Prop := marksThinStayNearRow.holds Try.pinned (OpenSpec.ofChange marksThinStayNearSpec)

/-- ITS FALSE NEIGHBOUR: 'it returns false'. Refute it at one input. -/
def marksThinStayNearWrong : ChangeSpec := { name := "marksThinStayNear", fn := fun _ => fun
  | [d1, d2, d3] => { results := [.lit (.bool false)], args := [d1, d2, d3] }
  | _ => none }
def MarksThinStayNearWrongFalsely : Prop := marksThinStayNearRow.holds Try.pinned (OpenSpec.ofChange marksThinStayNearWrong)

/-- 'perigeelaw2.MarksMergeMatchSpec': WHATEVER THE INPUT: true; the input reads as it did. -/
def marksMergeMatchSpecSpec : ChangeSpec := { name := "marksMergeMatchSpec", fn := fun _ => fun
  | [d1, d2, d3] => { results := [.lit (.bool true)], args := [d1, d2, d3] }
  | _ => none }
def marksMergeMatchSpecRow : OpenClaim := { program := "ytionejclfbdlmaa", sum := "7dce839304f463ac422387f36edb56b3a82ce025469a3aba525c4a3e77d8a6aa", func := "perigee/perigeelaw2.MarksMergeMatchSpec", spec := "marksMergeMatchSpec", unfollowed := true, recurses := true, named := ["math/bits.divideError", "math/bits.overflowError"], apart := false }
def MarksMergeMatchSpecSaid : Prop := marksMergeMatchSpecRow.holds Try.pinned (OpenSpec.ofChange marksMergeMatchSpecSpec)

/-- ITS FALSE NEIGHBOUR: 'it returns false'. Refute it at one input. -/
def marksMergeMatchSpecWrong : ChangeSpec := { name := "marksMergeMatchSpec", fn := fun _ => fun
  | [d1, d2, d3] => { results := [.lit (.bool false)], args := [d1, d2, d3] }
  | _ => none }
def MarksMergeMatchSpecWrongFalsely : Prop := marksMergeMatchSpecRow.holds Try.pinned (OpenSpec.ofChange marksMergeMatchSpecWrong)

/- THE SECOND FORM. 'bulk': how many values and letters a reading holds, each counted each time it is reached (what is shared counts as often as it is met; a slice's spare places count too). A statement '..UptoSaid' is the law's where the arguments, and the package variables that the reading takes, are together of bulk at most 1048576: NARROWER than '..Said'. Prove '..Said' where nothing that the law and all that it calls make is longer than what came in: it says more and counts as full. Else prove '..UptoSaid'. A law counts once. -/
mutual
def uptoBulk {H : Type} : DataW H → Nat
  | .lit (.string bytes) => bytes.length + 1
  | .lit _ => 1
  | .nil => 1
  | .ptr d => uptoBulk d + 1
  | .slice elems spare => uptoBulkAll elems + uptoBulkAll spare + 1
  | .agg parts => uptoBulkAll parts + 1
  | .iface _ d => uptoBulk d + 1
  | .map entries => uptoBulkEntries entries + 1
  | .held _ => 1
def uptoBulkAll {H : Type} : List (DataW H) → Nat
  | [] => 0
  | d :: r => uptoBulk d + uptoBulkAll r
def uptoBulkEntries {H : Type} : List (Lit × DataW H) → Nat
  | [] => 0
  | x :: r => uptoBulkEntry x + uptoBulkEntries r
def uptoBulkEntry {H : Type} : Lit × DataW H → Nat
  | (.string bytes, d) => bytes.length + uptoBulk d + 1
  | (_, d) => uptoBulk d + 1
 end
def uptoSmall : (H : Type) → List (DataW H) → Bool := fun _ ds => decide (uptoBulkAll ds ≤ 1048576)
def OpenSpec.upto (s : _root_.Go.ChangeSpec) : _root_.Go.OpenSpec := { _root_.Go.OpenSpec.ofChange s with cond := some uptoSmall }

/-- 'perigeetop.TopReadingsHaveTimes', WHERE WHAT IT READS IS OF BULK AT MOST 1048576: true; the input reads as it did. -/
def topReadingsHaveTimesUptoRow : OpenClaim := { program := "ytionejclfbdlmaa", sum := "7dce839304f463ac422387f36edb56b3a82ce025469a3aba525c4a3e77d8a6aa", func := "perigee/perigeetop.TopReadingsHaveTimes", spec := "topReadingsHaveTimes", unfollowed := true, recurses := true, named := ["math/bits.divideError", "math/bits.overflowError"], apart := false, narrowed := true }
def TopReadingsHaveTimesUptoSaid : Prop := topReadingsHaveTimesUptoRow.holds Try.pinned (OpenSpec.upto topReadingsHaveTimesSpec)

/-- 'perigeelaw2.MarksTimesNeverFall', WHERE WHAT IT READS IS OF BULK AT MOST 1048576: true; the input reads as it did. -/
def marksTimesNeverFallUptoRow : OpenClaim := { program := "ytionejclfbdlmaa", sum := "7dce839304f463ac422387f36edb56b3a82ce025469a3aba525c4a3e77d8a6aa", func := "perigee/perigeelaw2.MarksTimesNeverFall", spec := "marksTimesNeverFall", unfollowed := true, recurses := true, named := ["math/bits.divideError", "math/bits.overflowError"], apart := false, narrowed := true }
def MarksTimesNeverFallUptoSaid : Prop := marksTimesNeverFallUptoRow.holds Try.pinned (OpenSpec.upto marksTimesNeverFallSpec)

/-- 'perigeelaw2.MarksTicksAreLeast', WHERE WHAT IT READS IS OF BULK AT MOST 1048576: true; the input reads as it did. -/
def marksTicksAreLeastUptoRow : OpenClaim := { program := "ytionejclfbdlmaa", sum := "7dce839304f463ac422387f36edb56b3a82ce025469a3aba525c4a3e77d8a6aa", func := "perigee/perigeelaw2.MarksTicksAreLeast", spec := "marksTicksAreLeast", unfollowed := true, recurses := true, named := ["math/bits.divideError", "math/bits.overflowError"], apart := false, narrowed := true }
def MarksTicksAreLeastUptoSaid : Prop := marksTicksAreLeastUptoRow.holds Try.pinned (OpenSpec.upto marksTicksAreLeastSpec)

/-- 'perigeelaw2.MarksTicksComeBack', WHERE WHAT IT READS IS OF BULK AT MOST 1048576: true; the input reads as it did. -/
def marksTicksComeBackUptoRow : OpenClaim := { program := "ytionejclfbdlmaa", sum := "7dce839304f463ac422387f36edb56b3a82ce025469a3aba525c4a3e77d8a6aa", func := "perigee/perigeelaw2.MarksTicksComeBack", spec := "marksTicksComeBack", unfollowed := true, recurses := true, named := ["math/bits.divideError", "math/bits.overflowError"], apart := false, narrowed := true }
def MarksTicksComeBackUptoSaid : Prop := marksTicksComeBackUptoRow.holds Try.pinned (OpenSpec.upto marksTicksComeBackSpec)

/-- 'perigeelaw2.MarksMatchSpec', WHERE WHAT IT READS IS OF BULK AT MOST 1048576: true; the input reads as it did. -/
def marksMatchSpecUptoRow : OpenClaim := { program := "ytionejclfbdlmaa", sum := "7dce839304f463ac422387f36edb56b3a82ce025469a3aba525c4a3e77d8a6aa", func := "perigee/perigeelaw2.MarksMatchSpec", spec := "marksMatchSpec", unfollowed := true, recurses := true, named := ["math/bits.divideError", "math/bits.overflowError"], apart := false, narrowed := true }
def MarksMatchSpecUptoSaid : Prop := marksMatchSpecUptoRow.holds Try.pinned (OpenSpec.upto marksMatchSpecSpec)

/-- 'perigeelaw2.MarksMergeEven', WHERE WHAT IT READS IS OF BULK AT MOST 1048576: true; the input reads as it did. -/
def marksMergeEvenUptoRow : OpenClaim := { program := "ytionejclfbdlmaa", sum := "7dce839304f463ac422387f36edb56b3a82ce025469a3aba525c4a3e77d8a6aa", func := "perigee/perigeelaw2.MarksMergeEven", spec := "marksMergeEven", unfollowed := true, recurses := true, apart := false, narrowed := true }
def MarksMergeEvenUptoSaid : Prop := marksMergeEvenUptoRow.holds Try.pinned (OpenSpec.upto marksMergeEvenSpec)

/-- 'perigeelaw2.MarksThinStayNear', WHERE WHAT IT READS IS OF BULK AT MOST 1048576: true; the input reads as it did. -/
def marksThinStayNearUptoRow : OpenClaim := { program := "ytionejclfbdlmaa", sum := "7dce839304f463ac422387f36edb56b3a82ce025469a3aba525c4a3e77d8a6aa", func := "perigee/perigeelaw2.MarksThinStayNear", spec := "marksThinStayNear", unfollowed := true, recurses := true, named := ["math/bits.divideError", "math/bits.overflowError"], apart := false, narrowed := true }
def MarksThinStayNearUptoSaid : Prop := marksThinStayNearUptoRow.holds Try.pinned (OpenSpec.upto marksThinStayNearSpec)

/-- 'perigeelaw2.MarksMergeMatchSpec', WHERE WHAT IT READS IS OF BULK AT MOST 1048576: true; the input reads as it did. -/
def marksMergeMatchSpecUptoRow : OpenClaim := { program := "ytionejclfbdlmaa", sum := "7dce839304f463ac422387f36edb56b3a82ce025469a3aba525c4a3e77d8a6aa", func := "perigee/perigeelaw2.MarksMergeMatchSpec", spec := "marksMergeMatchSpec", unfollowed := true, recurses := true, named := ["math/bits.divideError", "math/bits.overflowError"], apart := false, narrowed := true }
def MarksMergeMatchSpecUptoSaid : Prop := marksMergeMatchSpecUptoRow.holds Try.pinned (OpenSpec.upto marksMergeMatchSpecSpec)

end Rows
end Go.Proofs.Ytionejclfbdlmaa
