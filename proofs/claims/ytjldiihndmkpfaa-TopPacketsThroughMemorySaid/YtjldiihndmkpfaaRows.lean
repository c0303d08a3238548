/-
  No cell of these rows narrows 'for every input' (looked for: loops, veiled, ifaces, maps, wideKeys, modest, calm, conditions, laid).
  DERIVED. THE GIVEN ROWS OF THIS SEAT. 13 by the template 'for every input the law returns true; each argument reads behind the call as it read before'; 0 by the template 'total and deterministic' (their statements: YtjldiihndmkpfaaTotals.lean).
  GIVEN WITH THE SEED: the statements are not yours to turn. If you find one false, say at which input.
  Laid BY PROGRAM, IN A SANDBOX (cutbox-rows.mjs): the forced cells as the released guide's own fill.sh prints them over the translation e12bf2414d6258d9… (all of the seat's roots in one cut). By AI agents, Wed Nov 11 2026. No macro, syntax, notation, axiom, sorry.
-/
import Derived.Test.YtjldiihndmkpfaaChecked
import GoSem.Claim
import GoSem.ClaimJoined
import GoSem.ClaimMapViews
import Derived.JoinedTies
import Derived.KernelRfl
namespace Go.Proofs.Ytjldiihndmkpfaa
/- THE CELL 'sum', in the pinned program and in every row, IS THE sha256 OF THE DUMP (.gsa) THAT YtjldiihndmkpfaaProg.lean LOADS. Nothing in Lean hashes anything: it is a label: what it is worth is what the hold of that sum in a sandbox is worth. -/
noncomputable def Try.pinned : Pinned := { name := "ytjldiihndmkpfaa", sum := "e12bf2414d6258d9fb1049a0fddaf4a5eba02ebf17d9916d41aa5355b822af7f", checked := Try.checked }
namespace Rows
def none {H : Type} : Left H := { results := [], args := [] }

/-- 'perigeelaw2.ClocksHaveRightTimes': WHATEVER THE INPUT: true; the input reads as it did. -/
def clocksHaveRightTimesSpec : ChangeSpec := { name := "clocksHaveRightTimes", fn := fun _ => fun
  | [d1, d2, d3, d4, d5, d6] => { results := [.lit (.bool true)], args := [d1, d2, d3, d4, d5, d6] }
  | _ => none }
def clocksHaveRightTimesRow : OpenClaim := { program := "ytjldiihndmkpfaa", sum := "e12bf2414d6258d9fb1049a0fddaf4a5eba02ebf17d9916d41aa5355b822af7f", func := "perigee/perigeelaw2.ClocksHaveRightTimes", spec := "clocksHaveRightTimes", unfollowed := true, recurses := true, apart := false }
def ClocksHaveRightTimesSaid : Prop := clocksHaveRightTimesRow.holds Try.pinned (OpenSpec.ofChange clocksHaveRightTimesSpec)

/-- ITS FALSE NEIGHBOUR: 'it returns false'. Refute it at one input. -/
def clocksHaveRightTimesWrong : ChangeSpec := { name := "clocksHaveRightTimes", fn := fun _ => fun
  | [d1, d2, d3, d4, d5, d6] => { results := [.lit (.bool false)], args := [d1, d2, d3, d4, d5, d6] }
  | _ => none }
def ClocksHaveRightTimesWrongFalsely : Prop := clocksHaveRightTimesRow.holds Try.pinned (OpenSpec.ofChange clocksHaveRightTimesWrong)

/-- 'perigeelaw2.ClocksMatchSpec': WHATEVER THE INPUT: true; the input reads as it did. -/
def clocksMatchSpecSpec : ChangeSpec := { name := "clocksMatchSpec", fn := fun _ => fun
  | [d1, d2, d3] => { results := [.lit (.bool true)], args := [d1, d2, d3] }
  | _ => none }
def clocksMatchSpecRow : OpenClaim := { program := "ytjldiihndmkpfaa", sum := "e12bf2414d6258d9fb1049a0fddaf4a5eba02ebf17d9916d41aa5355b822af7f", func := "perigee/perigeelaw2.ClocksMatchSpec", spec := "clocksMatchSpec", unfollowed := true, recurses := true, apart := false }
def ClocksMatchSpecSaid : Prop := clocksMatchSpecRow.holds Try.pinned (OpenSpec.ofChange clocksMatchSpecSpec)

/-- ITS FALSE NEIGHBOUR: 'it returns false'. Refute it at one input. -/
def clocksMatchSpecWrong : ChangeSpec := { name := "clocksMatchSpec", fn := fun _ => fun
  | [d1, d2, d3] => { results := [.lit (.bool false)], args := [d1, d2, d3] }
  | _ => none }
def ClocksMatchSpecWrongFalsely : Prop := clocksMatchSpecRow.holds Try.pinned (OpenSpec.ofChange clocksMatchSpecWrong)

/-- 'perigeelaw2.MarksMatchSpec': WHATEVER THE INPUT: true; the input reads as it did. -/
def marksMatchSpecSpec : ChangeSpec := { name := "marksMatchSpec", fn := fun _ => fun
  | [d1, d2, d3] => { results := [.lit (.bool true)], args := [d1, d2, d3] }
  | _ => none }
def marksMatchSpecRow : OpenClaim := { program := "ytjldiihndmkpfaa", sum := "e12bf2414d6258d9fb1049a0fddaf4a5eba02ebf17d9916d41aa5355b822af7f", func := "perigee/perigeelaw2.MarksMatchSpec", spec := "marksMatchSpec", unfollowed := true, recurses := true, named := ["math/bits.divideError", "math/bits.overflowError"], apart := false }
def MarksMatchSpecSaid : Prop := marksMatchSpecRow.holds Try.pinned (OpenSpec.ofChange marksMatchSpecSpec)

/-- ITS FALSE NEIGHBOUR: 'it returns false'. Refute it at one input. -/
def marksMatchSpecWrong : ChangeSpec := { name := "marksMatchSpec", fn := fun _ => fun
  | [d1, d2, d3] => { results := [.lit (.bool false)], args := [d1, d2, d3] }
  | _ => none }
def MarksMatchSpecWrongFalsely : Prop := marksMatchSpecRow.holds Try.pinned (OpenSpec.ofChange marksMatchSpecWrong)

/-- 'perigeelaw2.MarksMergeEven': WHATEVER THE INPUT: true; the input reads as it did. -/
def marksMergeEvenSpec : ChangeSpec := { name := "marksMergeEven", fn := fun _ => fun
  | [d1, d2] => { results := [.lit (.bool true)], args := [d1, d2] }
  | _ => none }
def marksMergeEvenRow : OpenClaim := { program := "ytjldiihndmkpfaa", sum := "e12bf2414d6258d9fb1049a0fddaf4a5eba02ebf17d9916d41aa5355b822af7f", func := "perigee/perigeelaw2.MarksMergeEven", spec := "marksMergeEven", unfollowed := true, recurses := true, apart := false }
def MarksMergeEvenSaid : Prop := marksMergeEvenRow.holds Try.pinned (OpenSpec.ofChange marksMergeEvenSpec)

/-- ITS FALSE NEIGHBOUR: 'it returns false'. Refute it at one input. -/
def marksMergeEvenWrong : ChangeSpec := { name := "marksMergeEven", fn := fun _ => fun
  | [d1, d2] => { results := [.lit (.bool false)], args := [d1, d2] }
  | _ => none }
def MarksMergeEvenWrongFalsely : Prop := marksMergeEvenRow.holds Try.pinned (OpenSpec.ofChange marksMergeEvenWrong)

/-- 'perigeelaw2.MarksThinStayNear': WHATEVER THE INPUT: true; the input reads as it did. -/
def marksThinStayNearSpec : ChangeSpec := { name := "marksThinStayNear", fn := fun _ => fun
  | [d1, d2, d3] => { results := [.lit (.bool true)], args := [d1, d2, d3] }
  | _ => none }
def marksThinStayNearRow : OpenClaim := { program := "ytjldiihndmkpfaa", sum := "e12bf2414d6258d9fb1049a0fddaf4a5eba02ebf17d9916d41aa5355b822af7f", func := "perigee/perigeelaw2.MarksThinStayNear", spec := "marksThinStayNear", unfollowed := true, recurses := true, named := ["math/bits.divideError", "math/bits.overflowError"], apart := false }
def MarksThinStayNearSaid : Prop := marksThinStayNearRow.holds Try.pinned (OpenSpec.ofChange marksThinStayNearSpec)

/-- ITS FALSE NEIGHBOUR: 'it returns false'. Refute it at one input. -/
def marksThinStayNearWrong : ChangeSpec := { name := "marksThinStayNear", fn := fun _ => fun
  | [d1, d2, d3] => { results := [.lit (.bool false)], args := [d1, d2, d3] }
  | _ => none }
def MarksThinStayNearWrongFalsely : Prop := marksThinStayNearRow.holds Try.pinned (OpenSpec.ofChange marksThinStayNearWrong)

/-- 'perigeelaw2.MarksMergeMatchSpec': WHATEVER THE INPUT: true; the input reads as it did. -/
def marksMergeMatchSpecSpec : ChangeSpec := { name := "marksMergeMatchSpec", fn := fun _ => fun
  | [d1, d2, d3] => { results := [.lit (.bool true)], args := [d1, d2, d3] }
  | _ => none }
def marksMergeMatchSpecRow : OpenClaim := { program := "ytjldiihndmkpfaa", sum := "e12bf2414d6258d9fb1049a0fddaf4a5eba02ebf17d9916d41aa5355b822af7f", func := "perigee/perigeelaw2.MarksMergeMatchSpec", spec := "marksMergeMatchSpec", unfollowed := true, recurses := true, named := ["math/bits.divideError", "math/bits.overflowError"], apart := false }
def MarksMergeMatchSpecSaid : Prop := marksMergeMatchSpecRow.holds Try.pinned (OpenSpec.ofChange marksMergeMatchSpecSpec)

/-- ITS FALSE NEIGHBOUR: 'it returns false'. Refute it at one input. -/
def marksMergeMatchSpecWrong : ChangeSpec := { name := "marksMergeMatchSpec", fn := fun _ => fun
  | [d1, d2, d3] => { results := [.lit (.bool false)], args := [d1, d2, d3] }
  | _ => none }
def MarksMergeMatchSpecWrongFalsely : Prop := marksMergeMatchSpecRow.holds Try.pinned (OpenSpec.ofChange marksMergeMatchSpecWrong)

/-- 'perigeelaw3.MemoryVotedMatchesSpec': WHATEVER THE INPUT: true; the input reads as it did. -/
def memoryVotedMatchesSpecSpec : ChangeSpec := { name := "memoryVotedMatchesSpec", fn := fun _ => fun
  | [d1, d2, d3] => { results := [.lit (.bool true)], args := [d1, d2, d3] }
  | _ => none }
def memoryVotedMatchesSpecRow : OpenClaim := { program := "ytjldiihndmkpfaa", sum := "e12bf2414d6258d9fb1049a0fddaf4a5eba02ebf17d9916d41aa5355b822af7f", func := "perigee/perigeelaw3.MemoryVotedMatchesSpec", spec := "memoryVotedMatchesSpec", apart := false }
def MemoryVotedMatchesSpecSaid : Prop := memoryVotedMatchesSpecRow.holds Try.pinned (OpenSpec.ofChange memoryVotedMatchesSpecSpec)

/-- ITS FALSE NEIGHBOUR: 'it returns false'. Refute it at one input. -/
def memoryVotedMatchesSpecWrong : ChangeSpec := { name := "memoryVotedMatchesSpec", fn := fun _ => fun
  | [d1, d2, d3] => { results := [.lit (.bool false)], args := [d1, d2, d3] }
  | _ => none }
def MemoryVotedMatchesSpecWrongFalsely : Prop := memoryVotedMatchesSpecRow.holds Try.pinned (OpenSpec.ofChange memoryVotedMatchesSpecWrong)

/-- 'perigeelaw3.MemoryRoundsMatchSpec': WHATEVER THE INPUT: true; the input reads as it did. -/
def memoryRoundsMatchSpecSpec : ChangeSpec := { name := "memoryRoundsMatchSpec", fn := fun _ => fun
  | [d1, d2, d3, d4] => { results := [.lit (.bool true)], args := [d1, d2, d3, d4] }
  | _ => none }
def memoryRoundsMatchSpecRow : OpenClaim := { program := "ytjldiihndmkpfaa", sum := "e12bf2414d6258d9fb1049a0fddaf4a5eba02ebf17d9916d41aa5355b822af7f", func := "perigee/perigeelaw3.MemoryRoundsMatchSpec", spec := "memoryRoundsMatchSpec", unfollowed := true, recurses := true, apart := false }
def MemoryRoundsMatchSpecSaid : Prop := memoryRoundsMatchSpecRow.holds Try.pinned (OpenSpec.ofChange memoryRoundsMatchSpecSpec)

/-- ITS FALSE NEIGHBOUR: 'it returns false'. Refute it at one input. -/
def memoryRoundsMatchSpecWrong : ChangeSpec := { name := "memoryRoundsMatchSpec", fn := fun _ => fun
  | [d1, d2, d3, d4] => { results := [.lit (.bool false)], args := [d1, d2, d3, d4] }
  | _ => none }
def MemoryRoundsMatchSpecWrongFalsely : Prop := memoryRoundsMatchSpecRow.holds Try.pinned (OpenSpec.ofChange memoryRoundsMatchSpecWrong)

/-- 'perigeelaw3.MemorySlowestMatchesSpec': WHATEVER THE INPUT: true; the input reads as it did. -/
def memorySlowestMatchesSpecSpec : ChangeSpec := { name := "memorySlowestMatchesSpec", fn := fun _ => fun
  | [d1, d2, d3, d4, d5] => { results := [.lit (.bool true)], args := [d1, d2, d3, d4, d5] }
  | _ => none }
def memorySlowestMatchesSpecRow : OpenClaim := { program := "ytjldiihndmkpfaa", sum := "e12bf2414d6258d9fb1049a0fddaf4a5eba02ebf17d9916d41aa5355b822af7f", func := "perigee/perigeelaw3.MemorySlowestMatchesSpec", spec := "memorySlowestMatchesSpec", unfollowed := true, recurses := true, apart := false }
def MemorySlowestMatchesSpecSaid : Prop := memorySlowestMatchesSpecRow.holds Try.pinned (OpenSpec.ofChange memorySlowestMatchesSpecSpec)

/-- ITS FALSE NEIGHBOUR: 'it returns false'. Refute it at one input. -/
def memorySlowestMatchesSpecWrong : ChangeSpec := { name := "memorySlowestMatchesSpec", fn := fun _ => fun
  | [d1, d2, d3, d4, d5] => { results := [.lit (.bool false)], args := [d1, d2, d3, d4, d5] }
  | _ => none }
def MemorySlowestMatchesSpecWrongFalsely : Prop := memorySlowestMatchesSpecRow.holds Try.pinned (OpenSpec.ofChange memorySlowestMatchesSpecWrong)

/-- 'perigeelaw3.MemoryScrubbedInTimeKeepsAll': WHATEVER THE INPUT: true; the input reads as it did. -/
def memoryScrubbedInTimeKeepsAllSpec : ChangeSpec := { name := "memoryScrubbedInTimeKeepsAll", fn := fun _ => fun
  | [d1, d2, d3] => { results := [.lit (.bool true)], args := [d1, d2, d3] }
  | _ => none }
def memoryScrubbedInTimeKeepsAllRow : OpenClaim := { program := "ytjldiihndmkpfaa", sum := "e12bf2414d6258d9fb1049a0fddaf4a5eba02ebf17d9916d41aa5355b822af7f", func := "perigee/perigeelaw3.MemoryScrubbedInTimeKeepsAll", spec := "memoryScrubbedInTimeKeepsAll", unfollowed := true, recurses := true, apart := false }
def MemoryScrubbedInTimeKeepsAllSaid : Prop := memoryScrubbedInTimeKeepsAllRow.holds Try.pinned (OpenSpec.ofChange memoryScrubbedInTimeKeepsAllSpec)

/-- ITS FALSE NEIGHBOUR: 'it returns false'. Refute it at one input. -/
def memoryScrubbedInTimeKeepsAllWrong : ChangeSpec := { name := "memoryScrubbedInTimeKeepsAll", fn := fun _ => fun
  | [d1, d2, d3] => { results := [.lit (.bool false)], args := [d1, d2, d3] }
  | _ => none }
def MemoryScrubbedInTimeKeepsAllWrongFalsely : Prop := memoryScrubbedInTimeKeepsAllRow.holds Try.pinned (OpenSpec.ofChange memoryScrubbedInTimeKeepsAllWrong)

/-- 'perigeelaw3.MemoryLostMatchesSpec': WHATEVER THE INPUT: true; the input reads as it did. -/
def memoryLostMatchesSpecSpec : ChangeSpec := { name := "memoryLostMatchesSpec", fn := fun _ => fun
  | [d1, d2, d3, d4] => { results := [.lit (.bool true)], args := [d1, d2, d3, d4] }
  | _ => none }
def memoryLostMatchesSpecRow : OpenClaim := { program := "ytjldiihndmkpfaa", sum := "e12bf2414d6258d9fb1049a0fddaf4a5eba02ebf17d9916d41aa5355b822af7f", func := "perigee/perigeelaw3.MemoryLostMatchesSpec", spec := "memoryLostMatchesSpec", unfollowed := true, recurses := true, apart := false }
def MemoryLostMatchesSpecSaid : Prop := memoryLostMatchesSpecRow.holds Try.pinned (OpenSpec.ofChange memoryLostMatchesSpecSpec)

/-- ITS FALSE NEIGHBOUR: 'it returns false'. Refute it at one input. -/
def memoryLostMatchesSpecWrong : ChangeSpec := { name := "memoryLostMatchesSpec", fn := fun _ => fun
  | [d1, d2, d3, d4] => { results := [.lit (.bool false)], args := [d1, d2, d3, d4] }
  | _ => none }
def MemoryLostMatchesSpecWrongFalsely : Prop := memoryLostMatchesSpecRow.holds Try.pinned (OpenSpec.ofChange memoryLostMatchesSpecWrong)

/-- 'perigeelaw3.MemorySlowestIsSlowEnough': WHATEVER THE INPUT: true; the input reads as it did. -/
def memorySlowestIsSlowEnoughSpec : ChangeSpec := { name := "memorySlowestIsSlowEnough", fn := fun _ => fun
  | [d1, d2, d3, d4, d5] => { results := [.lit (.bool true)], args := [d1, d2, d3, d4, d5] }
  | _ => none }
def memorySlowestIsSlowEnoughRow : OpenClaim := { program := "ytjldiihndmkpfaa", sum := "e12bf2414d6258d9fb1049a0fddaf4a5eba02ebf17d9916d41aa5355b822af7f", func := "perigee/perigeelaw3.MemorySlowestIsSlowEnough", spec := "memorySlowestIsSlowEnough", unfollowed := true, recurses := true, apart := false }
def MemorySlowestIsSlowEnoughSaid : Prop := memorySlowestIsSlowEnoughRow.holds Try.pinned (OpenSpec.ofChange memorySlowestIsSlowEnoughSpec)

/-- ITS FALSE NEIGHBOUR: 'it returns false'. Refute it at one input. -/
def memorySlowestIsSlowEnoughWrong : ChangeSpec := { name := "memorySlowestIsSlowEnough", fn := fun _ => fun
  | [d1, d2, d3, d4, d5] => { results := [.lit (.bool false)], args := [d1, d2, d3, d4, d5] }
  | _ => none }
def MemorySlowestIsSlowEnoughWrongFalsely : Prop := memorySlowestIsSlowEnoughRow.holds Try.pinned (OpenSpec.ofChange memorySlowestIsSlowEnoughWrong)

/-- 'perigeetop.TopPacketsThroughMemory': WHATEVER THE INPUT: true; the input reads as it did. -/
def topPacketsThroughMemorySpec : ChangeSpec := { name := "topPacketsThroughMemory", fn := fun _ => fun
  | [d1, d2] => { results := [.lit (.bool true)], args := [d1, d2] }
  | _ => none }
def topPacketsThroughMemoryRow : OpenClaim := { program := "ytjldiihndmkpfaa", sum := "e12bf2414d6258d9fb1049a0fddaf4a5eba02ebf17d9916d41aa5355b822af7f", func := "perigee/perigeetop.TopPacketsThroughMemory", spec := "topPacketsThroughMemory", apart := false }
def TopPacketsThroughMemorySaid : Prop := topPacketsThroughMemoryRow.holds Try.pinned (OpenSpec.ofChange topPacketsThroughMemorySpec)

/-- ITS FALSE NEIGHBOUR: 'it returns false'. Refute it at one input. -/
def topPacketsThroughMemoryWrong : ChangeSpec := { name := "topPacketsThroughMemory", fn := fun _ => fun
  | [d1, d2] => { results := [.lit (.bool false)], args := [d1, d2] }
  | _ => none }
def TopPacketsThroughMemoryWrongFalsely : Prop := topPacketsThroughMemoryRow.holds Try.pinned (OpenSpec.ofChange topPacketsThroughMemoryWrong)

/- THE SECOND FORM. 'bulk': how many values and letters a reading holds, each counted each time it is reached (what is shared counts as often as it is met; a slice's spare places count too). A statement '..UptoSaid' is the law's where the arguments, and the package variables that the reading takes, are together of bulk at most 1048576: NARROWER than '..Said'. Prove '..Said' where nothing that the law and all that it calls make is longer than what came in: it says more and counts as full. Else prove '..UptoSaid'. A law counts once. -/
mutual
def uptoBulk {H : Type} : DataW H → Nat
  | .lit (.string bytes) => bytes.length + 1
  | .lit _ => 1
  | .nil => 1
  | .ptr d => uptoBulk d + 1
  | .slice elems spare => uptoBulkAll elems + uptoBulkAll spare + 1
  | .agg parts => uptoBulkAll parts + 1
  | .iface _ d => uptoBulk d + 1
  | .map entries => uptoBulkEntries entries + 1
  | .held _ => 1
def uptoBulkAll {H : Type} : List (DataW H) → Nat
  | [] => 0
  | d :: r => uptoBulk d + uptoBulkAll r
def uptoBulkEntries {H : Type} : List (Lit × DataW H) → Nat
  | [] => 0
  | x :: r => uptoBulkEntry x + uptoBulkEntries r
def uptoBulkEntry {H : Type} : Lit × DataW H → Nat
  | (.string bytes, d) => bytes.length + uptoBulk d + 1
  | (_, d) => uptoBulk d + 1
 end
def uptoSmall : (H : Type) → List (DataW H) → Bool := fun _ ds => decide (uptoBulkAll ds ≤ 1048576)
def OpenSpec.upto (s : _root_.Go.ChangeSpec) : _root_.Go.OpenSpec := { _root_.Go.OpenSpec.ofChange s with cond := some uptoSmall }

/-- 'perigeelaw2.ClocksHaveRightTimes', WHERE WHAT IT READS IS OF BULK AT MOST 1048576: true; the input reads as it did. -/
def clocksHaveRightTimesUptoRow : OpenClaim := { program := "ytjldiihndmkpfaa", sum := "e12bf2414d6258d9fb1049a0fddaf4a5eba02ebf17d9916d41aa5355b822af7f", func := "perigee/perigeelaw2.ClocksHaveRightTimes", spec := "clocksHaveRightTimes", unfollowed := true, recurses := true, apart := false, narrowed := true }
def ClocksHaveRightTimesUptoSaid : Prop := clocksHaveRightTimesUptoRow.holds Try.pinned (OpenSpec.upto clocksHaveRightTimesSpec)

/-- 'perigeelaw2.ClocksMatchSpec', WHERE WHAT IT READS IS OF BULK AT MOST 1048576: true; the input reads as it did. -/
def clocksMatchSpecUptoRow : OpenClaim := { program := "ytjldiihndmkpfaa", sum := "e12bf2414d6258d9fb1049a0fddaf4a5eba02ebf17d9916d41aa5355b822af7f", func := "perigee/perigeelaw2.ClocksMatchSpec", spec := "clocksMatchSpec", unfollowed := true, recurses := true, apart := false, narrowed := true }
def ClocksMatchSpecUptoSaid : Prop := clocksMatchSpecUptoRow.holds Try.pinned (OpenSpec.upto clocksMatchSpecSpec)

/-- 'perigeelaw2.MarksMatchSpec', WHERE WHAT IT READS IS OF BULK AT MOST 1048576: true; the input reads as it did. -/
def marksMatchSpecUptoRow : OpenClaim := { program := "ytjldiihndmkpfaa", sum := "e12bf2414d6258d9fb1049a0fddaf4a5eba02ebf17d9916d41aa5355b822af7f", func := "perigee/perigeelaw2.MarksMatchSpec", spec := "marksMatchSpec", unfollowed := true, recurses := true, named := ["math/bits.divideError", "math/bits.overflowError"], apart := false, narrowed := true }
def MarksMatchSpecUptoSaid : Prop := marksMatchSpecUptoRow.holds Try.pinned (OpenSpec.upto marksMatchSpecSpec)

/-- 'perigeelaw2.MarksMergeEven', WHERE WHAT IT READS IS OF BULK AT MOST 1048576: true; the input reads as it did. -/
def marksMergeEvenUptoRow : OpenClaim := { program := "ytjldiihndmkpfaa", sum := "e12bf2414d6258d9fb1049a0fddaf4a5eba02ebf17d9916d41aa5355b822af7f", func := "perigee/perigeelaw2.MarksMergeEven", spec := "marksMergeEven", unfollowed := true, recurses := true, apart := false, narrowed := true }
def MarksMergeEvenUptoSaid : Prop := marksMergeEvenUptoRow.holds Try.pinned (OpenSpec.upto marksMergeEvenSpec)

/-- 'perigeelaw2.MarksThinStayNear', WHERE WHAT IT READS IS OF BULK AT MOST 1048576: true; the input reads as it did. -/
def marksThinStayNearUptoRow : OpenClaim := { program := "ytjldiihndmkpfaa", sum := "e12bf2414d6258d9fb1049a0fddaf4a5eba02ebf17d9916d41aa5355b822af7f", func := "perigee/perigeelaw2.MarksThinStayNear", spec := "marksThinStayNear", unfollowed := true, recurses := true, named := ["math/bits.divideError", "math/bits.overflowError"], apart := false, narrowed := true }
def MarksThinStayNearUptoSaid : Prop := marksThinStayNearUptoRow.holds Try.pinned (OpenSpec.upto marksThinStayNearSpec)

/-- 'perigeelaw2.MarksMergeMatchSpec', WHERE WHAT IT READS IS OF BULK AT MOST 1048576: true; the input reads as it did. -/
def marksMergeMatchSpecUptoRow : OpenClaim := { program := "ytjldiihndmkpfaa", sum := "e12bf2414d6258d9fb1049a0fddaf4a5eba02ebf17d9916d41aa5355b822af7f", func := "perigee/perigeelaw2.MarksMergeMatchSpec", spec := "marksMergeMatchSpec", unfollowed := true, recurses := true, named := ["math/bits.divideError", "math/bits.overflowError"], apart := false, narrowed := true }
def MarksMergeMatchSpecUptoSaid : Prop := marksMergeMatchSpecUptoRow.holds Try.pinned (OpenSpec.upto marksMergeMatchSpecSpec)

/-- 'perigeelaw3.MemoryVotedMatchesSpec', WHERE WHAT IT READS IS OF BULK AT MOST 1048576: true; the input reads as it did. -/
def memoryVotedMatchesSpecUptoRow : OpenClaim := { program := "ytjldiihndmkpfaa", sum := "e12bf2414d6258d9fb1049a0fddaf4a5eba02ebf17d9916d41aa5355b822af7f", func := "perigee/perigeelaw3.MemoryVotedMatchesSpec", spec := "memoryVotedMatchesSpec", apart := false, narrowed := true }
def MemoryVotedMatchesSpecUptoSaid : Prop := memoryVotedMatchesSpecUptoRow.holds Try.pinned (OpenSpec.upto memoryVotedMatchesSpecSpec)

/-- 'perigeelaw3.MemoryRoundsMatchSpec', WHERE WHAT IT READS IS OF BULK AT MOST 1048576: true; the input reads as it did. -/
def memoryRoundsMatchSpecUptoRow : OpenClaim := { program := "ytjldiihndmkpfaa", sum := "e12bf2414d6258d9fb1049a0fddaf4a5eba02ebf17d9916d41aa5355b822af7f", func := "perigee/perigeelaw3.MemoryRoundsMatchSpec", spec := "memoryRoundsMatchSpec", unfollowed := true, recurses := true, apart := false, narrowed := true }
def MemoryRoundsMatchSpecUptoSaid : Prop := memoryRoundsMatchSpecUptoRow.holds Try.pinned (OpenSpec.upto memoryRoundsMatchSpecSpec)

/-- 'perigeelaw3.MemorySlowestMatchesSpec', WHERE WHAT IT READS IS OF BULK AT MOST 1048576: true; the input reads as it did. -/
def memorySlowestMatchesSpecUptoRow : OpenClaim := { program := "ytjldiihndmkpfaa", sum := "e12bf2414d6258d9fb1049a0fddaf4a5eba02ebf17d9916d41aa5355b822af7f", func := "perigee/perigeelaw3.MemorySlowestMatchesSpec", spec := "memorySlowestMatchesSpec", unfollowed := true, recurses := true, apart := false, narrowed := true }
def MemorySlowestMatchesSpecUptoSaid : Prop := memorySlowestMatchesSpecUptoRow.holds Try.pinned (OpenSpec.upto memorySlowestMatchesSpecSpec)

/-- 'perigeelaw3.MemoryScrubbedInTimeKeepsAll', WHERE WHAT IT READS IS OF BULK AT MOST 1048576: true; the input reads as it did. -/
def memoryScrubbedInTimeKeepsAllUptoRow : OpenClaim := { program := "ytjldiihndmkpfaa", sum := "e12bf2414d6258d9fb1049a0fddaf4a5eba02ebf17d9916d41aa5355b822af7f", func := "perigee/perigeelaw3.MemoryScrubbedInTimeKeepsAll", spec := "memoryScrubbedInTimeKeepsAll", unfollowed := true, recurses := true, apart := false, narrowed := true }
def MemoryScrubbedInTimeKeepsAllUptoSaid : Prop := memoryScrubbedInTimeKeepsAllUptoRow.holds Try.pinned (OpenSpec.upto memoryScrubbedInTimeKeepsAllSpec)

/-- 'perigeelaw3.MemoryLostMatchesSpec', WHERE WHAT IT READS IS OF BULK AT MOST 1048576: true; the input reads as it did. -/
def memoryLostMatchesSpecUptoRow : OpenClaim := { program := "ytjldiihndmkpfaa", sum := "e12bf2414d6258d9fb1049a0fddaf4a5eba02ebf17d9916d41aa5355b822af7f", func := "perigee/perigeelaw3.MemoryLostMatchesSpec", spec := "memoryLostMatchesSpec", unfollowed := true, recurses := true, apart := false, narrowed := true }
def MemoryLostMatchesSpecUptoSaid : Prop := memoryLostMatchesSpecUptoRow.holds Try.pinned (OpenSpec.upto memoryLostMatchesSpecSpec)

/-- 'perigeelaw3.MemorySlowestIsSlowEnough', WHERE WHAT IT READS IS OF BULK AT MOST 1048576: true; the input reads as it did. -/
def memorySlowestIsSlowEnoughUptoRow : OpenClaim := { program := "ytjldiihndmkpfaa", sum := "e12bf2414d6258d9fb1049a0fddaf4a5eba02ebf17d9916d41aa5355b822af7f", func := "perigee/perigeelaw3.MemorySlowestIsSlowEnough", spec := "memorySlowestIsSlowEnough", unfollowed := true, recurses := true, apart := false, narrowed := true }
def MemorySlowestIsSlowEnoughUptoSaid : Prop := memorySlowestIsSlowEnoughUptoRow.holds Try.pinned (OpenSpec.upto memorySlowestIsSlowEnoughSpec)

/-- 'perigeetop.TopPacketsThroughMemory', WHERE WHAT IT READS IS OF BULK AT MOST 1048576: true; the input reads as it did. -/
def topPacketsThroughMemoryUptoRow : OpenClaim := { program := "ytjldiihndmkpfaa", sum := "e12bf2414d6258d9fb1049a0fddaf4a5eba02ebf17d9916d41aa5355b822af7f", func := "perigee/perigeetop.TopPacketsThroughMemory", spec := "topPacketsThroughMemory", apart := false, narrowed := true }
def TopPacketsThroughMemoryUptoSaid : Prop := topPacketsThroughMemoryUptoRow.holds Try.pinned (OpenSpec.upto topPacketsThroughMemorySpec)

end Rows
end Go.Proofs.Ytjldiihndmkpfaa
