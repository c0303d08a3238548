/-
  No cell of these rows narrows 'for every input' (looked for: loops, veiled, ifaces, maps, wideKeys, modest, calm, conditions, laid).
  DERIVED. THE GIVEN ROWS OF THIS SEAT. 8 by the template 'for every input the law returns true; each argument reads behind the call as it read before'; 0 by the template 'total and deterministic' (their statements: YthlgdgmpmjfiiaaTotals.lean).
  GIVEN WITH THE SEED: the statements are not yours to turn. If you find one false, say at which input.
  Laid BY PROGRAM, IN A SANDBOX (cutbox-rows.mjs): the forced cells as the released guide's own fill.sh prints them over the translation abebc14107cd7b02… (all of the seat's roots in one cut). By AI agents, Wed Nov 11 2026. No macro, syntax, notation, axiom, sorry.
-/
import Derived.Test.YthlgdgmpmjfiiaaChecked
import GoSem.Claim
import GoSem.ClaimJoined
import GoSem.ClaimMapViews
import Derived.JoinedTies
import Derived.KernelRfl
namespace Go.Proofs.Ythlgdgmpmjfiiaa
/- THE CELL 'sum', in the pinned program and in every row, IS THE sha256 OF THE DUMP (.gsa) THAT YthlgdgmpmjfiiaaProg.lean LOADS. Nothing in Lean hashes anything: it is a label: what it is worth is what the hold of that sum in a sandbox is worth. -/
noncomputable def Try.pinned : Pinned := { name := "ythlgdgmpmjfiiaa", sum := "abebc14107cd7b02ede876d01415161dd5eb9f157a72bbfa5996f798f18fdc51", checked := Try.checked }
namespace Rows
def none {H : Type} : Left H := { results := [], args := [] }

/-- 'perigeelaw3.MemoryCodesMatchSpec': WHATEVER THE INPUT: true; the input reads as it did. -/
def memoryCodesMatchSpecSpec : ChangeSpec := { name := "memoryCodesMatchSpec", fn := fun _ => fun
  | [d1, d2] => { results := [.lit (.bool true)], args := [d1, d2] }
  | _ => none }
def memoryCodesMatchSpecRow : OpenClaim := { program := "ythlgdgmpmjfiiaa", sum := "abebc14107cd7b02ede876d01415161dd5eb9f157a72bbfa5996f798f18fdc51", func := "perigee/perigeelaw3.MemoryCodesMatchSpec", spec := "memoryCodesMatchSpec", apart := false }
def MemoryCodesMatchSpecSaid : Prop := memoryCodesMatchSpecRow.holds Try.pinned (OpenSpec.ofChange memoryCodesMatchSpecSpec)

/-- ITS FALSE NEIGHBOUR: 'it returns false'. Refute it at one input. -/
def memoryCodesMatchSpecWrong : ChangeSpec := { name := "memoryCodesMatchSpec", fn := fun _ => fun
  | [d1, d2] => { results := [.lit (.bool false)], args := [d1, d2] }
  | _ => none }
def MemoryCodesMatchSpecWrongFalsely : Prop := memoryCodesMatchSpecRow.holds Try.pinned (OpenSpec.ofChange memoryCodesMatchSpecWrong)

/-- 'perigeelaw3.MemoryOneFlipIsPutRight': WHATEVER THE INPUT: true; the input reads as it did. -/
def memoryOneFlipIsPutRightSpec : ChangeSpec := { name := "memoryOneFlipIsPutRight", fn := fun _ => fun
  | [d1, d2, d3] => { results := [.lit (.bool true)], args := [d1, d2, d3] }
  | _ => none }
def memoryOneFlipIsPutRightRow : OpenClaim := { program := "ythlgdgmpmjfiiaa", sum := "abebc14107cd7b02ede876d01415161dd5eb9f157a72bbfa5996f798f18fdc51", func := "perigee/perigeelaw3.MemoryOneFlipIsPutRight", spec := "memoryOneFlipIsPutRight", apart := false }
def MemoryOneFlipIsPutRightSaid : Prop := memoryOneFlipIsPutRightRow.holds Try.pinned (OpenSpec.ofChange memoryOneFlipIsPutRightSpec)

/-- ITS FALSE NEIGHBOUR: 'it returns false'. Refute it at one input. -/
def memoryOneFlipIsPutRightWrong : ChangeSpec := { name := "memoryOneFlipIsPutRight", fn := fun _ => fun
  | [d1, d2, d3] => { results := [.lit (.bool false)], args := [d1, d2, d3] }
  | _ => none }
def MemoryOneFlipIsPutRightWrongFalsely : Prop := memoryOneFlipIsPutRightRow.holds Try.pinned (OpenSpec.ofChange memoryOneFlipIsPutRightWrong)

/-- 'perigeelaw3.MemoryVotedMatchesSpec': WHATEVER THE INPUT: true; the input reads as it did. -/
def memoryVotedMatchesSpecSpec : ChangeSpec := { name := "memoryVotedMatchesSpec", fn := fun _ => fun
  | [d1, d2, d3] => { results := [.lit (.bool true)], args := [d1, d2, d3] }
  | _ => none }
def memoryVotedMatchesSpecRow : OpenClaim := { program := "ythlgdgmpmjfiiaa", sum := "abebc14107cd7b02ede876d01415161dd5eb9f157a72bbfa5996f798f18fdc51", func := "perigee/perigeelaw3.MemoryVotedMatchesSpec", spec := "memoryVotedMatchesSpec", apart := false }
def MemoryVotedMatchesSpecSaid : Prop := memoryVotedMatchesSpecRow.holds Try.pinned (OpenSpec.ofChange memoryVotedMatchesSpecSpec)

/-- ITS FALSE NEIGHBOUR: 'it returns false'. Refute it at one input. -/
def memoryVotedMatchesSpecWrong : ChangeSpec := { name := "memoryVotedMatchesSpec", fn := fun _ => fun
  | [d1, d2, d3] => { results := [.lit (.bool false)], args := [d1, d2, d3] }
  | _ => none }
def MemoryVotedMatchesSpecWrongFalsely : Prop := memoryVotedMatchesSpecRow.holds Try.pinned (OpenSpec.ofChange memoryVotedMatchesSpecWrong)

/-- 'perigeelaw3.MemoryTwoOutvoteOne': WHATEVER THE INPUT: true; the input reads as it did. -/
def memoryTwoOutvoteOneSpec : ChangeSpec := { name := "memoryTwoOutvoteOne", fn := fun _ => fun
  | [d1, d2] => { results := [.lit (.bool true)], args := [d1, d2] }
  | _ => none }
def memoryTwoOutvoteOneRow : OpenClaim := { program := "ythlgdgmpmjfiiaa", sum := "abebc14107cd7b02ede876d01415161dd5eb9f157a72bbfa5996f798f18fdc51", func := "perigee/perigeelaw3.MemoryTwoOutvoteOne", spec := "memoryTwoOutvoteOne", apart := false }
def MemoryTwoOutvoteOneSaid : Prop := memoryTwoOutvoteOneRow.holds Try.pinned (OpenSpec.ofChange memoryTwoOutvoteOneSpec)

/-- ITS FALSE NEIGHBOUR: 'it returns false'. Refute it at one input. -/
def memoryTwoOutvoteOneWrong : ChangeSpec := { name := "memoryTwoOutvoteOne", fn := fun _ => fun
  | [d1, d2] => { results := [.lit (.bool false)], args := [d1, d2] }
  | _ => none }
def MemoryTwoOutvoteOneWrongFalsely : Prop := memoryTwoOutvoteOneRow.holds Try.pinned (OpenSpec.ofChange memoryTwoOutvoteOneWrong)

/-- 'perigeelaw3.MemoryWrittenIsRead': WHATEVER THE INPUT: true; the input reads as it did. -/
def memoryWrittenIsReadSpec : ChangeSpec := { name := "memoryWrittenIsRead", fn := fun _ => fun
  | [d1, d2, d3, d4] => { results := [.lit (.bool true)], args := [d1, d2, d3, d4] }
  | _ => none }
def memoryWrittenIsReadRow : OpenClaim := { program := "ythlgdgmpmjfiiaa", sum := "abebc14107cd7b02ede876d01415161dd5eb9f157a72bbfa5996f798f18fdc51", func := "perigee/perigeelaw3.MemoryWrittenIsRead", spec := "memoryWrittenIsRead", apart := false }
def MemoryWrittenIsReadSaid : Prop := memoryWrittenIsReadRow.holds Try.pinned (OpenSpec.ofChange memoryWrittenIsReadSpec)

/-- ITS FALSE NEIGHBOUR: 'it returns false'. Refute it at one input. -/
def memoryWrittenIsReadWrong : ChangeSpec := { name := "memoryWrittenIsRead", fn := fun _ => fun
  | [d1, d2, d3, d4] => { results := [.lit (.bool false)], args := [d1, d2, d3, d4] }
  | _ => none }
def MemoryWrittenIsReadWrongFalsely : Prop := memoryWrittenIsReadRow.holds Try.pinned (OpenSpec.ofChange memoryWrittenIsReadWrong)

/-- 'perigeelaw3.MemoryScrubbedMatchesSpec': WHATEVER THE INPUT: true; the input reads as it did. -/
def memoryScrubbedMatchesSpecSpec : ChangeSpec := { name := "memoryScrubbedMatchesSpec", fn := fun _ => fun
  | [d1, d2, d3] => { results := [.lit (.bool true)], args := [d1, d2, d3] }
  | _ => none }
def memoryScrubbedMatchesSpecRow : OpenClaim := { program := "ythlgdgmpmjfiiaa", sum := "abebc14107cd7b02ede876d01415161dd5eb9f157a72bbfa5996f798f18fdc51", func := "perigee/perigeelaw3.MemoryScrubbedMatchesSpec", spec := "memoryScrubbedMatchesSpec", apart := false }
def MemoryScrubbedMatchesSpecSaid : Prop := memoryScrubbedMatchesSpecRow.holds Try.pinned (OpenSpec.ofChange memoryScrubbedMatchesSpecSpec)

/-- ITS FALSE NEIGHBOUR: 'it returns false'. Refute it at one input. -/
def memoryScrubbedMatchesSpecWrong : ChangeSpec := { name := "memoryScrubbedMatchesSpec", fn := fun _ => fun
  | [d1, d2, d3] => { results := [.lit (.bool false)], args := [d1, d2, d3] }
  | _ => none }
def MemoryScrubbedMatchesSpecWrongFalsely : Prop := memoryScrubbedMatchesSpecRow.holds Try.pinned (OpenSpec.ofChange memoryScrubbedMatchesSpecWrong)

/-- 'perigeelaw3.MemoryScrubbedReadsTheSame': WHATEVER THE INPUT: true; the input reads as it did. -/
def memoryScrubbedReadsTheSameSpec : ChangeSpec := { name := "memoryScrubbedReadsTheSame", fn := fun _ => fun
  | [d1, d2, d3] => { results := [.lit (.bool true)], args := [d1, d2, d3] }
  | _ => none }
def memoryScrubbedReadsTheSameRow : OpenClaim := { program := "ythlgdgmpmjfiiaa", sum := "abebc14107cd7b02ede876d01415161dd5eb9f157a72bbfa5996f798f18fdc51", func := "perigee/perigeelaw3.MemoryScrubbedReadsTheSame", spec := "memoryScrubbedReadsTheSame", apart := false }
def MemoryScrubbedReadsTheSameSaid : Prop := memoryScrubbedReadsTheSameRow.holds Try.pinned (OpenSpec.ofChange memoryScrubbedReadsTheSameSpec)

/-- ITS FALSE NEIGHBOUR: 'it returns false'. Refute it at one input. -/
def memoryScrubbedReadsTheSameWrong : ChangeSpec := { name := "memoryScrubbedReadsTheSame", fn := fun _ => fun
  | [d1, d2, d3] => { results := [.lit (.bool false)], args := [d1, d2, d3] }
  | _ => none }
def MemoryScrubbedReadsTheSameWrongFalsely : Prop := memoryScrubbedReadsTheSameRow.holds Try.pinned (OpenSpec.ofChange memoryScrubbedReadsTheSameWrong)

/-- 'perigeelaw3.MemoryBanksMatchSpec': WHATEVER THE INPUT: true; the input reads as it did. -/
def memoryBanksMatchSpecSpec : ChangeSpec := { name := "memoryBanksMatchSpec", fn := fun _ => fun
  | [d1, d2, d3, d4] => { results := [.lit (.bool true)], args := [d1, d2, d3, d4] }
  | _ => none }
def memoryBanksMatchSpecRow : OpenClaim := { program := "ythlgdgmpmjfiiaa", sum := "abebc14107cd7b02ede876d01415161dd5eb9f157a72bbfa5996f798f18fdc51", func := "perigee/perigeelaw3.MemoryBanksMatchSpec", spec := "memoryBanksMatchSpec", apart := false }
def MemoryBanksMatchSpecSaid : Prop := memoryBanksMatchSpecRow.holds Try.pinned (OpenSpec.ofChange memoryBanksMatchSpecSpec)

/-- ITS FALSE NEIGHBOUR: 'it returns false'. Refute it at one input. -/
def memoryBanksMatchSpecWrong : ChangeSpec := { name := "memoryBanksMatchSpec", fn := fun _ => fun
  | [d1, d2, d3, d4] => { results := [.lit (.bool false)], args := [d1, d2, d3, d4] }
  | _ => none }
def MemoryBanksMatchSpecWrongFalsely : Prop := memoryBanksMatchSpecRow.holds Try.pinned (OpenSpec.ofChange memoryBanksMatchSpecWrong)

/- THE SECOND FORM. 'bulk': how many values and letters a reading holds, each counted each time it is reached (what is shared counts as often as it is met; a slice's spare places count too). A statement '..UptoSaid' is the law's where the arguments, and the package variables that the reading takes, are together of bulk at most 1048576: NARROWER than '..Said'. Prove '..Said' where nothing that the law and all that it calls make is longer than what came in: it says more and counts as full. Else prove '..UptoSaid'. A law counts once. -/
mutual
def uptoBulk {H : Type} : DataW H → Nat
  | .lit (.string bytes) => bytes.length + 1
  | .lit _ => 1
  | .nil => 1
  | .ptr d => uptoBulk d + 1
  | .slice elems spare => uptoBulkAll elems + uptoBulkAll spare + 1
  | .agg parts => uptoBulkAll parts + 1
  | .iface _ d => uptoBulk d + 1
  | .map entries => uptoBulkEntries entries + 1
  | .held _ => 1
def uptoBulkAll {H : Type} : List (DataW H) → Nat
  | [] => 0
  | d :: r => uptoBulk d + uptoBulkAll r
def uptoBulkEntries {H : Type} : List (Lit × DataW H) → Nat
  | [] => 0
  | x :: r => uptoBulkEntry x + uptoBulkEntries r
def uptoBulkEntry {H : Type} : Lit × DataW H → Nat
  | (.string bytes, d) => bytes.length + uptoBulk d + 1
  | (_, d) => uptoBulk d + 1
 end
def uptoSmall : (H : Type) → List (DataW H) → Bool := fun _ ds => decide (uptoBulkAll ds ≤ 1048576)
def OpenSpec.upto (s : _root_.Go.ChangeSpec) : _root_.Go.OpenSpec := { _root_.Go.OpenSpec.ofChange s with cond := some uptoSmall }

/-- 'perigeelaw3.MemoryCodesMatchSpec', WHERE WHAT IT READS IS OF BULK AT MOST 1048576: true; the input reads as it did. -/
def memoryCodesMatchSpecUptoRow : OpenClaim := { program := "ythlgdgmpmjfiiaa", sum := "abebc14107cd7b02ede876d01415161dd5eb9f157a72bbfa5996f798f18fdc51", func := "perigee/perigeelaw3.MemoryCodesMatchSpec", spec := "memoryCodesMatchSpec", apart := false, narrowed := true }
def MemoryCodesMatchSpecUptoSaid : Prop := memoryCodesMatchSpecUptoRow.holds Try.pinned (OpenSpec.upto memoryCodesMatchSpecSpec)

/-- 'perigeelaw3.MemoryOneFlipIsPutRight', WHERE WHAT IT READS IS OF BULK AT MOST 1048576: true; the input reads as it did. -/
def memoryOneFlipIsPutRightUptoRow : OpenClaim := { program := "ythlgdgmpmjfiiaa", sum := "abebc14107cd7b02ede876d01415161dd5eb9f157a72bbfa5996f798f18fdc51", func := "perigee/perigeelaw3.MemoryOneFlipIsPutRight", spec := "memoryOneFlipIsPutRight", apart := false, narrowed := true }
def MemoryOneFlipIsPutRightUptoSaid : Prop := memoryOneFlipIsPutRightUptoRow.holds Try.pinned (OpenSpec.upto memoryOneFlipIsPutRightSpec)

/-- 'perigeelaw3.MemoryVotedMatchesSpec', WHERE WHAT IT READS IS OF BULK AT MOST 1048576: true; the input reads as it did. -/
def memoryVotedMatchesSpecUptoRow : OpenClaim := { program := "ythlgdgmpmjfiiaa", sum := "abebc14107cd7b02ede876d01415161dd5eb9f157a72bbfa5996f798f18fdc51", func := "perigee/perigeelaw3.MemoryVotedMatchesSpec", spec := "memoryVotedMatchesSpec", apart := false, narrowed := true }
def MemoryVotedMatchesSpecUptoSaid : Prop := memoryVotedMatchesSpecUptoRow.holds Try.pinned (OpenSpec.upto memoryVotedMatchesSpecSpec)

/-- 'perigeelaw3.MemoryTwoOutvoteOne', WHERE WHAT IT READS IS OF BULK AT MOST 1048576: true; the input reads as it did. -/
def memoryTwoOutvoteOneUptoRow : OpenClaim := { program := "ythlgdgmpmjfiiaa", sum := "abebc14107cd7b02ede876d01415161dd5eb9f157a72bbfa5996f798f18fdc51", func := "perigee/perigeelaw3.MemoryTwoOutvoteOne", spec := "memoryTwoOutvoteOne", apart := false, narrowed := true }
def MemoryTwoOutvoteOneUptoSaid : Prop := memoryTwoOutvoteOneUptoRow.holds Try.pinned (OpenSpec.upto memoryTwoOutvoteOneSpec)

/-- 'perigeelaw3.MemoryWrittenIsRead', WHERE WHAT IT READS IS OF BULK AT MOST 1048576: true; the input reads as it did. -/
def memoryWrittenIsReadUptoRow : OpenClaim := { program := "ythlgdgmpmjfiiaa", sum := "abebc14107cd7b02ede876d01415161dd5eb9f157a72bbfa5996f798f18fdc51", func := "perigee/perigeelaw3.MemoryWrittenIsRead", spec := "memoryWrittenIsRead", apart := false, narrowed := true }
def MemoryWrittenIsReadUptoSaid : Prop := memoryWrittenIsReadUptoRow.holds Try.pinned (OpenSpec.upto memoryWrittenIsReadSpec)

/-- 'perigeelaw3.MemoryScrubbedMatchesSpec', WHERE WHAT IT READS IS OF BULK AT MOST 1048576: true; the input reads as it did. -/
def memoryScrubbedMatchesSpecUptoRow : OpenClaim := { program := "ythlgdgmpmjfiiaa", sum := "abebc14107cd7b02ede876d01415161dd5eb9f157a72bbfa5996f798f18fdc51", func := "perigee/perigeelaw3.MemoryScrubbedMatchesSpec", spec := "memoryScrubbedMatchesSpec", apart := false, narrowed := true }
def MemoryScrubbedMatchesSpecUptoSaid : Prop := memoryScrubbedMatchesSpecUptoRow.holds Try.pinned (OpenSpec.upto memoryScrubbedMatchesSpecSpec)

/-- 'perigeelaw3.MemoryScrubbedReadsTheSame', WHERE WHAT IT READS IS OF BULK AT MOST 1048576: true; the input reads as it did. -/
def memoryScrubbedReadsTheSameUptoRow : OpenClaim := { program := "ythlgdgmpmjfiiaa", sum := "abebc14107cd7b02ede876d01415161dd5eb9f157a72bbfa5996f798f18fdc51", func := "perigee/perigeelaw3.MemoryScrubbedReadsTheSame", spec := "memoryScrubbedReadsTheSame", apart := false, narrowed := true }
def MemoryScrubbedReadsTheSameUptoSaid : Prop := memoryScrubbedReadsTheSameUptoRow.holds Try.pinned (OpenSpec.upto memoryScrubbedReadsTheSameSpec)

/-- 'perigeelaw3.MemoryBanksMatchSpec', WHERE WHAT IT READS IS OF BULK AT MOST 1048576: true; the input reads as it did. -/
def memoryBanksMatchSpecUptoRow : OpenClaim := { program := "ythlgdgmpmjfiiaa", sum := "abebc14107cd7b02ede876d01415161dd5eb9f157a72bbfa5996f798f18fdc51", func := "perigee/perigeelaw3.MemoryBanksMatchSpec", spec := "memoryBanksMatchSpec", apart := false, narrowed := true }
def MemoryBanksMatchSpecUptoSaid : Prop := memoryBanksMatchSpecUptoRow.holds Try.pinned (OpenSpec.upto memoryBanksMatchSpecSpec)

end Rows
end Go.Proofs.Ythlgdgmpmjfiiaa
