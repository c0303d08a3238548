/-
  No cell of these rows narrows 'for every input' (looked for: loops, veiled, ifaces, maps, wideKeys, modest, calm, conditions, laid).
  DERIVED. THE GIVEN ROWS OF THIS SEAT. 8 by the template 'for every input the law returns true; each argument reads behind the call as it read before'; 0 by the template 'total and deterministic' (their statements: YtjbchhabdlbflaaTotals.lean).
  GIVEN WITH THE SEED: the statements are not yours to turn. If you find one false, say at which input.
  Laid BY PROGRAM, IN A SANDBOX (cutbox-rows.mjs): the forced cells as the released guide's own fill.sh prints them over the translation e16ec51f67192eae… (all of the seat's roots in one cut). By AI agents, Wed Nov 11 2026. No macro, syntax, notation, axiom, sorry.
-/
import Derived.Test.YtjbchhabdlbflaaChecked
import GoSem.Claim
import GoSem.ClaimJoined
import GoSem.ClaimMapViews
import Derived.JoinedTies
import Derived.KernelRfl
namespace Go.Proofs.Ytjbchhabdlbflaa
/- THE CELL 'sum', in the pinned program and in every row, IS THE sha256 OF THE DUMP (.gsa) THAT YtjbchhabdlbflaaProg.lean LOADS. Nothing in Lean hashes anything: it is a label: what it is worth is what the hold of that sum in a sandbox is worth. -/
noncomputable def Try.pinned : Pinned := { name := "ytjbchhabdlbflaa", sum := "e16ec51f67192eae6b43706c4bd4b688f20687826fc45e9ce8bb1da78a7bef84", checked := Try.checked }
namespace Rows
def none {H : Type} : Left H := { results := [], args := [] }

/-- 'perigeelaw2.CountersUnrollRolled': WHATEVER THE INPUT: true; the input reads as it did. -/
def countersUnrollRolledSpec : ChangeSpec := { name := "countersUnrollRolled", fn := fun _ => fun
  | [d1, d2] => { results := [.lit (.bool true)], args := [d1, d2] }
  | _ => none }
def countersUnrollRolledRow : OpenClaim := { program := "ytjbchhabdlbflaa", sum := "e16ec51f67192eae6b43706c4bd4b688f20687826fc45e9ce8bb1da78a7bef84", func := "perigee/perigeelaw2.CountersUnrollRolled", spec := "countersUnrollRolled", apart := false }
def CountersUnrollRolledSaid : Prop := countersUnrollRolledRow.holds Try.pinned (OpenSpec.ofChange countersUnrollRolledSpec)

/-- ITS FALSE NEIGHBOUR: 'it returns false'. Refute it at one input. -/
def countersUnrollRolledWrong : ChangeSpec := { name := "countersUnrollRolled", fn := fun _ => fun
  | [d1, d2] => { results := [.lit (.bool false)], args := [d1, d2] }
  | _ => none }
def CountersUnrollRolledWrongFalsely : Prop := countersUnrollRolledRow.holds Try.pinned (OpenSpec.ofChange countersUnrollRolledWrong)

/-- 'perigeelaw2.CountersMatchSpec': WHATEVER THE INPUT: true; the input reads as it did. -/
def countersMatchSpecSpec : ChangeSpec := { name := "countersMatchSpec", fn := fun _ => fun
  | [d1, d2, d3] => { results := [.lit (.bool true)], args := [d1, d2, d3] }
  | _ => none }
def countersMatchSpecRow : OpenClaim := { program := "ytjbchhabdlbflaa", sum := "e16ec51f67192eae6b43706c4bd4b688f20687826fc45e9ce8bb1da78a7bef84", func := "perigee/perigeelaw2.CountersMatchSpec", spec := "countersMatchSpec", apart := false }
def CountersMatchSpecSaid : Prop := countersMatchSpecRow.holds Try.pinned (OpenSpec.ofChange countersMatchSpecSpec)

/-- ITS FALSE NEIGHBOUR: 'it returns false'. Refute it at one input. -/
def countersMatchSpecWrong : ChangeSpec := { name := "countersMatchSpec", fn := fun _ => fun
  | [d1, d2, d3] => { results := [.lit (.bool false)], args := [d1, d2, d3] }
  | _ => none }
def CountersMatchSpecWrongFalsely : Prop := countersMatchSpecRow.holds Try.pinned (OpenSpec.ofChange countersMatchSpecWrong)

/-- 'perigeelaw2.CountersComeBack': WHATEVER THE INPUT: true; the input reads as it did. -/
def countersComeBackSpec : ChangeSpec := { name := "countersComeBack", fn := fun _ => fun
  | [d1, d2] => { results := [.lit (.bool true)], args := [d1, d2] }
  | _ => none }
def countersComeBackRow : OpenClaim := { program := "ytjbchhabdlbflaa", sum := "e16ec51f67192eae6b43706c4bd4b688f20687826fc45e9ce8bb1da78a7bef84", func := "perigee/perigeelaw2.CountersComeBack", spec := "countersComeBack", apart := false }
def CountersComeBackSaid : Prop := countersComeBackRow.holds Try.pinned (OpenSpec.ofChange countersComeBackSpec)

/-- ITS FALSE NEIGHBOUR: 'it returns false'. Refute it at one input. -/
def countersComeBackWrong : ChangeSpec := { name := "countersComeBack", fn := fun _ => fun
  | [d1, d2] => { results := [.lit (.bool false)], args := [d1, d2] }
  | _ => none }
def CountersComeBackWrongFalsely : Prop := countersComeBackRow.holds Try.pinned (OpenSpec.ofChange countersComeBackWrong)

/-- 'perigeelaw2.CodesMatchSpec': WHATEVER THE INPUT: true; the input reads as it did. -/
def codesMatchSpecSpec : ChangeSpec := { name := "codesMatchSpec", fn := fun _ => fun
  | [d1, d2] => { results := [.lit (.bool true)], args := [d1, d2] }
  | _ => none }
def codesMatchSpecRow : OpenClaim := { program := "ytjbchhabdlbflaa", sum := "e16ec51f67192eae6b43706c4bd4b688f20687826fc45e9ce8bb1da78a7bef84", func := "perigee/perigeelaw2.CodesMatchSpec", spec := "codesMatchSpec", apart := false }
def CodesMatchSpecSaid : Prop := codesMatchSpecRow.holds Try.pinned (OpenSpec.ofChange codesMatchSpecSpec)

/-- ITS FALSE NEIGHBOUR: 'it returns false'. Refute it at one input. -/
def codesMatchSpecWrong : ChangeSpec := { name := "codesMatchSpec", fn := fun _ => fun
  | [d1, d2] => { results := [.lit (.bool false)], args := [d1, d2] }
  | _ => none }
def CodesMatchSpecWrongFalsely : Prop := codesMatchSpecRow.holds Try.pinned (OpenSpec.ofChange codesMatchSpecWrong)

/-- 'perigeelaw2.CodesComeBack': WHATEVER THE INPUT: true; the input reads as it did. -/
def codesComeBackSpec : ChangeSpec := { name := "codesComeBack", fn := fun _ => fun
  | [d1, d2, d3] => { results := [.lit (.bool true)], args := [d1, d2, d3] }
  | _ => none }
def codesComeBackRow : OpenClaim := { program := "ytjbchhabdlbflaa", sum := "e16ec51f67192eae6b43706c4bd4b688f20687826fc45e9ce8bb1da78a7bef84", func := "perigee/perigeelaw2.CodesComeBack", spec := "codesComeBack", inPlace := ["internal/bytealg.Compare"], apart := false }
def CodesComeBackSaid : Prop := codesComeBackRow.holds Try.pinned (OpenSpec.ofChange codesComeBackSpec)

/-- ITS FALSE NEIGHBOUR: 'it returns false'. Refute it at one input. -/
def codesComeBackWrong : ChangeSpec := { name := "codesComeBack", fn := fun _ => fun
  | [d1, d2, d3] => { results := [.lit (.bool false)], args := [d1, d2, d3] }
  | _ => none }
def CodesComeBackWrongFalsely : Prop := codesComeBackRow.holds Try.pinned (OpenSpec.ofChange codesComeBackWrong)

/-- 'perigeelaw2.ClocksWindowsShrink': WHATEVER THE INPUT: true; the input reads as it did. -/
def clocksWindowsShrinkSpec : ChangeSpec := { name := "clocksWindowsShrink", fn := fun _ => fun
  | [d1, d2, d3, d4] => { results := [.lit (.bool true)], args := [d1, d2, d3, d4] }
  | _ => none }
def clocksWindowsShrinkRow : OpenClaim := { program := "ytjbchhabdlbflaa", sum := "e16ec51f67192eae6b43706c4bd4b688f20687826fc45e9ce8bb1da78a7bef84", func := "perigee/perigeelaw2.ClocksWindowsShrink", spec := "clocksWindowsShrink", apart := false }
def ClocksWindowsShrinkSaid : Prop := clocksWindowsShrinkRow.holds Try.pinned (OpenSpec.ofChange clocksWindowsShrinkSpec)

/-- ITS FALSE NEIGHBOUR: 'it returns false'. Refute it at one input. -/
def clocksWindowsShrinkWrong : ChangeSpec := { name := "clocksWindowsShrink", fn := fun _ => fun
  | [d1, d2, d3, d4] => { results := [.lit (.bool false)], args := [d1, d2, d3, d4] }
  | _ => none }
def ClocksWindowsShrinkWrongFalsely : Prop := clocksWindowsShrinkRow.holds Try.pinned (OpenSpec.ofChange clocksWindowsShrinkWrong)

/-- 'perigeelaw2.ClocksHaveRightTimes': WHATEVER THE INPUT: true; the input reads as it did. -/
def clocksHaveRightTimesSpec : ChangeSpec := { name := "clocksHaveRightTimes", fn := fun _ => fun
  | [d1, d2, d3, d4, d5, d6] => { results := [.lit (.bool true)], args := [d1, d2, d3, d4, d5, d6] }
  | _ => none }
def clocksHaveRightTimesRow : OpenClaim := { program := "ytjbchhabdlbflaa", sum := "e16ec51f67192eae6b43706c4bd4b688f20687826fc45e9ce8bb1da78a7bef84", func := "perigee/perigeelaw2.ClocksHaveRightTimes", spec := "clocksHaveRightTimes", unfollowed := true, recurses := true, apart := false }
def ClocksHaveRightTimesSaid : Prop := clocksHaveRightTimesRow.holds Try.pinned (OpenSpec.ofChange clocksHaveRightTimesSpec)

/-- ITS FALSE NEIGHBOUR: 'it returns false'. Refute it at one input. -/
def clocksHaveRightTimesWrong : ChangeSpec := { name := "clocksHaveRightTimes", fn := fun _ => fun
  | [d1, d2, d3, d4, d5, d6] => { results := [.lit (.bool false)], args := [d1, d2, d3, d4, d5, d6] }
  | _ => none }
def ClocksHaveRightTimesWrongFalsely : Prop := clocksHaveRightTimesRow.holds Try.pinned (OpenSpec.ofChange clocksHaveRightTimesWrong)

/-- 'perigeelaw2.ClocksMatchSpec': WHATEVER THE INPUT: true; the input reads as it did. -/
def clocksMatchSpecSpec : ChangeSpec := { name := "clocksMatchSpec", fn := fun _ => fun
  | [d1, d2, d3] => { results := [.lit (.bool true)], args := [d1, d2, d3] }
  | _ => none }
def clocksMatchSpecRow : OpenClaim := { program := "ytjbchhabdlbflaa", sum := "e16ec51f67192eae6b43706c4bd4b688f20687826fc45e9ce8bb1da78a7bef84", func := "perigee/perigeelaw2.ClocksMatchSpec", spec := "clocksMatchSpec", unfollowed := true, recurses := true, apart := false }
def ClocksMatchSpecSaid : Prop := clocksMatchSpecRow.holds Try.pinned (OpenSpec.ofChange clocksMatchSpecSpec)

/-- ITS FALSE NEIGHBOUR: 'it returns false'. Refute it at one input. -/
def clocksMatchSpecWrong : ChangeSpec := { name := "clocksMatchSpec", fn := fun _ => fun
  | [d1, d2, d3] => { results := [.lit (.bool false)], args := [d1, d2, d3] }
  | _ => none }
def ClocksMatchSpecWrongFalsely : Prop := clocksMatchSpecRow.holds Try.pinned (OpenSpec.ofChange clocksMatchSpecWrong)

/- THE SECOND FORM. 'bulk': how many values and letters a reading holds, each counted each time it is reached (what is shared counts as often as it is met; a slice's spare places count too). A statement '..UptoSaid' is the law's where the arguments, and the package variables that the reading takes, are together of bulk at most 1048576: NARROWER than '..Said'. Prove '..Said' where nothing that the law and all that it calls make is longer than what came in: it says more and counts as full. Else prove '..UptoSaid'. A law counts once. -/
mutual
def uptoBulk {H : Type} : DataW H → Nat
  | .lit (.string bytes) => bytes.length + 1
  | .lit _ => 1
  | .nil => 1
  | .ptr d => uptoBulk d + 1
  | .slice elems spare => uptoBulkAll elems + uptoBulkAll spare + 1
  | .agg parts => uptoBulkAll parts + 1
  | .iface _ d => uptoBulk d + 1
  | .map entries => uptoBulkEntries entries + 1
  | .held _ => 1
def uptoBulkAll {H : Type} : List (DataW H) → Nat
  | [] => 0
  | d :: r => uptoBulk d + uptoBulkAll r
def uptoBulkEntries {H : Type} : List (Lit × DataW H) → Nat
  | [] => 0
  | x :: r => uptoBulkEntry x + uptoBulkEntries r
def uptoBulkEntry {H : Type} : Lit × DataW H → Nat
  | (.string bytes, d) => bytes.length + uptoBulk d + 1
  | (_, d) => uptoBulk d + 1
 end
def uptoSmall : (H : Type) → List (DataW H) → Bool := fun _ ds => decide (uptoBulkAll ds ≤ 1048576)
def OpenSpec.upto (s : _root_.Go.ChangeSpec) : _root_.Go.OpenSpec := { _root_.Go.OpenSpec.ofChange s with cond := some uptoSmall }

/-- 'perigeelaw2.CountersUnrollRolled', WHERE WHAT IT READS IS OF BULK AT MOST 1048576: true; the input reads as it did. -/
def countersUnrollRolledUptoRow : OpenClaim := { program := "ytjbchhabdlbflaa", sum := "e16ec51f67192eae6b43706c4bd4b688f20687826fc45e9ce8bb1da78a7bef84", func := "perigee/perigeelaw2.CountersUnrollRolled", spec := "countersUnrollRolled", apart := false, narrowed := true }
def CountersUnrollRolledUptoSaid : Prop := countersUnrollRolledUptoRow.holds Try.pinned (OpenSpec.upto countersUnrollRolledSpec)

/-- 'perigeelaw2.CountersMatchSpec', WHERE WHAT IT READS IS OF BULK AT MOST 1048576: true; the input reads as it did. -/
def countersMatchSpecUptoRow : OpenClaim := { program := "ytjbchhabdlbflaa", sum := "e16ec51f67192eae6b43706c4bd4b688f20687826fc45e9ce8bb1da78a7bef84", func := "perigee/perigeelaw2.CountersMatchSpec", spec := "countersMatchSpec", apart := false, narrowed := true }
def CountersMatchSpecUptoSaid : Prop := countersMatchSpecUptoRow.holds Try.pinned (OpenSpec.upto countersMatchSpecSpec)

/-- 'perigeelaw2.CountersComeBack', WHERE WHAT IT READS IS OF BULK AT MOST 1048576: true; the input reads as it did. -/
def countersComeBackUptoRow : OpenClaim := { program := "ytjbchhabdlbflaa", sum := "e16ec51f67192eae6b43706c4bd4b688f20687826fc45e9ce8bb1da78a7bef84", func := "perigee/perigeelaw2.CountersComeBack", spec := "countersComeBack", apart := false, narrowed := true }
def CountersComeBackUptoSaid : Prop := countersComeBackUptoRow.holds Try.pinned (OpenSpec.upto countersComeBackSpec)

/-- 'perigeelaw2.CodesMatchSpec', WHERE WHAT IT READS IS OF BULK AT MOST 1048576: true; the input reads as it did. -/
def codesMatchSpecUptoRow : OpenClaim := { program := "ytjbchhabdlbflaa", sum := "e16ec51f67192eae6b43706c4bd4b688f20687826fc45e9ce8bb1da78a7bef84", func := "perigee/perigeelaw2.CodesMatchSpec", spec := "codesMatchSpec", apart := false, narrowed := true }
def CodesMatchSpecUptoSaid : Prop := codesMatchSpecUptoRow.holds Try.pinned (OpenSpec.upto codesMatchSpecSpec)

/-- 'perigeelaw2.CodesComeBack', WHERE WHAT IT READS IS OF BULK AT MOST 1048576: true; the input reads as it did. -/
def codesComeBackUptoRow : OpenClaim := { program := "ytjbchhabdlbflaa", sum := "e16ec51f67192eae6b43706c4bd4b688f20687826fc45e9ce8bb1da78a7bef84", func := "perigee/perigeelaw2.CodesComeBack", spec := "codesComeBack", inPlace := ["internal/bytealg.Compare"], apart := false, narrowed := true }
def CodesComeBackUptoSaid : Prop := codesComeBackUptoRow.holds Try.pinned (OpenSpec.upto codesComeBackSpec)

/-- 'perigeelaw2.ClocksWindowsShrink', WHERE WHAT IT READS IS OF BULK AT MOST 1048576: true; the input reads as it did. -/
def clocksWindowsShrinkUptoRow : OpenClaim := { program := "ytjbchhabdlbflaa", sum := "e16ec51f67192eae6b43706c4bd4b688f20687826fc45e9ce8bb1da78a7bef84", func := "perigee/perigeelaw2.ClocksWindowsShrink", spec := "clocksWindowsShrink", apart := false, narrowed := true }
def ClocksWindowsShrinkUptoSaid : Prop := clocksWindowsShrinkUptoRow.holds Try.pinned (OpenSpec.upto clocksWindowsShrinkSpec)

/-- 'perigeelaw2.ClocksHaveRightTimes', WHERE WHAT IT READS IS OF BULK AT MOST 1048576: true; the input reads as it did. -/
def clocksHaveRightTimesUptoRow : OpenClaim := { program := "ytjbchhabdlbflaa", sum := "e16ec51f67192eae6b43706c4bd4b688f20687826fc45e9ce8bb1da78a7bef84", func := "perigee/perigeelaw2.ClocksHaveRightTimes", spec := "clocksHaveRightTimes", unfollowed := true, recurses := true, apart := false, narrowed := true }
def ClocksHaveRightTimesUptoSaid : Prop := clocksHaveRightTimesUptoRow.holds Try.pinned (OpenSpec.upto clocksHaveRightTimesSpec)

/-- 'perigeelaw2.ClocksMatchSpec', WHERE WHAT IT READS IS OF BULK AT MOST 1048576: true; the input reads as it did. -/
def clocksMatchSpecUptoRow : OpenClaim := { program := "ytjbchhabdlbflaa", sum := "e16ec51f67192eae6b43706c4bd4b688f20687826fc45e9ce8bb1da78a7bef84", func := "perigee/perigeelaw2.ClocksMatchSpec", spec := "clocksMatchSpec", unfollowed := true, recurses := true, apart := false, narrowed := true }
def ClocksMatchSpecUptoSaid : Prop := clocksMatchSpecUptoRow.holds Try.pinned (OpenSpec.upto clocksMatchSpecSpec)

end Rows
end Go.Proofs.Ytjbchhabdlbflaa
