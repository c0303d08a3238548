/-
  No cell of these rows narrows 'for every input' (looked for: loops, veiled, ifaces, maps, wideKeys, modest, calm, conditions, laid).
  DERIVED. THE GIVEN ROWS OF THIS SEAT. 14 by the template 'for every input the law returns true; each argument reads behind the call as it read before'; 0 by the template 'total and deterministic' (their statements: YtaegjihmpgdfcaaTotals.lean).
  GIVEN WITH THE SEED: the statements are not yours to turn. If you find one false, say at which input.
  Laid BY PROGRAM, IN A SANDBOX (cutbox-rows.mjs): the forced cells as the released guide's own fill.sh prints them over the translation 1546f89eb1f48f05… (all of the seat's roots in one cut). By AI agents, Wed Nov 11 2026. No macro, syntax, notation, axiom, sorry.
-/
import Derived.Test.YtaegjihmpgdfcaaChecked
import GoSem.Claim
import GoSem.ClaimJoined
import GoSem.ClaimMapViews
import Derived.JoinedTies
import Derived.KernelRfl
namespace Go.Proofs.Ytaegjihmpgdfcaa
/- THE CELL 'sum', in the pinned program and in every row, IS THE sha256 OF THE DUMP (.gsa) THAT YtaegjihmpgdfcaaProg.lean LOADS. Nothing in Lean hashes anything: it is a label: what it is worth is what the hold of that sum in a sandbox is worth. -/
noncomputable def Try.pinned : Pinned := { name := "ytaegjihmpgdfcaa", sum := "1546f89eb1f48f05a03914090769af1a72edcb895996cd603acf487b07fef514", checked := Try.checked }
namespace Rows
def none {H : Type} : Left H := { results := [], args := [] }

/-- 'perigeelaw6.ProcsMatchSpec': WHATEVER THE INPUT: true; the input reads as it did. -/
def procsMatchSpecSpec : ChangeSpec := { name := "procsMatchSpec", fn := fun _ => fun
  | [d1, d2, d3] => { results := [.lit (.bool true)], args := [d1, d2, d3] }
  | _ => none }
def procsMatchSpecRow : OpenClaim := { program := "ytaegjihmpgdfcaa", sum := "1546f89eb1f48f05a03914090769af1a72edcb895996cd603acf487b07fef514", func := "perigee/perigeelaw6.ProcsMatchSpec", spec := "procsMatchSpec", unfollowed := true, recurses := true, apart := false }
def ProcsMatchSpecSaid : Prop := procsMatchSpecRow.holds Try.pinned (OpenSpec.ofChange procsMatchSpecSpec)

/-- ITS FALSE NEIGHBOUR: 'it returns false'. Refute it at one input. -/
def procsMatchSpecWrong : ChangeSpec := { name := "procsMatchSpec", fn := fun _ => fun
  | [d1, d2, d3] => { results := [.lit (.bool false)], args := [d1, d2, d3] }
  | _ => none }
def ProcsMatchSpecWrongFalsely : Prop := procsMatchSpecRow.holds Try.pinned (OpenSpec.ofChange procsMatchSpecWrong)

/-- 'perigeelaw6.ProcsPlacesAreRight': WHATEVER THE INPUT: true; the input reads as it did. -/
def procsPlacesAreRightSpec : ChangeSpec := { name := "procsPlacesAreRight", fn := fun _ => fun
  | [d1, d2, d3, d4, d5] => { results := [.lit (.bool true)], args := [d1, d2, d3, d4, d5] }
  | _ => none }
def procsPlacesAreRightRow : OpenClaim := { program := "ytaegjihmpgdfcaa", sum := "1546f89eb1f48f05a03914090769af1a72edcb895996cd603acf487b07fef514", func := "perigee/perigeelaw6.ProcsPlacesAreRight", spec := "procsPlacesAreRight", unfollowed := true, recurses := true, apart := false }
def ProcsPlacesAreRightSaid : Prop := procsPlacesAreRightRow.holds Try.pinned (OpenSpec.ofChange procsPlacesAreRightSpec)

/-- ITS FALSE NEIGHBOUR: 'it returns false'. Refute it at one input. -/
def procsPlacesAreRightWrong : ChangeSpec := { name := "procsPlacesAreRight", fn := fun _ => fun
  | [d1, d2, d3, d4, d5] => { results := [.lit (.bool false)], args := [d1, d2, d3, d4, d5] }
  | _ => none }
def ProcsPlacesAreRightWrongFalsely : Prop := procsPlacesAreRightRow.holds Try.pinned (OpenSpec.ofChange procsPlacesAreRightWrong)

/-- 'perigeelaw6.ProcsGoMatchSpec': WHATEVER THE INPUT: true; the input reads as it did. -/
def procsGoMatchSpecSpec : ChangeSpec := { name := "procsGoMatchSpec", fn := fun _ => fun
  | [d1, d2, d3, d4, d5] => { results := [.lit (.bool true)], args := [d1, d2, d3, d4, d5] }
  | _ => none }
def procsGoMatchSpecRow : OpenClaim := { program := "ytaegjihmpgdfcaa", sum := "1546f89eb1f48f05a03914090769af1a72edcb895996cd603acf487b07fef514", func := "perigee/perigeelaw6.ProcsGoMatchSpec", spec := "procsGoMatchSpec", unfollowed := true, recurses := true, apart := false }
def ProcsGoMatchSpecSaid : Prop := procsGoMatchSpecRow.holds Try.pinned (OpenSpec.ofChange procsGoMatchSpecSpec)

/-- ITS FALSE NEIGHBOUR: 'it returns false'. Refute it at one input. -/
def procsGoMatchSpecWrong : ChangeSpec := { name := "procsGoMatchSpec", fn := fun _ => fun
  | [d1, d2, d3, d4, d5] => { results := [.lit (.bool false)], args := [d1, d2, d3, d4, d5] }
  | _ => none }
def ProcsGoMatchSpecWrongFalsely : Prop := procsGoMatchSpecRow.holds Try.pinned (OpenSpec.ofChange procsGoMatchSpecWrong)

/-- 'perigeelaw6.ProcsGoOn': WHATEVER THE INPUT: true; the input reads as it did. -/
def procsGoOnSpec : ChangeSpec := { name := "procsGoOn", fn := fun _ => fun
  | [d1, d2, d3, d4, d5, d6] => { results := [.lit (.bool true)], args := [d1, d2, d3, d4, d5, d6] }
  | _ => none }
def procsGoOnRow : OpenClaim := { program := "ytaegjihmpgdfcaa", sum := "1546f89eb1f48f05a03914090769af1a72edcb895996cd603acf487b07fef514", func := "perigee/perigeelaw6.ProcsGoOn", spec := "procsGoOn", unfollowed := true, recurses := true, apart := false }
def ProcsGoOnSaid : Prop := procsGoOnRow.holds Try.pinned (OpenSpec.ofChange procsGoOnSpec)

/-- ITS FALSE NEIGHBOUR: 'it returns false'. Refute it at one input. -/
def procsGoOnWrong : ChangeSpec := { name := "procsGoOn", fn := fun _ => fun
  | [d1, d2, d3, d4, d5, d6] => { results := [.lit (.bool false)], args := [d1, d2, d3, d4, d5, d6] }
  | _ => none }
def ProcsGoOnWrongFalsely : Prop := procsGoOnRow.holds Try.pinned (OpenSpec.ofChange procsGoOnWrong)

/-- 'perigeelaw6.EntriesPutAndDropped': WHATEVER THE INPUT: true; the input reads as it did. -/
def entriesPutAndDroppedSpec : ChangeSpec := { name := "entriesPutAndDropped", fn := fun _ => fun
  | [d1, d2] => { results := [.lit (.bool true)], args := [d1, d2] }
  | _ => none }
def entriesPutAndDroppedRow : OpenClaim := { program := "ytaegjihmpgdfcaa", sum := "1546f89eb1f48f05a03914090769af1a72edcb895996cd603acf487b07fef514", func := "perigee/perigeelaw6.EntriesPutAndDropped", spec := "entriesPutAndDropped", inPlace := ["slices.overlaps[perigee/api.Entry]"], unfollowed := true, recurses := true, apart := false }
def EntriesPutAndDroppedSaid : Prop := entriesPutAndDroppedRow.holds Try.pinned (OpenSpec.ofChange entriesPutAndDroppedSpec)

/-- ITS FALSE NEIGHBOUR: 'it returns false'. Refute it at one input. -/
def entriesPutAndDroppedWrong : ChangeSpec := { name := "entriesPutAndDropped", fn := fun _ => fun
  | [d1, d2] => { results := [.lit (.bool false)], args := [d1, d2] }
  | _ => none }
def EntriesPutAndDroppedWrongFalsely : Prop := entriesPutAndDroppedRow.holds Try.pinned (OpenSpec.ofChange entriesPutAndDroppedWrong)

/-- 'perigeelaw6.EntriesMatchSpec': WHATEVER THE INPUT: true; the input reads as it did. -/
def entriesMatchSpecSpec : ChangeSpec := { name := "entriesMatchSpec", fn := fun _ => fun
  | [d1, d2, d3, d4] => { results := [.lit (.bool true)], args := [d1, d2, d3, d4] }
  | _ => none }
def entriesMatchSpecRow : OpenClaim := { program := "ytaegjihmpgdfcaa", sum := "1546f89eb1f48f05a03914090769af1a72edcb895996cd603acf487b07fef514", func := "perigee/perigeelaw6.EntriesMatchSpec", spec := "entriesMatchSpec", inPlace := ["slices.overlaps[perigee/api.Entry]"], unfollowed := true, recurses := true, apart := false }
def EntriesMatchSpecSaid : Prop := entriesMatchSpecRow.holds Try.pinned (OpenSpec.ofChange entriesMatchSpecSpec)

/-- ITS FALSE NEIGHBOUR: 'it returns false'. Refute it at one input. -/
def entriesMatchSpecWrong : ChangeSpec := { name := "entriesMatchSpec", fn := fun _ => fun
  | [d1, d2, d3, d4] => { results := [.lit (.bool false)], args := [d1, d2, d3, d4] }
  | _ => none }
def EntriesMatchSpecWrongFalsely : Prop := entriesMatchSpecRow.holds Try.pinned (OpenSpec.ofChange entriesMatchSpecWrong)

/-- 'perigeelaw6.EntriesShiftMatchSpec': WHATEVER THE INPUT: true; the input reads as it did. -/
def entriesShiftMatchSpecSpec : ChangeSpec := { name := "entriesShiftMatchSpec", fn := fun _ => fun
  | [d1, d2, d3] => { results := [.lit (.bool true)], args := [d1, d2, d3] }
  | _ => none }
def entriesShiftMatchSpecRow : OpenClaim := { program := "ytaegjihmpgdfcaa", sum := "1546f89eb1f48f05a03914090769af1a72edcb895996cd603acf487b07fef514", func := "perigee/perigeelaw6.EntriesShiftMatchSpec", spec := "entriesShiftMatchSpec", unfollowed := true, recurses := true, apart := false }
def EntriesShiftMatchSpecSaid : Prop := entriesShiftMatchSpecRow.holds Try.pinned (OpenSpec.ofChange entriesShiftMatchSpecSpec)

/-- ITS FALSE NEIGHBOUR: 'it returns false'. Refute it at one input. -/
def entriesShiftMatchSpecWrong : ChangeSpec := { name := "entriesShiftMatchSpec", fn := fun _ => fun
  | [d1, d2, d3] => { results := [.lit (.bool false)], args := [d1, d2, d3] }
  | _ => none }
def EntriesShiftMatchSpecWrongFalsely : Prop := entriesShiftMatchSpecRow.holds Try.pinned (OpenSpec.ofChange entriesShiftMatchSpecWrong)

/-- 'perigeelaw6.EntriesShiftBack': WHATEVER THE INPUT: true; the input reads as it did. -/
def entriesShiftBackSpec : ChangeSpec := { name := "entriesShiftBack", fn := fun _ => fun
  | [d1, d2, d3] => { results := [.lit (.bool true)], args := [d1, d2, d3] }
  | _ => none }
def entriesShiftBackRow : OpenClaim := { program := "ytaegjihmpgdfcaa", sum := "1546f89eb1f48f05a03914090769af1a72edcb895996cd603acf487b07fef514", func := "perigee/perigeelaw6.EntriesShiftBack", spec := "entriesShiftBack", unfollowed := true, recurses := true, apart := false }
def EntriesShiftBackSaid : Prop := entriesShiftBackRow.holds Try.pinned (OpenSpec.ofChange entriesShiftBackSpec)

/-- ITS FALSE NEIGHBOUR: 'it returns false'. Refute it at one input. -/
def entriesShiftBackWrong : ChangeSpec := { name := "entriesShiftBack", fn := fun _ => fun
  | [d1, d2, d3] => { results := [.lit (.bool false)], args := [d1, d2, d3] }
  | _ => none }
def EntriesShiftBackWrongFalsely : Prop := entriesShiftBackRow.holds Try.pinned (OpenSpec.ofChange entriesShiftBackWrong)

/-- 'perigeelaw6.SchedulesDoOnce': WHATEVER THE INPUT: true; the input reads as it did. -/
def schedulesDoOnceSpec : ChangeSpec := { name := "schedulesDoOnce", fn := fun _ => fun
  | [d1, d2, d3, d4, d5, d6] => { results := [.lit (.bool true)], args := [d1, d2, d3, d4, d5, d6] }
  | _ => none }
def schedulesDoOnceRow : OpenClaim := { program := "ytaegjihmpgdfcaa", sum := "1546f89eb1f48f05a03914090769af1a72edcb895996cd603acf487b07fef514", func := "perigee/perigeelaw6.SchedulesDoOnce", spec := "schedulesDoOnce", inPlace := ["slices.overlaps[perigee/api.Entry]"], unfollowed := true, recurses := true, apart := false }
def SchedulesDoOnceSaid : Prop := schedulesDoOnceRow.holds Try.pinned (OpenSpec.ofChange schedulesDoOnceSpec)

/-- ITS FALSE NEIGHBOUR: 'it returns false'. Refute it at one input. -/
def schedulesDoOnceWrong : ChangeSpec := { name := "schedulesDoOnce", fn := fun _ => fun
  | [d1, d2, d3, d4, d5, d6] => { results := [.lit (.bool false)], args := [d1, d2, d3, d4, d5, d6] }
  | _ => none }
def SchedulesDoOnceWrongFalsely : Prop := schedulesDoOnceRow.holds Try.pinned (OpenSpec.ofChange schedulesDoOnceWrong)

/-- 'perigeelaw6.SchedulesInTime': WHATEVER THE INPUT: true; the input reads as it did. -/
def schedulesInTimeSpec : ChangeSpec := { name := "schedulesInTime", fn := fun _ => fun
  | [d1, d2, d3, d4] => { results := [.lit (.bool true)], args := [d1, d2, d3, d4] }
  | _ => none }
def schedulesInTimeRow : OpenClaim := { program := "ytaegjihmpgdfcaa", sum := "1546f89eb1f48f05a03914090769af1a72edcb895996cd603acf487b07fef514", func := "perigee/perigeelaw6.SchedulesInTime", spec := "schedulesInTime", inPlace := ["slices.overlaps[perigee/api.Entry]"], unfollowed := true, recurses := true, apart := false }
def SchedulesInTimeSaid : Prop := schedulesInTimeRow.holds Try.pinned (OpenSpec.ofChange schedulesInTimeSpec)

/-- ITS FALSE NEIGHBOUR: 'it returns false'. Refute it at one input. -/
def schedulesInTimeWrong : ChangeSpec := { name := "schedulesInTime", fn := fun _ => fun
  | [d1, d2, d3, d4] => { results := [.lit (.bool false)], args := [d1, d2, d3, d4] }
  | _ => none }
def SchedulesInTimeWrongFalsely : Prop := schedulesInTimeRow.holds Try.pinned (OpenSpec.ofChange schedulesInTimeWrong)

/-- 'perigeelaw6.SchedulesRefusedDoNothing': WHATEVER THE INPUT: true; the input reads as it did. -/
def schedulesRefusedDoNothingSpec : ChangeSpec := { name := "schedulesRefusedDoNothing", fn := fun _ => fun
  | [d1, d2, d3, d4, d5, d6] => { results := [.lit (.bool true)], args := [d1, d2, d3, d4, d5, d6] }
  | _ => none }
def schedulesRefusedDoNothingRow : OpenClaim := { program := "ytaegjihmpgdfcaa", sum := "1546f89eb1f48f05a03914090769af1a72edcb895996cd603acf487b07fef514", func := "perigee/perigeelaw6.SchedulesRefusedDoNothing", spec := "schedulesRefusedDoNothing", inPlace := ["slices.overlaps[perigee/api.Entry]"], unfollowed := true, recurses := true, apart := false }
def SchedulesRefusedDoNothingSaid : Prop := schedulesRefusedDoNothingRow.holds Try.pinned (OpenSpec.ofChange schedulesRefusedDoNothingSpec)

/-- ITS FALSE NEIGHBOUR: 'it returns false'. Refute it at one input. -/
def schedulesRefusedDoNothingWrong : ChangeSpec := { name := "schedulesRefusedDoNothing", fn := fun _ => fun
  | [d1, d2, d3, d4, d5, d6] => { results := [.lit (.bool false)], args := [d1, d2, d3, d4, d5, d6] }
  | _ => none }
def SchedulesRefusedDoNothingWrongFalsely : Prop := schedulesRefusedDoNothingRow.holds Try.pinned (OpenSpec.ofChange schedulesRefusedDoNothingWrong)

/-- 'perigeelaw6.SchedulesGoOn': WHATEVER THE INPUT: true; the input reads as it did. -/
def schedulesGoOnSpec : ChangeSpec := { name := "schedulesGoOn", fn := fun _ => fun
  | [d1, d2, d3, d4, d5, d6] => { results := [.lit (.bool true)], args := [d1, d2, d3, d4, d5, d6] }
  | _ => none }
def schedulesGoOnRow : OpenClaim := { program := "ytaegjihmpgdfcaa", sum := "1546f89eb1f48f05a03914090769af1a72edcb895996cd603acf487b07fef514", func := "perigee/perigeelaw6.SchedulesGoOn", spec := "schedulesGoOn", inPlace := ["slices.overlaps[perigee/api.Entry]"], unfollowed := true, recurses := true, apart := false }
def SchedulesGoOnSaid : Prop := schedulesGoOnRow.holds Try.pinned (OpenSpec.ofChange schedulesGoOnSpec)

/-- ITS FALSE NEIGHBOUR: 'it returns false'. Refute it at one input. -/
def schedulesGoOnWrong : ChangeSpec := { name := "schedulesGoOn", fn := fun _ => fun
  | [d1, d2, d3, d4, d5, d6] => { results := [.lit (.bool false)], args := [d1, d2, d3, d4, d5, d6] }
  | _ => none }
def SchedulesGoOnWrongFalsely : Prop := schedulesGoOnRow.holds Try.pinned (OpenSpec.ofChange schedulesGoOnWrong)

/-- 'perigeetop.TopPlansAreSchedules': WHATEVER THE INPUT: true; the input reads as it did. -/
def topPlansAreSchedulesSpec : ChangeSpec := { name := "topPlansAreSchedules", fn := fun _ => fun
  | [d1, d2, d3, d4] => { results := [.lit (.bool true)], args := [d1, d2, d3, d4] }
  | _ => none }
def topPlansAreSchedulesRow : OpenClaim := { program := "ytaegjihmpgdfcaa", sum := "1546f89eb1f48f05a03914090769af1a72edcb895996cd603acf487b07fef514", func := "perigee/perigeetop.TopPlansAreSchedules", spec := "topPlansAreSchedules", inPlace := ["internal/bytealg.abigen_runtime_cmpstring", "slices.overlaps[perigee/api.Entry]"], unfollowed := true, recurses := true, apart := false }
def TopPlansAreSchedulesSaid : Prop := topPlansAreSchedulesRow.holds Try.pinned (OpenSpec.ofChange topPlansAreSchedulesSpec)

/-- ITS FALSE NEIGHBOUR: 'it returns false'. Refute it at one input. -/
def topPlansAreSchedulesWrong : ChangeSpec := { name := "topPlansAreSchedules", fn := fun _ => fun
  | [d1, d2, d3, d4] => { results := [.lit (.bool false)], args := [d1, d2, d3, d4] }
  | _ => none }
def TopPlansAreSchedulesWrongFalsely : Prop := topPlansAreSchedulesRow.holds Try.pinned (OpenSpec.ofChange topPlansAreSchedulesWrong)

/-- 'perigeetop.TopAlarmsAreFacts': WHATEVER THE INPUT: true; the input reads as it did. -/
def topAlarmsAreFactsSpec : ChangeSpec := { name := "topAlarmsAreFacts", fn := fun _ => fun
  | [d1, d2, d3] => { results := [.lit (.bool true)], args := [d1, d2, d3] }
  | _ => none }
def topAlarmsAreFactsRow : OpenClaim := { program := "ytaegjihmpgdfcaa", sum := "1546f89eb1f48f05a03914090769af1a72edcb895996cd603acf487b07fef514", func := "perigee/perigeetop.TopAlarmsAreFacts", spec := "topAlarmsAreFacts", inPlace := ["slices.overlaps[perigee/api.Entry]"], unfollowed := true, recurses := true, apart := false }
def TopAlarmsAreFactsSaid : Prop := topAlarmsAreFactsRow.holds Try.pinned (OpenSpec.ofChange topAlarmsAreFactsSpec)

/-- ITS FALSE NEIGHBOUR: 'it returns false'. Refute it at one input. -/
def topAlarmsAreFactsWrong : ChangeSpec := { name := "topAlarmsAreFacts", fn := fun _ => fun
  | [d1, d2, d3] => { results := [.lit (.bool false)], args := [d1, d2, d3] }
  | _ => none }
def TopAlarmsAreFactsWrongFalsely : Prop := topAlarmsAreFactsRow.holds Try.pinned (OpenSpec.ofChange topAlarmsAreFactsWrong)

/- THE SECOND FORM. 'bulk': how many values and letters a reading holds, each counted each time it is reached (what is shared counts as often as it is met; a slice's spare places count too). A statement '..UptoSaid' is the law's where the arguments, and the package variables that the reading takes, are together of bulk at most 1048576: NARROWER than '..Said'. Prove '..Said' where nothing that the law and all that it calls make is longer than what came in: it says more and counts as full. Else prove '..UptoSaid'. A law counts once. -/
mutual
def uptoBulk {H : Type} : DataW H → Nat
  | .lit (.string bytes) => bytes.length + 1
  | .lit _ => 1
  | .nil => 1
  | .ptr d => uptoBulk d + 1
  | .slice elems spare => uptoBulkAll elems + uptoBulkAll spare + 1
  | .agg parts => uptoBulkAll parts + 1
  | .iface _ d => uptoBulk d + 1
  | .map entries => uptoBulkEntries entries + 1
  | .held _ => 1
def uptoBulkAll {H : Type} : List (DataW H) → Nat
  | [] => 0
  | d :: r => uptoBulk d + uptoBulkAll r
def uptoBulkEntries {H : Type} : List (Lit × DataW H) → Nat
  | [] => 0
  | x :: r => uptoBulkEntry x + uptoBulkEntries r
def uptoBulkEntry {H : Type} : Lit × DataW H → Nat
  | (.string bytes, d) => bytes.length + uptoBulk d + 1
  | (_, d) => uptoBulk d + 1
 end
def uptoSmall : (H : Type) → List (DataW H) → Bool := fun _ ds => decide (uptoBulkAll ds ≤ 1048576)
def OpenSpec.upto (s : _root_.Go.ChangeSpec) : _root_.Go.OpenSpec := { _root_.Go.OpenSpec.ofChange s with cond := some uptoSmall }

/-- 'perigeelaw6.ProcsMatchSpec', WHERE WHAT IT READS IS OF BULK AT MOST 1048576: true; the input reads as it did. -/
def procsMatchSpecUptoRow : OpenClaim := { program := "ytaegjihmpgdfcaa", sum := "1546f89eb1f48f05a03914090769af1a72edcb895996cd603acf487b07fef514", func := "perigee/perigeelaw6.ProcsMatchSpec", spec := "procsMatchSpec", unfollowed := true, recurses := true, apart := false, narrowed := true }
def ProcsMatchSpecUptoSaid : Prop := procsMatchSpecUptoRow.holds Try.pinned (OpenSpec.upto procsMatchSpecSpec)

/-- 'perigeelaw6.ProcsPlacesAreRight', WHERE WHAT IT READS IS OF BULK AT MOST 1048576: true; the input reads as it did. -/
def procsPlacesAreRightUptoRow : OpenClaim := { program := "ytaegjihmpgdfcaa", sum := "1546f89eb1f48f05a03914090769af1a72edcb895996cd603acf487b07fef514", func := "perigee/perigeelaw6.ProcsPlacesAreRight", spec := "procsPlacesAreRight", unfollowed := true, recurses := true, apart := false, narrowed := true }
def ProcsPlacesAreRightUptoSaid : Prop := procsPlacesAreRightUptoRow.holds Try.pinned (OpenSpec.upto procsPlacesAreRightSpec)

/-- 'perigeelaw6.ProcsGoMatchSpec', WHERE WHAT IT READS IS OF BULK AT MOST 1048576: true; the input reads as it did. -/
def procsGoMatchSpecUptoRow : OpenClaim := { program := "ytaegjihmpgdfcaa", sum := "1546f89eb1f48f05a03914090769af1a72edcb895996cd603acf487b07fef514", func := "perigee/perigeelaw6.ProcsGoMatchSpec", spec := "procsGoMatchSpec", unfollowed := true, recurses := true, apart := false, narrowed := true }
def ProcsGoMatchSpecUptoSaid : Prop := procsGoMatchSpecUptoRow.holds Try.pinned (OpenSpec.upto procsGoMatchSpecSpec)

/-- 'perigeelaw6.ProcsGoOn', WHERE WHAT IT READS IS OF BULK AT MOST 1048576: true; the input reads as it did. -/
def procsGoOnUptoRow : OpenClaim := { program := "ytaegjihmpgdfcaa", sum := "1546f89eb1f48f05a03914090769af1a72edcb895996cd603acf487b07fef514", func := "perigee/perigeelaw6.ProcsGoOn", spec := "procsGoOn", unfollowed := true, recurses := true, apart := false, narrowed := true }
def ProcsGoOnUptoSaid : Prop := procsGoOnUptoRow.holds Try.pinned (OpenSpec.upto procsGoOnSpec)

/-- 'perigeelaw6.EntriesPutAndDropped', WHERE WHAT IT READS IS OF BULK AT MOST 1048576: true; the input reads as it did. -/
def entriesPutAndDroppedUptoRow : OpenClaim := { program := "ytaegjihmpgdfcaa", sum := "1546f89eb1f48f05a03914090769af1a72edcb895996cd603acf487b07fef514", func := "perigee/perigeelaw6.EntriesPutAndDropped", spec := "entriesPutAndDropped", inPlace := ["slices.overlaps[perigee/api.Entry]"], unfollowed := true, recurses := true, apart := false, narrowed := true }
def EntriesPutAndDroppedUptoSaid : Prop := entriesPutAndDroppedUptoRow.holds Try.pinned (OpenSpec.upto entriesPutAndDroppedSpec)

/-- 'perigeelaw6.EntriesMatchSpec', WHERE WHAT IT READS IS OF BULK AT MOST 1048576: true; the input reads as it did. -/
def entriesMatchSpecUptoRow : OpenClaim := { program := "ytaegjihmpgdfcaa", sum := "1546f89eb1f48f05a03914090769af1a72edcb895996cd603acf487b07fef514", func := "perigee/perigeelaw6.EntriesMatchSpec", spec := "entriesMatchSpec", inPlace := ["slices.overlaps[perigee/api.Entry]"], unfollowed := true, recurses := true, apart := false, narrowed := true }
def EntriesMatchSpecUptoSaid : Prop := entriesMatchSpecUptoRow.holds Try.pinned (OpenSpec.upto entriesMatchSpecSpec)

/-- 'perigeelaw6.EntriesShiftMatchSpec', WHERE WHAT IT READS IS OF BULK AT MOST 1048576: true; the input reads as it did. -/
def entriesShiftMatchSpecUptoRow : OpenClaim := { program := "ytaegjihmpgdfcaa", sum := "1546f89eb1f48f05a03914090769af1a72edcb895996cd603acf487b07fef514", func := "perigee/perigeelaw6.EntriesShiftMatchSpec", spec := "entriesShiftMatchSpec", unfollowed := true, recurses := true, apart := false, narrowed := true }
def EntriesShiftMatchSpecUptoSaid : Prop := entriesShiftMatchSpecUptoRow.holds Try.pinned (OpenSpec.upto entriesShiftMatchSpecSpec)

/-- 'perigeelaw6.EntriesShiftBack', WHERE WHAT IT READS IS OF BULK AT MOST 1048576: true; the input reads as it did. -/
def entriesShiftBackUptoRow : OpenClaim := { program := "ytaegjihmpgdfcaa", sum := "1546f89eb1f48f05a03914090769af1a72edcb895996cd603acf487b07fef514", func := "perigee/perigeelaw6.EntriesShiftBack", spec := "entriesShiftBack", unfollowed := true, recurses := true, apart := false, narrowed := true }
def EntriesShiftBackUptoSaid : Prop := entriesShiftBackUptoRow.holds Try.pinned (OpenSpec.upto entriesShiftBackSpec)

/-- 'perigeelaw6.SchedulesDoOnce', WHERE WHAT IT READS IS OF BULK AT MOST 1048576: true; the input reads as it did. -/
def schedulesDoOnceUptoRow : OpenClaim := { program := "ytaegjihmpgdfcaa", sum := "1546f89eb1f48f05a03914090769af1a72edcb895996cd603acf487b07fef514", func := "perigee/perigeelaw6.SchedulesDoOnce", spec := "schedulesDoOnce", inPlace := ["slices.overlaps[perigee/api.Entry]"], unfollowed := true, recurses := true, apart := false, narrowed := true }
def SchedulesDoOnceUptoSaid : Prop := schedulesDoOnceUptoRow.holds Try.pinned (OpenSpec.upto schedulesDoOnceSpec)

/-- 'perigeelaw6.SchedulesInTime', WHERE WHAT IT READS IS OF BULK AT MOST 1048576: true; the input reads as it did. -/
def schedulesInTimeUptoRow : OpenClaim := { program := "ytaegjihmpgdfcaa", sum := "1546f89eb1f48f05a03914090769af1a72edcb895996cd603acf487b07fef514", func := "perigee/perigeelaw6.SchedulesInTime", spec := "schedulesInTime", inPlace := ["slices.overlaps[perigee/api.Entry]"], unfollowed := true, recurses := true, apart := false, narrowed := true }
def SchedulesInTimeUptoSaid : Prop := schedulesInTimeUptoRow.holds Try.pinned (OpenSpec.upto schedulesInTimeSpec)

/-- 'perigeelaw6.SchedulesRefusedDoNothing', WHERE WHAT IT READS IS OF BULK AT MOST 1048576: true; the input reads as it did. -/
def schedulesRefusedDoNothingUptoRow : OpenClaim := { program := "ytaegjihmpgdfcaa", sum := "1546f89eb1f48f05a03914090769af1a72edcb895996cd603acf487b07fef514", func := "perigee/perigeelaw6.SchedulesRefusedDoNothing", spec := "schedulesRefusedDoNothing", inPlace := ["slices.overlaps[perigee/api.Entry]"], unfollowed := true, recurses := true, apart := false, narrowed := true }
def SchedulesRefusedDoNothingUptoSaid : Prop := schedulesRefusedDoNothingUptoRow.holds Try.pinned (OpenSpec.upto schedulesRefusedDoNothingSpec)

/-- 'perigeelaw6.SchedulesGoOn', WHERE WHAT IT READS IS OF BULK AT MOST 1048576: true; the input reads as it did. -/
def schedulesGoOnUptoRow : OpenClaim := { program := "ytaegjihmpgdfcaa", sum := "1546f89eb1f48f05a03914090769af1a72edcb895996cd603acf487b07fef514", func := "perigee/perigeelaw6.SchedulesGoOn", spec := "schedulesGoOn", inPlace := ["slices.overlaps[perigee/api.Entry]"], unfollowed := true, recurses := true, apart := false, narrowed := true }
def SchedulesGoOnUptoSaid : Prop := schedulesGoOnUptoRow.holds Try.pinned (OpenSpec.upto schedulesGoOnSpec)

/-- 'perigeetop.TopPlansAreSchedules', WHERE WHAT IT READS IS OF BULK AT MOST 1048576: true; the input reads as it did. -/
def topPlansAreSchedulesUptoRow : OpenClaim := { program := "ytaegjihmpgdfcaa", sum := "1546f89eb1f48f05a03914090769af1a72edcb895996cd603acf487b07fef514", func := "perigee/perigeetop.TopPlansAreSchedules", spec := "topPlansAreSchedules", inPlace := ["internal/bytealg.abigen_runtime_cmpstring", "slices.overlaps[perigee/api.Entry]"], unfollowed := true, recurses := true, apart := false, narrowed := true }
def TopPlansAreSchedulesUptoSaid : Prop := topPlansAreSchedulesUptoRow.holds Try.pinned (OpenSpec.upto topPlansAreSchedulesSpec)

/-- 'perigeetop.TopAlarmsAreFacts', WHERE WHAT IT READS IS OF BULK AT MOST 1048576: true; the input reads as it did. -/
def topAlarmsAreFactsUptoRow : OpenClaim := { program := "ytaegjihmpgdfcaa", sum := "1546f89eb1f48f05a03914090769af1a72edcb895996cd603acf487b07fef514", func := "perigee/perigeetop.TopAlarmsAreFacts", spec := "topAlarmsAreFacts", inPlace := ["slices.overlaps[perigee/api.Entry]"], unfollowed := true, recurses := true, apart := false, narrowed := true }
def TopAlarmsAreFactsUptoSaid : Prop := topAlarmsAreFactsUptoRow.holds Try.pinned (OpenSpec.upto topAlarmsAreFactsSpec)

end Rows
end Go.Proofs.Ytaegjihmpgdfcaa
