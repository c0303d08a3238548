/- The small commands of slices.Concat. -/
import Derived.Test.YtaegjihmpgdfcaaP6E
set_option linter.unusedVariables false
set_option linter.unusedSimpArgs false
namespace Go.Proofs.P6
open Go.Ex
/-- Grow shares. -/
def shG (f : Nat) : Bool := [76].contains f
def k28_0 : Cmd := (.block 1 (.seq (.reg false [⟨(some 13), none, (.iaddr (.t 9) (.t 11) 1), []⟩, ⟨(some 14), none, (.ld (.t 13) none), []⟩, ⟨(some 5), none, (.mov (.t 14)), []⟩]) (.seq (.reg false [⟨(some 15), none, (.mov (.t 3)), []⟩, ⟨(some 16), none, (.mov (.t 5)), []⟩, ⟨(some 17), none, (.len false (.t 16)), []⟩, ⟨(some 18), none, (.bin .add (.t 15) (.t 17)), []⟩, ⟨(some 3), none, (.mov (.t 18)), []⟩]) (.seq (.reg false [⟨(some 19), none, (.mov (.t 3)), []⟩, ⟨(some 20), none, (.bin .lss (.t 19) (.c (.int .i64 0))), []⟩]) (.cond (.t 20) (.reg false [⟨(some 21), none, .never, []⟩, ⟨none, none, .never, []⟩]) .skip)))))
abbrev l28_0 : Cmd := cnt 0 12 11 10 22 k28_0
def k28_1 : Cmd := (.block 3 (.seq (.reg false [⟨(some 29), none, (.iaddr (.t 25) (.t 27) 1), []⟩, ⟨(some 30), none, (.ld (.t 29) none), []⟩, ⟨(some 8), none, (.mov (.t 30)), []⟩]) (.reg false [⟨(some 31), none, (.mov (.t 6)), []⟩, ⟨(some 32), none, (.mov (.t 8)), []⟩, ⟨(some 33), none, (.app 2 24 (.t 31) (.t 32)), []⟩, ⟨(some 6), none, (.mov (.t 33)), []⟩])))
abbrev l28_1 : Cmd := cnt 2 28 27 26 34 k28_1
def c28 : Cmd := (.seq (.reg false [⟨(some 2), none, (.mov (.c .ns)), []⟩]) (.seq (.reg false [⟨(some 3), none, (.mov (.c (.int .i64 0))), []⟩]) (.seq (.seq (.reg false [⟨(some 9), none, (.mov (.t 0)), []⟩, ⟨(some 10), none, (.len false (.t 9)), []⟩, ⟨(some 11), none, (.mov (.c (.int .i64 0))), []⟩]) (.block 0 (.loop l28_0))) (.seq (.reg false [⟨(some 23), none, (.mov (.t 3)), []⟩, ⟨(some 24), none, (.shr 76 [(.c .ns), (.t 23)]), []⟩, ⟨(some 6), none, (.mov (.t 24)), []⟩]) (.seq (.seq (.reg false [⟨(some 25), none, (.mov (.t 0)), []⟩, ⟨(some 26), none, (.len false (.t 25)), []⟩, ⟨(some 27), none, (.mov (.c (.int .i64 0))), []⟩]) (.block 2 (.loop l28_1))) (.seq (.reg false [⟨(some 35), none, (.mov (.t 6)), []⟩, ⟨(some 2), none, (.mov (.t 35)), []⟩]) .ret))))))
theorem h28 : compF Try.prog shG 28 = some (c28, [2], 36) := by kernel_rfl
end Go.Proofs.P6
