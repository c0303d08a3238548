/- The small commands of schedules' entries; Entries: their order, their groups, their check; of both sides; CheckEntries of both sides; Entries put and dropped, by the reference; Put and Drop of the reference; Entries by Id, and by time, in the program; Where an entry is put, by halving; Where an entry is put: halving and counting down agree on a right schedule; plain Lean; The small commands of the laws of entries. -/
import Derived.Test.YtaegjihmpgdfcaaB2
import Derived.Test.YtaegjihmpgdfcaaExV
import Derived.Test.YtaegjihmpgdfcaaExX
section
set_option linter.unusedVariables false
set_option linter.unusedSimpArgs false
namespace Go.Proofs.P6
open Go.Ex
def k31_0 : Cmd := (.block 1 (.seq (.reg false [⟨(some 15), none, (.mov (.t 13)), []⟩, ⟨(some 16), none, (.iaddr (.t 11) (.t 13) 6), []⟩, ⟨(some 17), none, (.ld (.t 16) (some 6)), []⟩, ⟨(some 5), none, (.alloc [(.int .i64 0), (.int .i64 0), (.str []), (.str []), (.str []), (.bool false)]), []⟩, ⟨(some 4), none, (.mov (.t 15)), []⟩, ⟨none, none, (.st (.t 5) (.t 17) 6), []⟩]) (.seq (.seq (.reg false [⟨(some 18), none, (.ld (.t 5) (some 6)), []⟩, ⟨(some 19), none, (.call 77 [(.t 18)]), []⟩, ⟨(some 6), none, (.mov (.t 19)), []⟩]) (.seq (.reg false [⟨(some 20), none, (.mov (.t 6)), []⟩, ⟨(some 21), none, (.bin .neq (.t 20) (.c (.int .i64 0))), []⟩]) (.cond (.t 21) (.seq (.reg false [⟨(some 22), none, (.mov (.t 6)), []⟩, ⟨(some 2), none, (.mov (.t 22)), []⟩]) .ret) .skip))) (.seq (.seq (.reg true [⟨(some 23), none, (.mov (.t 4)), []⟩, ⟨(some 24), none, (.bin .gtr (.t 23) (.c (.int .i64 0))), []⟩, ⟨(some 25), none, (.mov (.t 24)), []⟩, ⟨(some 26), (some (25, true)), (.mov (.t 0)), []⟩, ⟨(some 27), (some (25, true)), (.mov (.t 4)), []⟩, ⟨(some 28), (some (25, true)), (.bin .sub (.t 27) (.c (.int .i64 1))), []⟩, ⟨(some 29), (some (25, true)), (.iaddr (.t 26) (.t 28) 6), []⟩, ⟨(some 30), (some (25, true)), (.ld (.t 29) (some 6)), []⟩, ⟨(some 31), (some (25, true)), (.ld (.t 5) (some 6)), []⟩, ⟨(some 32), (some (25, true)), (.call 80 [(.t 30), (.t 31)]), []⟩, ⟨(some 33), (some (25, true)), (.bin .geq (.t 32) (.c (.int .i64 0))), []⟩, ⟨(some 34), none, (.pick (.t 25) (.t 33) (.c (.bool false))), []⟩]) (.cond (.t 34) (.seq (.reg false [⟨(some 2), none, (.mov (.c (.int .i64 8))), []⟩]) .ret) .skip)) (.reg false [⟨(some 35), none, (.mov (.t 3)), []⟩, ⟨(some 36), none, (.faddr (.t 5) 0), []⟩, ⟨(some 37), none, (.ld (.t 36) none), []⟩, ⟨none, none, (.mset (some .i64) (.t 35) (.t 37) (.c (.bool true))), []⟩])))))
abbrev l31_0 : Cmd := cnt 0 14 13 12 38 k31_0
def c31 : Cmd := (.seq (.reg false [⟨(some 2), none, (.mov (.c (.int .i64 0))), []⟩]) (.seq (.seq (.reg false [⟨(some 7), none, (.mov (.t 0)), []⟩, ⟨(some 8), none, (.len false (.t 7)), []⟩, ⟨(some 9), none, (.bin .gtr (.t 8) (.c (.int .i64 1000))), []⟩]) (.cond (.t 9) (.seq (.reg false [⟨(some 2), none, (.mov (.c (.int .i64 2))), []⟩]) .ret) .skip)) (.seq (.reg false [⟨(some 10), none, .mnew, []⟩, ⟨(some 3), none, (.mov (.t 10)), []⟩]) (.seq (.seq (.reg false [⟨(some 11), none, (.mov (.t 0)), []⟩, ⟨(some 12), none, (.len false (.t 11)), []⟩, ⟨(some 13), none, (.mov (.c (.int .i64 0))), []⟩]) (.block 0 (.loop l31_0))) (.seq (.block 2 (.seq (.reg false [⟨(some 40), none, (.mov (.t 3)), []⟩, ⟨(some 41), none, (.mlen (.t 40)), []⟩, ⟨(some 42), none, (.mov (.t 0)), []⟩, ⟨(some 43), none, (.len false (.t 42)), []⟩, ⟨(some 44), none, (.bin .lss (.t 41) (.t 43)), []⟩, ⟨(some 39), none, (.mov (.t 44)), []⟩]) (.cond (.t 39) (.seq (.reg false [⟨(some 2), none, (.mov (.c (.int .i64 7))), []⟩]) .ret) (.seq (.reg false [⟨(some 46), none, (.mov (.t 0)), []⟩, ⟨(some 47), none, (.call 81 [(.t 46)]), []⟩, ⟨(some 45), none, (.mov (.t 47)), []⟩]) (.cond (.t 45) (.seq (.reg false [⟨(some 2), none, (.mov (.c (.int .i64 2))), []⟩]) .ret) .skip))))) (.seq (.reg false [⟨(some 2), none, (.mov (.c (.int .i64 0))), []⟩]) .ret))))))
theorem h31 : compF Try.prog sh 31 = some (c31, [2], 48) := by kernel_rfl
def c80 : Cmd := (.seq (.reg false [⟨(some 2), none, (.box (.t 0)), []⟩, ⟨(some 3), none, (.box (.t 1)), []⟩, ⟨(some 4), none, (.mov (.c (.int .i64 0))), []⟩]) (.seq (.reg true [⟨(some 5), none, (.faddr (.t 2) 1), []⟩, ⟨(some 6), none, (.ld (.t 5) none), []⟩, ⟨(some 7), none, (.faddr (.t 3) 1), []⟩, ⟨(some 8), none, (.ld (.t 7) none), []⟩, ⟨(some 9), none, (.call 135 [(.t 6), (.t 8)]), []⟩, ⟨(some 10), none, (.faddr (.t 2) 0), []⟩, ⟨(some 11), none, (.ld (.t 10) none), [4]⟩, ⟨(some 12), none, (.faddr (.t 3) 0), []⟩, ⟨(some 13), none, (.ld (.t 12) none), [4]⟩, ⟨(some 14), none, (.call 135 [(.t 11), (.t 13)]), []⟩, ⟨(some 15), none, (.bs 2 1 [(.int .i64 0)] [(0, (.t 9)), (1, (.t 14))]), []⟩, ⟨(some 16), none, (.call 134 [(.t 15)]), []⟩, ⟨(some 4), none, (.mov (.t 16)), []⟩]) .ret))
theorem h80 : compF Try.prog sh 80 = some (c80, [4], 17) := by kernel_rfl
def k81_0 : Cmd := (.block 1 (.seq (.reg false [⟨(some 11), none, (.iaddr (.t 7) (.t 9) 6), []⟩, ⟨(some 12), none, (.ld (.t 11) (some 6)), []⟩, ⟨(some 5), none, (.alloc [(.int .i64 0), (.int .i64 0), (.str []), (.str []), (.str []), (.bool false)]), []⟩, ⟨none, none, (.st (.t 5) (.t 12) 6), []⟩]) (.seq (.reg false [⟨(some 13), none, (.faddr (.t 5) 3), []⟩, ⟨(some 14), none, (.ld (.t 13) none), []⟩, ⟨(some 15), none, (.bin .neq (.t 14) (.c (.str []))), []⟩]) (.cond (.t 15) (.reg false [⟨(some 16), none, (.mov (.t 3)), []⟩, ⟨(some 17), none, (.faddr (.t 5) 3), []⟩, ⟨(some 18), none, (.ld (.t 17) none), []⟩, ⟨none, none, (.mset none (.t 16) (.t 18) (.c (.bool true))), []⟩]) .skip))))
abbrev l81_0 : Cmd := cnt 0 10 9 8 19 k81_0
def c81 : Cmd := (.seq (.reg false [⟨(some 2), none, (.mov (.c (.bool false))), []⟩]) (.seq (.reg false [⟨(some 6), none, .mnew, []⟩, ⟨(some 3), none, (.mov (.t 6)), []⟩]) (.seq (.seq (.reg false [⟨(some 7), none, (.mov (.t 0)), []⟩, ⟨(some 8), none, (.len false (.t 7)), []⟩, ⟨(some 9), none, (.mov (.c (.int .i64 0))), []⟩]) (.block 0 (.loop l81_0))) (.seq (.reg false [⟨(some 20), none, (.mov (.t 3)), []⟩, ⟨(some 21), none, (.mlen (.t 20)), []⟩, ⟨(some 22), none, (.bin .gtr (.t 21) (.c (.int .i64 50))), []⟩, ⟨(some 2), none, (.mov (.t 22)), []⟩]) .ret))))
theorem h81 : compF Try.prog sh 81 = some (c81, [2], 23) := by kernel_rfl
def k134_0 : Cmd := (.block 1 (.seq (.reg false [⟨(some 10), none, (.iaddr (.t 6) (.t 8) 1), []⟩, ⟨(some 11), none, (.ld (.t 10) none), []⟩, ⟨(some 5), none, (.mov (.t 11)), []⟩]) (.seq (.reg false [⟨(some 12), none, (.mov (.t 5)), []⟩, ⟨(some 13), none, (.mov (.t 3)), []⟩, ⟨(some 14), none, (.bin .neq (.t 12) (.t 13)), []⟩]) (.cond (.t 14) (.seq (.reg false [⟨(some 15), none, (.mov (.t 5)), []⟩, ⟨(some 2), none, (.mov (.t 15)), []⟩]) .ret) .skip))))
abbrev l134_0 : Cmd := cnt 0 9 8 7 16 k134_0
def c134 : Cmd := (.seq (.reg false [⟨(some 2), none, (.mov (.c (.int .i64 0))), []⟩]) (.seq (.reg false [⟨(some 3), none, (.mov (.c (.int .i64 0))), []⟩]) (.seq (.seq (.reg false [⟨(some 6), none, (.mov (.t 0)), []⟩, ⟨(some 7), none, (.len false (.t 6)), []⟩, ⟨(some 8), none, (.mov (.c (.int .i64 0))), []⟩]) (.block 0 (.loop l134_0))) (.seq (.reg false [⟨(some 17), none, (.mov (.t 3)), []⟩, ⟨(some 2), none, (.mov (.t 17)), []⟩]) .ret))))
theorem h134 : compF Try.prog sh 134 = some (c134, [2], 18) := by kernel_rfl
def c135 : Cmd := (.seq (.reg false [⟨(some 4), none, (.mov (.c (.int .i64 0))), []⟩]) (.seq (.reg false [⟨(some 7), none, (.mov (.t 0)), []⟩, ⟨(some 8), none, (.call 166 [(.t 7)]), []⟩, ⟨(some 5), none, (.mov (.t 8)), []⟩]) (.seq (.reg false [⟨(some 9), none, (.mov (.t 1)), []⟩, ⟨(some 10), none, (.call 166 [(.t 9)]), []⟩, ⟨(some 6), none, (.mov (.t 10)), []⟩]) (.seq (.seq (.reg false [⟨(some 11), none, (.mov (.t 5)), []⟩]) (.cond (.t 11) (.seq (.seq (.reg false [⟨(some 12), none, (.mov (.t 6)), []⟩]) (.cond (.t 12) (.seq (.reg false [⟨(some 4), none, (.mov (.c (.int .i64 0))), []⟩]) .ret) .skip)) (.seq (.reg false [⟨(some 4), none, (.mov (.c (.int .i64 (-1)))), []⟩]) .ret)) .skip)) (.seq (.seq (.reg false [⟨(some 13), none, (.mov (.t 6)), []⟩]) (.cond (.t 13) (.seq (.reg false [⟨(some 4), none, (.mov (.c (.int .i64 1))), []⟩]) .ret) .skip)) (.seq (.seq (.reg false [⟨(some 14), none, (.mov (.t 0)), []⟩, ⟨(some 15), none, (.mov (.t 1)), []⟩, ⟨(some 16), none, (.bin .lss (.t 14) (.t 15)), []⟩]) (.cond (.t 16) (.seq (.reg false [⟨(some 4), none, (.mov (.c (.int .i64 (-1)))), []⟩]) .ret) .skip)) (.seq (.seq (.reg false [⟨(some 17), none, (.mov (.t 0)), []⟩, ⟨(some 18), none, (.mov (.t 1)), []⟩, ⟨(some 19), none, (.bin .gtr (.t 17) (.t 18)), []⟩]) (.cond (.t 19) (.seq (.reg false [⟨(some 4), none, (.mov (.c (.int .i64 1))), []⟩]) .ret) .skip)) (.seq (.reg false [⟨(some 4), none, (.mov (.c (.int .i64 0))), []⟩]) .ret))))))))
theorem h135 : compF Try.prog sh 135 = some (c135, [4], 20) := by kernel_rfl
def c166 : Cmd := (.seq (.reg false [⟨(some 2), none, (.mov (.c (.bool false))), []⟩]) (.seq (.reg false [⟨(some 3), none, (.mov (.t 0)), []⟩, ⟨(some 4), none, (.mov (.t 0)), []⟩, ⟨(some 5), none, (.bin .neq (.t 3) (.t 4)), []⟩, ⟨(some 2), none, (.mov (.t 5)), []⟩]) .ret))
theorem h166 : compF Try.prog sh 166 = some (c166, [2], 6) := by kernel_rfl
def c29 : Cmd := (.seq (.reg false [⟨(some 3), none, (.box (.t 1)), []⟩, ⟨(some 4), none, (.mov (.c .ns)), []⟩, ⟨(some 5), none, (.mov (.c (.int .i64 0))), []⟩]) (.seq (.seq (.reg true [⟨(some 7), none, (.mov (.t 0)), []⟩, ⟨(some 8), none, (.call 31 [(.t 7)]), []⟩, ⟨(some 9), none, (.ld (.t 3) (some 6)), [1]⟩, ⟨(some 10), none, (.call 77 [(.t 9)]), []⟩, ⟨(some 11), none, (.bs 2 1 [(.int .i64 0)] [(0, (.t 8)), (1, (.t 10))]), []⟩, ⟨(some 12), none, (.call 67 [(.t 11)]), []⟩, ⟨(some 6), none, (.mov (.t 12)), []⟩]) (.seq (.reg false [⟨(some 13), none, (.mov (.t 6)), []⟩, ⟨(some 14), none, (.bin .neq (.t 13) (.c (.int .i64 0))), []⟩]) (.cond (.t 14) (.seq (.reg false [⟨(some 15), none, (.mov (.t 6)), []⟩, ⟨(some 4), none, (.mov (.c .ns)), []⟩, ⟨(some 5), none, (.mov (.t 15)), []⟩]) .ret) .skip))) (.seq (.reg false [⟨(some 16), none, (.mov (.t 0)), []⟩, ⟨(some 17), none, (.ld (.t 3) (some 6)), []⟩, ⟨(some 18), none, (.call 78 [(.t 16), (.t 17)]), []⟩, ⟨(some 19), none, (.ext (.t 18) 0), []⟩, ⟨(some 20), none, (.ext (.t 18) 1), []⟩, ⟨(some 4), none, (.mov (.t 19)), []⟩, ⟨(some 5), none, (.mov (.t 20)), []⟩]) .ret)))
theorem h29 : compF Try.prog sh 29 = some (c29, [4, 5], 21) := by kernel_rfl
def c78 : Cmd := (.seq (.reg false [⟨(some 3), none, (.box (.t 1)), []⟩, ⟨(some 4), none, (.mov (.c .ns)), []⟩, ⟨(some 5), none, (.mov (.c (.int .i64 0))), []⟩]) (.seq (.seq (.reg false [⟨(some 9), none, (.mov (.t 0)), []⟩, ⟨(some 10), none, (.faddr (.t 3) 0), []⟩, ⟨(some 11), none, (.ld (.t 10) none), []⟩, ⟨(some 12), none, (.call 129 [(.t 9), (.t 11)]), []⟩, ⟨(some 13), none, (.bin .geq (.t 12) (.c (.int .i64 0))), []⟩]) (.cond (.t 13) (.seq (.reg false [⟨(some 4), none, (.mov (.c .ns)), []⟩, ⟨(some 5), none, (.mov (.c (.int .i64 7))), []⟩]) .ret) .skip)) (.seq (.reg false [⟨(some 15), none, (.mov (.t 0)), []⟩, ⟨(some 16), none, (.ld (.t 3) (some 6)), []⟩, ⟨(some 17), none, (.shr 130 [(.t 15), (.t 16), (.c (.fn 80 []))]), []⟩, ⟨(some 14), none, (.mov (.t 17)), []⟩, ⟨(some 18), none, (.ext (.t 14) 0), []⟩, ⟨(some 19), none, (.ext (.t 14) 1), []⟩, ⟨(some 6), none, (.mov (.t 18)), []⟩, ⟨(some 7), none, (.mov (.t 19)), []⟩]) (.seq (.reg true [⟨(some 20), none, (.mov (.t 0)), []⟩, ⟨(some 21), none, (.call 132 [(.t 20)]), []⟩, ⟨(some 22), none, (.mov (.t 6)), []⟩, ⟨(some 23), none, (.ld (.t 3) (some 6)), [1]⟩, ⟨(some 24), none, (.bs 1 6 [(.int .i64 0), (.int .i64 0), (.str []), (.str []), (.str []), (.bool false)] [(0, (.t 23))]), [1]⟩, ⟨(some 25), none, (.shr 131 [(.t 21), (.t 22), (.t 24)]), []⟩, ⟨(some 8), none, (.mov (.t 25)), []⟩]) (.seq (.seq (.reg false [⟨(some 26), none, (.mov (.t 8)), []⟩, ⟨(some 27), none, (.len false (.t 26)), []⟩, ⟨(some 28), none, (.bin .gtr (.t 27) (.c (.int .i64 1000))), []⟩, ⟨(some 29), none, (.mov (.t 28)), []⟩, ⟨(some 30), (some (29, false)), (.mov (.t 8)), []⟩, ⟨(some 31), (some (29, false)), (.call 81 [(.t 30)]), []⟩, ⟨(some 32), none, (.pick (.t 29) (.c (.bool true)) (.t 31)), []⟩]) (.cond (.t 32) (.seq (.reg false [⟨(some 4), none, (.mov (.c .ns)), []⟩, ⟨(some 5), none, (.mov (.c (.int .i64 2))), []⟩]) .ret) .skip)) (.seq (.reg false [⟨(some 33), none, (.mov (.t 8)), []⟩, ⟨(some 4), none, (.mov (.t 33)), []⟩, ⟨(some 5), none, (.mov (.c (.int .i64 0))), []⟩]) .ret))))))
theorem h78 : compF Try.prog sh 78 = some (c78, [4, 5], 34) := by kernel_rfl
def c30 : Cmd := (.seq (.reg false [⟨(some 4), none, (.mov (.c .ns)), []⟩, ⟨(some 5), none, (.mov (.c (.int .i64 0))), []⟩]) (.seq (.seq (.reg false [⟨(some 7), none, (.mov (.t 0)), []⟩, ⟨(some 8), none, (.call 31 [(.t 7)]), []⟩, ⟨(some 6), none, (.mov (.t 8)), []⟩]) (.seq (.reg false [⟨(some 9), none, (.mov (.t 6)), []⟩, ⟨(some 10), none, (.bin .neq (.t 9) (.c (.int .i64 0))), []⟩]) (.cond (.t 10) (.seq (.reg false [⟨(some 11), none, (.mov (.t 6)), []⟩, ⟨(some 4), none, (.mov (.c .ns)), []⟩, ⟨(some 5), none, (.mov (.t 11)), []⟩]) .ret) .skip))) (.seq (.reg false [⟨(some 12), none, (.mov (.t 0)), []⟩, ⟨(some 13), none, (.mov (.t 1)), []⟩, ⟨(some 14), none, (.call 79 [(.t 12), (.t 13)]), []⟩, ⟨(some 15), none, (.ext (.t 14) 0), []⟩, ⟨(some 16), none, (.ext (.t 14) 1), []⟩, ⟨(some 4), none, (.mov (.t 15)), []⟩, ⟨(some 5), none, (.mov (.t 16)), []⟩]) .ret)))
theorem h30 : compF Try.prog sh 30 = some (c30, [4, 5], 17) := by kernel_rfl
def c79 : Cmd := (.seq (.reg false [⟨(some 4), none, (.mov (.c .ns)), []⟩, ⟨(some 5), none, (.mov (.c (.int .i64 0))), []⟩]) (.seq (.reg false [⟨(some 7), none, (.mov (.t 0)), []⟩, ⟨(some 8), none, (.mov (.t 1)), []⟩, ⟨(some 9), none, (.call 129 [(.t 7), (.t 8)]), []⟩, ⟨(some 6), none, (.mov (.t 9)), []⟩]) (.seq (.seq (.reg false [⟨(some 10), none, (.mov (.t 6)), []⟩, ⟨(some 11), none, (.bin .lss (.t 10) (.c (.int .i64 0))), []⟩]) (.cond (.t 11) (.seq (.reg false [⟨(some 4), none, (.mov (.c .ns)), []⟩, ⟨(some 5), none, (.mov (.c (.int .i64 9))), []⟩]) .ret) .skip)) (.seq (.reg false [⟨(some 12), none, (.mov (.t 0)), []⟩, ⟨(some 13), none, (.call 132 [(.t 12)]), []⟩, ⟨(some 14), none, (.mov (.t 6)), []⟩, ⟨(some 15), none, (.mov (.t 6)), []⟩, ⟨(some 16), none, (.bin .add (.t 15) (.c (.int .i64 1))), []⟩, ⟨(some 17), none, (.shr 133 [(.t 13), (.t 14), (.t 16)]), []⟩, ⟨(some 4), none, (.mov (.t 17)), []⟩, ⟨(some 5), none, (.mov (.c (.int .i64 0))), []⟩]) .ret))))
theorem h79 : compF Try.prog sh 79 = some (c79, [4, 5], 18) := by kernel_rfl
def c129 : Cmd := (.seq (.reg false [⟨(some 3), none, (.box (.t 1)), []⟩, ⟨(some 4), none, (.mov (.c (.int .i64 0))), []⟩]) (.seq (.reg false [⟨(some 5), none, (.mov (.t 0)), []⟩, ⟨(some 6), none, (.fnc 163 [(.t 3)]), []⟩, ⟨(some 7), none, (.shr 89 [(.t 5), (.t 6)]), []⟩, ⟨(some 4), none, (.mov (.t 7)), []⟩]) .ret))
theorem h129 : compF Try.prog sh 129 = some (c129, [4], 8) := by kernel_rfl
def c163 : Cmd := (.seq (.reg false [⟨(some 2), none, (.box (.t 0)), []⟩, ⟨(some 3), none, (.mov (.c (.bool false))), []⟩]) (.seq (.reg false [⟨(some 4), none, (.faddr (.t 2) 0), []⟩, ⟨(some 5), none, (.ld (.t 4) none), []⟩, ⟨(some 6), none, (.ld (.t 1) none), []⟩, ⟨(some 7), none, (.bin .eql (.t 5) (.t 6)), []⟩, ⟨(some 3), none, (.mov (.t 7)), []⟩]) .ret))
theorem h163 : compF Try.prog sh 163 = some (c163, [3], 8) := by kernel_rfl
def c39 : Cmd := (.seq (.reg false [⟨(some 6), none, (.mov (.c .ns)), []⟩, ⟨(some 7), none, (.mov (.c (.int .i64 0))), []⟩]) (.seq (.seq (.reg false [⟨(some 9), none, (.mov (.t 0)), []⟩, ⟨(some 10), none, (.call 31 [(.t 9)]), []⟩, ⟨(some 8), none, (.mov (.t 10)), []⟩]) (.seq (.reg false [⟨(some 11), none, (.mov (.t 8)), []⟩, ⟨(some 12), none, (.bin .neq (.t 11) (.c (.int .i64 0))), []⟩]) (.cond (.t 12) (.seq (.reg false [⟨(some 13), none, (.mov (.t 8)), []⟩, ⟨(some 6), none, (.mov (.c .ns)), []⟩, ⟨(some 7), none, (.mov (.t 13)), []⟩]) .ret) .skip))) (.seq (.block 0 (.seq (.reg false [⟨(some 15), none, (.mov (.t 1)), []⟩, ⟨(some 16), none, (.bin .neq (.t 15) (.c (.str []))), []⟩, ⟨(some 17), none, (.mov (.t 16)), []⟩, ⟨(some 18), (some (17, true)), (.mov (.t 1)), []⟩, ⟨(some 19), (some (17, true)), (.call 91 [(.t 18)]), []⟩, ⟨(some 20), (some (17, true)), (.un .not (.t 19)), []⟩, ⟨(some 21), none, (.pick (.t 17) (.t 20) (.c (.bool false))), []⟩, ⟨(some 14), none, (.mov (.t 21)), []⟩]) (.cond (.t 14) (.seq (.reg false [⟨(some 6), none, (.mov (.c .ns)), []⟩, ⟨(some 7), none, (.mov (.c (.int .i64 5))), []⟩]) .ret) (.seq (.reg false [⟨(some 23), none, (.mov (.t 2)), []⟩, ⟨(some 24), none, (.call 64 [(.t 23), (.c (.int .i64 (-1000000000))), (.c (.int .i64 1000000000))]), []⟩, ⟨(some 25), none, (.un .not (.t 24)), []⟩, ⟨(some 22), none, (.mov (.t 25)), []⟩]) (.cond (.t 22) (.seq (.reg false [⟨(some 6), none, (.mov (.c .ns)), []⟩, ⟨(some 7), none, (.mov (.c (.int .i64 1))), []⟩]) .ret) .skip))))) (.seq (.reg false [⟨(some 26), none, (.mov (.t 0)), []⟩, ⟨(some 27), none, (.mov (.t 2)), []⟩, ⟨(some 28), none, (.mov (.t 1)), []⟩, ⟨(some 29), none, (.shr 93 [(.t 28)]), []⟩, ⟨(some 30), none, (.shr 92 [(.t 26), (.t 27), (.t 29)]), []⟩, ⟨(some 31), none, (.ext (.t 30) 0), []⟩, ⟨(some 32), none, (.ext (.t 30) 1), []⟩, ⟨(some 6), none, (.mov (.t 31)), []⟩, ⟨(some 7), none, (.mov (.t 32)), []⟩]) .ret))))
theorem h39 : compF Try.prog sh 39 = some (c39, [6, 7], 33) := by kernel_rfl
def k92_0 : Cmd := (.block 1 (.seq (.reg false [⟨(some 17), none, (.mov (.t 15)), []⟩, ⟨(some 18), none, (.iaddr (.t 13) (.t 15) 6), []⟩, ⟨(some 19), none, (.ld (.t 18) (some 6)), []⟩, ⟨(some 10), none, (.alloc [(.int .i64 0), (.int .i64 0), (.str []), (.str []), (.str []), (.bool false)]), []⟩, ⟨(some 9), none, (.mov (.t 17)), []⟩, ⟨none, none, (.st (.t 10) (.t 19) 6), []⟩]) (.seq (.reg false [⟨(some 20), none, (.mov (.t 2)), []⟩, ⟨(some 21), none, (.ld (.t 10) (some 6)), []⟩, ⟨(some 22), none, (.calv (.t 20) [(.t 21)]), []⟩]) (.cond (.t 22) (.seq (.reg false [⟨(some 23), none, (.mov (.t 8)), []⟩, ⟨(some 24), none, (.mov (.t 9)), []⟩, ⟨(some 25), none, (.iaddr (.t 23) (.t 24) 6), []⟩, ⟨(some 26), none, (.faddr (.t 25) 1), []⟩, ⟨(some 27), none, (.ld (.t 26) none), []⟩, ⟨(some 28), none, (.mov (.t 1)), []⟩, ⟨(some 29), none, (.bin .add (.t 27) (.t 28)), []⟩, ⟨(some 30), none, (.iaddr (.t 23) (.t 24) 6), []⟩, ⟨(some 31), none, (.faddr (.t 30) 1), []⟩, ⟨none, none, (.st (.t 31) (.t 29) 1), []⟩]) (.seq (.reg false [⟨(some 32), none, (.mov (.t 8)), []⟩, ⟨(some 33), none, (.mov (.t 9)), []⟩, ⟨(some 34), none, (.iaddr (.t 32) (.t 33) 6), []⟩, ⟨(some 35), none, (.faddr (.t 34) 1), []⟩, ⟨(some 36), none, (.ld (.t 35) none), []⟩, ⟨(some 37), none, (.call 64 [(.t 36), (.c (.int .i64 0)), (.c (.int .i64 1000000000000))]), []⟩, ⟨(some 38), none, (.un .not (.t 37)), []⟩]) (.cond (.t 38) (.seq (.reg false [⟨(some 6), none, (.mov (.c .ns)), []⟩, ⟨(some 7), none, (.mov (.c (.int .i64 1))), []⟩]) .ret) .skip))) .skip))))
abbrev l92_0 : Cmd := cnt 0 16 15 14 39 k92_0
def c92 : Cmd := (.seq (.reg false [⟨(some 6), none, (.mov (.c .ns)), []⟩, ⟨(some 7), none, (.mov (.c (.int .i64 0))), []⟩]) (.seq (.reg false [⟨(some 11), none, (.mov (.t 0)), []⟩, ⟨(some 12), none, (.call 132 [(.t 11)]), []⟩, ⟨(some 8), none, (.mov (.t 12)), []⟩]) (.seq (.seq (.reg false [⟨(some 13), none, (.mov (.t 8)), []⟩, ⟨(some 14), none, (.len false (.t 13)), []⟩, ⟨(some 15), none, (.mov (.c (.int .i64 0))), []⟩]) (.block 0 (.loop l92_0))) (.seq (.reg false [⟨(some 40), none, (.mov (.t 8)), []⟩, ⟨(some 41), none, (.shr 138 [(.t 40), (.c (.fn 80 []))]), []⟩]) (.seq (.reg false [⟨(some 42), none, (.mov (.t 8)), []⟩, ⟨(some 6), none, (.mov (.t 42)), []⟩, ⟨(some 7), none, (.mov (.c (.int .i64 0))), []⟩]) .ret)))))
theorem h92 : compF Try.prog sh 92 = some (c92, [6, 7], 43) := by kernel_rfl
def c93 : Cmd := (.seq (.reg false [⟨(some 1), none, (.box (.t 0)), []⟩, ⟨(some 2), none, (.mov (.c .junk)), []⟩]) (.seq (.reg false [⟨(some 3), none, (.fnc 139 [(.t 1)]), []⟩, ⟨(some 2), none, (.mov (.t 3)), []⟩]) .ret))
theorem h93 : compF Try.prog sh 93 = some (c93, [2], 4) := by kernel_rfl
def c139 : Cmd := (.seq (.reg false [⟨(some 2), none, (.box (.t 0)), []⟩, ⟨(some 3), none, (.mov (.c (.bool false))), []⟩]) (.seq (.reg false [⟨(some 4), none, (.ld (.t 1) none), []⟩, ⟨(some 5), none, (.bin .eql (.t 4) (.c (.str []))), []⟩, ⟨(some 6), none, (.mov (.t 5)), []⟩, ⟨(some 7), (some (6, false)), (.faddr (.t 2) 3), []⟩, ⟨(some 8), (some (6, false)), (.ld (.t 7) none), []⟩, ⟨(some 9), (some (6, false)), (.ld (.t 1) none), []⟩, ⟨(some 10), (some (6, false)), (.bin .eql (.t 8) (.t 9)), []⟩, ⟨(some 11), none, (.pick (.t 6) (.c (.bool true)) (.t 10)), []⟩, ⟨(some 3), none, (.mov (.t 11)), []⟩]) .ret))
theorem h139 : compF Try.prog sh 139 = some (c139, [3], 12) := by kernel_rfl
def l35_0 : Cmd := (.seq (.seq (.reg false [⟨(some 9), none, (.mov (.t 3)), []⟩, ⟨(some 10), none, (.mov (.t 0)), []⟩, ⟨(some 11), none, (.len false (.t 10)), []⟩, ⟨(some 12), none, (.bin .lss (.t 9) (.t 11)), []⟩]) (.cond (.t 12) .skip (.exit 0))) (.seq (.block 1 (.seq (.seq (.reg false [⟨(some 15), none, (.mov (.t 0)), []⟩, ⟨(some 16), none, (.mov (.t 3)), []⟩, ⟨(some 17), none, (.iaddr (.t 15) (.t 16) 6), []⟩, ⟨(some 18), none, (.ld (.t 17) (some 6)), []⟩, ⟨(some 19), none, (.call 83 [(.t 18)]), []⟩, ⟨(some 4), none, (.mov (.t 19)), []⟩]) (.seq (.reg false [⟨(some 20), none, (.mov (.t 4)), []⟩, ⟨(some 21), none, (.bin .neq (.t 20) (.c (.int .i64 0))), []⟩]) (.cond (.t 21) (.seq (.reg false [⟨(some 22), none, (.mov (.t 4)), []⟩, ⟨(some 2), none, (.mov (.t 22)), []⟩]) .ret) .skip))) (.seq (.reg true [⟨(some 23), none, (.mov (.t 3)), []⟩, ⟨(some 24), none, (.bin .gtr (.t 23) (.c (.int .i64 0))), []⟩, ⟨(some 25), none, (.mov (.t 24)), []⟩, ⟨(some 26), (some (25, true)), (.mov (.t 0)), []⟩, ⟨(some 27), (some (25, true)), (.mov (.t 3)), []⟩, ⟨(some 28), (some (25, true)), (.bin .sub (.t 27) (.c (.int .i64 1))), []⟩, ⟨(some 29), (some (25, true)), (.iaddr (.t 26) (.t 28) 6), []⟩, ⟨(some 30), (some (25, true)), (.ld (.t 29) (some 6)), []⟩, ⟨(some 31), (some (25, true)), (.mov (.t 0)), []⟩, ⟨(some 32), (some (25, true)), (.mov (.t 3)), []⟩, ⟨(some 33), (some (25, true)), (.iaddr (.t 31) (.t 32) 6), []⟩, ⟨(some 34), (some (25, true)), (.ld (.t 33) (some 6)), []⟩, ⟨(some 35), (some (25, true)), (.call 85 [(.t 30), (.t 34)]), []⟩, ⟨(some 36), (some (25, true)), (.un .not (.t 35)), []⟩, ⟨(some 37), none, (.pick (.t 25) (.t 36) (.c (.bool false))), []⟩]) (.cond (.t 37) (.seq (.reg false [⟨(some 2), none, (.mov (.c (.int .i64 8))), []⟩]) .ret) .skip)))) (.reg false [⟨(some 13), none, (.mov (.t 3)), []⟩, ⟨(some 14), none, (.bin .add (.t 13) (.c (.int .i64 1))), []⟩, ⟨(some 3), none, (.mov (.t 14)), []⟩])))
def l35_1 : Cmd := (.seq (.seq (.reg false [⟨(some 38), none, (.mov (.t 5)), []⟩, ⟨(some 39), none, (.mov (.t 0)), []⟩, ⟨(some 40), none, (.len false (.t 39)), []⟩, ⟨(some 41), none, (.bin .lss (.t 38) (.t 40)), []⟩]) (.cond (.t 41) .skip (.exit 2))) (.seq (.block 3 (.seq (.reg false [⟨(some 44), none, (.mov (.t 0)), []⟩, ⟨(some 45), none, (.mov (.t 0)), []⟩, ⟨(some 46), none, (.mov (.t 5)), []⟩, ⟨(some 47), none, (.iaddr (.t 45) (.t 46) 6), []⟩, ⟨(some 48), none, (.faddr (.t 47) 0), []⟩, ⟨(some 49), none, (.ld (.t 48) none), []⟩, ⟨(some 50), none, (.call 86 [(.t 44), (.t 49)]), []⟩, ⟨(some 51), none, (.mov (.t 5)), []⟩, ⟨(some 52), none, (.bin .lss (.t 50) (.t 51)), []⟩]) (.cond (.t 52) (.seq (.reg false [⟨(some 2), none, (.mov (.c (.int .i64 7))), []⟩]) .ret) .skip))) (.reg false [⟨(some 42), none, (.mov (.t 5)), []⟩, ⟨(some 43), none, (.bin .add (.t 42) (.c (.int .i64 1))), []⟩, ⟨(some 5), none, (.mov (.t 43)), []⟩])))
def c35 : Cmd := (.seq (.reg false [⟨(some 2), none, (.mov (.c (.int .i64 0))), []⟩]) (.seq (.seq (.reg false [⟨(some 6), none, (.mov (.t 0)), []⟩, ⟨(some 7), none, (.len false (.t 6)), []⟩, ⟨(some 8), none, (.bin .gtr (.t 7) (.c (.int .i64 1000))), []⟩]) (.cond (.t 8) (.seq (.reg false [⟨(some 2), none, (.mov (.c (.int .i64 2))), []⟩]) .ret) .skip)) (.seq (.seq (.reg false [⟨(some 3), none, (.mov (.c (.int .i64 0))), []⟩]) (.block 0 (.loop l35_0))) (.seq (.seq (.reg false [⟨(some 5), none, (.mov (.c (.int .i64 0))), []⟩]) (.block 2 (.loop l35_1))) (.seq (.seq (.reg false [⟨(some 53), none, (.mov (.t 0)), []⟩, ⟨(some 54), none, (.call 87 [(.t 53)]), []⟩, ⟨(some 55), none, (.bin .gtr (.t 54) (.c (.int .i64 50))), []⟩]) (.cond (.t 55) (.seq (.reg false [⟨(some 2), none, (.mov (.c (.int .i64 2))), []⟩]) .ret) .skip)) (.seq (.reg false [⟨(some 2), none, (.mov (.c (.int .i64 0))), []⟩]) .ret))))))
theorem h35 : compF Try.prog sh 35 = some (c35, [2], 56) := by kernel_rfl
def c85 : Cmd := (.seq (.reg false [⟨(some 2), none, (.box (.t 0)), []⟩, ⟨(some 3), none, (.box (.t 1)), []⟩, ⟨(some 4), none, (.mov (.c (.bool false))), []⟩]) (.seq (.reg false [⟨(some 5), none, (.faddr (.t 2) 1), []⟩, ⟨(some 6), none, (.ld (.t 5) none), []⟩, ⟨(some 7), none, (.faddr (.t 3) 1), []⟩, ⟨(some 8), none, (.ld (.t 7) none), []⟩, ⟨(some 9), none, (.bin .lss (.t 6) (.t 8)), []⟩, ⟨(some 10), none, (.mov (.t 9)), []⟩, ⟨(some 11), (some (10, false)), (.faddr (.t 2) 1), []⟩, ⟨(some 12), (some (10, false)), (.ld (.t 11) none), []⟩, ⟨(some 13), (some (10, false)), (.faddr (.t 3) 1), []⟩, ⟨(some 14), (some (10, false)), (.ld (.t 13) none), []⟩, ⟨(some 15), (some (10, false)), (.bin .eql (.t 12) (.t 14)), []⟩, ⟨(some 16), (some (10, false)), (.mov (.t 15)), []⟩, ⟨(some 17), (some (16, true)), (.faddr (.t 2) 0), []⟩, ⟨(some 18), (some (16, true)), (.ld (.t 17) none), []⟩, ⟨(some 19), (some (16, true)), (.faddr (.t 3) 0), []⟩, ⟨(some 20), (some (16, true)), (.ld (.t 19) none), []⟩, ⟨(some 21), (some (16, true)), (.bin .lss (.t 18) (.t 20)), []⟩, ⟨(some 22), (some (10, false)), (.pick (.t 16) (.t 21) (.c (.bool false))), []⟩, ⟨(some 23), none, (.pick (.t 10) (.c (.bool true)) (.t 22)), []⟩, ⟨(some 4), none, (.mov (.t 23)), []⟩]) .ret))
theorem h85 : compF Try.prog sh 85 = some (c85, [4], 24) := by kernel_rfl
def l86_0 : Cmd := (.seq (.seq (.reg false [⟨(some 6), none, (.mov (.t 5)), []⟩, ⟨(some 7), none, (.mov (.t 0)), []⟩, ⟨(some 8), none, (.len false (.t 7)), []⟩, ⟨(some 9), none, (.bin .lss (.t 6) (.t 8)), []⟩]) (.cond (.t 9) .skip (.exit 0))) (.seq (.block 1 (.seq (.reg false [⟨(some 12), none, (.mov (.t 0)), []⟩, ⟨(some 13), none, (.mov (.t 5)), []⟩, ⟨(some 14), none, (.iaddr (.t 12) (.t 13) 6), []⟩, ⟨(some 15), none, (.faddr (.t 14) 0), []⟩, ⟨(some 16), none, (.ld (.t 15) none), []⟩, ⟨(some 17), none, (.mov (.t 1)), []⟩, ⟨(some 18), none, (.bin .eql (.t 16) (.t 17)), []⟩]) (.cond (.t 18) (.seq (.reg false [⟨(some 19), none, (.mov (.t 5)), []⟩, ⟨(some 4), none, (.mov (.t 19)), []⟩]) .ret) .skip))) (.reg false [⟨(some 10), none, (.mov (.t 5)), []⟩, ⟨(some 11), none, (.bin .add (.t 10) (.c (.int .i64 1))), []⟩, ⟨(some 5), none, (.mov (.t 11)), []⟩])))
def c86 : Cmd := (.seq (.reg false [⟨(some 4), none, (.mov (.c (.int .i64 0))), []⟩]) (.seq (.seq (.reg false [⟨(some 5), none, (.mov (.c (.int .i64 0))), []⟩]) (.block 0 (.loop l86_0))) (.seq (.reg false [⟨(some 4), none, (.mov (.c (.int .i64 (-1)))), []⟩]) .ret)))
theorem h86 : compF Try.prog sh 86 = some (c86, [4], 20) := by kernel_rfl
def l87_0 : Cmd := (.seq (.seq (.reg false [⟨(some 19), none, (.mov (.t 6)), []⟩, ⟨(some 20), none, (.mov (.t 4)), []⟩, ⟨(some 21), none, (.bin .lss (.t 19) (.t 20)), []⟩]) (.cond (.t 21) .skip (.exit 2))) (.seq (.block 3 (.reg true [⟨(some 24), none, (.mov (.t 5)), []⟩, ⟨(some 25), none, (.mov (.t 24)), []⟩, ⟨(some 26), (some (25, true)), (.mov (.t 0)), []⟩, ⟨(some 27), (some (25, true)), (.mov (.t 6)), []⟩, ⟨(some 28), (some (25, true)), (.iaddr (.t 26) (.t 27) 6), []⟩, ⟨(some 29), (some (25, true)), (.faddr (.t 28) 3), []⟩, ⟨(some 30), (some (25, true)), (.ld (.t 29) none), []⟩, ⟨(some 31), (some (25, true)), (.mov (.t 0)), []⟩, ⟨(some 32), (some (25, true)), (.mov (.t 4)), []⟩, ⟨(some 33), (some (25, true)), (.iaddr (.t 31) (.t 32) 6), []⟩, ⟨(some 34), (some (25, true)), (.faddr (.t 33) 3), []⟩, ⟨(some 35), (some (25, true)), (.ld (.t 34) none), []⟩, ⟨(some 36), (some (25, true)), (.bin .neq (.t 30) (.t 35)), []⟩, ⟨(some 37), none, (.pick (.t 25) (.t 36) (.c (.bool false))), []⟩, ⟨(some 5), none, (.mov (.t 37)), []⟩])) (.reg false [⟨(some 22), none, (.mov (.t 6)), []⟩, ⟨(some 23), none, (.bin .add (.t 22) (.c (.int .i64 1))), []⟩, ⟨(some 6), none, (.mov (.t 23)), []⟩])))
def l87_1 : Cmd := (.seq (.seq (.reg false [⟨(some 7), none, (.mov (.t 4)), []⟩, ⟨(some 8), none, (.mov (.t 0)), []⟩, ⟨(some 9), none, (.len false (.t 8)), []⟩, ⟨(some 10), none, (.bin .lss (.t 7) (.t 9)), []⟩]) (.cond (.t 10) .skip (.exit 0))) (.seq (.block 1 (.seq (.reg false [⟨(some 13), none, (.mov (.t 0)), []⟩, ⟨(some 14), none, (.mov (.t 4)), []⟩, ⟨(some 15), none, (.iaddr (.t 13) (.t 14) 6), []⟩, ⟨(some 16), none, (.faddr (.t 15) 3), []⟩, ⟨(some 17), none, (.ld (.t 16) none), []⟩, ⟨(some 18), none, (.bin .neq (.t 17) (.c (.str []))), []⟩, ⟨(some 5), none, (.mov (.t 18)), []⟩]) (.seq (.seq (.reg false [⟨(some 6), none, (.mov (.c (.int .i64 0))), []⟩]) (.block 2 (.loop l87_0))) (.seq (.reg false [⟨(some 38), none, (.mov (.t 5)), []⟩]) (.cond (.t 38) (.reg false [⟨(some 39), none, (.mov (.t 3)), []⟩, ⟨(some 40), none, (.bin .add (.t 39) (.c (.int .i64 1))), []⟩, ⟨(some 3), none, (.mov (.t 40)), []⟩]) .skip))))) (.reg false [⟨(some 11), none, (.mov (.t 4)), []⟩, ⟨(some 12), none, (.bin .add (.t 11) (.c (.int .i64 1))), []⟩, ⟨(some 4), none, (.mov (.t 12)), []⟩])))
def c87 : Cmd := (.seq (.reg false [⟨(some 2), none, (.mov (.c (.int .i64 0))), []⟩]) (.seq (.reg false [⟨(some 3), none, (.mov (.c (.int .i64 0))), []⟩]) (.seq (.seq (.reg false [⟨(some 4), none, (.mov (.c (.int .i64 0))), []⟩]) (.block 0 (.loop l87_1))) (.seq (.reg false [⟨(some 41), none, (.mov (.t 3)), []⟩, ⟨(some 2), none, (.mov (.t 41)), []⟩]) .ret))))
theorem h87 : compF Try.prog sh 87 = some (c87, [2], 42) := by kernel_rfl
def l136_0 : Cmd := (.seq (.seq (.reg true [⟨(some 9), none, (.mov (.t 5)), []⟩, ⟨(some 10), none, (.bin .gtr (.t 9) (.c (.int .i64 0))), []⟩, ⟨(some 11), none, (.mov (.t 10)), []⟩, ⟨(some 12), (some (11, true)), (.ld (.t 3) (some 6)), []⟩, ⟨(some 13), (some (11, true)), (.mov (.t 0)), []⟩, ⟨(some 14), (some (11, true)), (.mov (.t 5)), []⟩, ⟨(some 15), (some (11, true)), (.bin .sub (.t 14) (.c (.int .i64 1))), []⟩, ⟨(some 16), (some (11, true)), (.iaddr (.t 13) (.t 15) 6), []⟩, ⟨(some 17), (some (11, true)), (.ld (.t 16) (some 6)), []⟩, ⟨(some 18), (some (11, true)), (.call 85 [(.t 12), (.t 17)]), []⟩, ⟨(some 19), none, (.pick (.t 11) (.t 18) (.c (.bool false))), []⟩]) (.cond (.t 19) .skip (.exit 0))) (.block 1 (.reg false [⟨(some 20), none, (.mov (.t 5)), []⟩, ⟨(some 21), none, (.bin .sub (.t 20) (.c (.int .i64 1))), []⟩, ⟨(some 5), none, (.mov (.t 21)), []⟩])))
def c136 : Cmd := (.seq (.reg false [⟨(some 3), none, (.box (.t 1)), []⟩, ⟨(some 4), none, (.mov (.c .ns)), []⟩]) (.seq (.reg false [⟨(some 7), none, (.mov (.t 0)), []⟩, ⟨(some 8), none, (.len false (.t 7)), []⟩, ⟨(some 5), none, (.mov (.t 8)), []⟩]) (.seq (.block 0 (.loop l136_0)) (.seq (.reg false [⟨(some 6), none, (.mov (.c .ns)), []⟩]) (.seq (.reg false [⟨(some 22), none, (.mov (.t 6)), []⟩, ⟨(some 23), none, (.mov (.t 0)), []⟩, ⟨(some 24), none, (.mov (.t 5)), []⟩, ⟨(some 25), none, (.slc false (.t 23) none (some (.t 24)) 6), []⟩, ⟨(some 26), none, (.app 6 72 (.t 22) (.t 25)), []⟩, ⟨(some 6), none, (.mov (.t 26)), []⟩]) (.seq (.reg false [⟨(some 27), none, (.mov (.t 6)), []⟩, ⟨(some 28), none, (.ld (.t 3) (some 6)), []⟩, ⟨(some 29), none, (.bs 1 6 [(.int .i64 0), (.int .i64 0), (.str []), (.str []), (.str []), (.bool false)] [(0, (.t 28))]), []⟩, ⟨(some 30), none, (.app 6 72 (.t 27) (.t 29)), []⟩, ⟨(some 6), none, (.mov (.t 30)), []⟩]) (.seq (.reg false [⟨(some 31), none, (.mov (.t 6)), []⟩, ⟨(some 32), none, (.mov (.t 0)), []⟩, ⟨(some 33), none, (.mov (.t 5)), []⟩, ⟨(some 34), none, (.slc false (.t 32) (some (.t 33)) none 6), []⟩, ⟨(some 35), none, (.app 6 72 (.t 31) (.t 34)), []⟩, ⟨(some 4), none, (.mov (.t 35)), []⟩]) .ret)))))))
theorem h136 : compF Try.prog sh 136 = some (c136, [4], 36) := by kernel_rfl
def c84 : Cmd := (.seq (.reg false [⟨(some 3), none, (.box (.t 1)), []⟩, ⟨(some 4), none, (.mov (.c .ns)), []⟩, ⟨(some 5), none, (.mov (.c (.int .i64 0))), []⟩]) (.seq (.seq (.reg false [⟨(some 7), none, (.mov (.t 0)), []⟩, ⟨(some 8), none, (.faddr (.t 3) 0), []⟩, ⟨(some 9), none, (.ld (.t 8) none), []⟩, ⟨(some 10), none, (.call 86 [(.t 7), (.t 9)]), []⟩, ⟨(some 11), none, (.bin .geq (.t 10) (.c (.int .i64 0))), []⟩]) (.cond (.t 11) (.seq (.reg false [⟨(some 4), none, (.mov (.c .ns)), []⟩, ⟨(some 5), none, (.mov (.c (.int .i64 7))), []⟩]) .ret) .skip)) (.seq (.reg false [⟨(some 12), none, (.mov (.t 0)), []⟩, ⟨(some 13), none, (.ld (.t 3) (some 6)), []⟩, ⟨(some 14), none, (.call 136 [(.t 12), (.t 13)]), []⟩, ⟨(some 6), none, (.mov (.t 14)), []⟩]) (.seq (.seq (.reg false [⟨(some 15), none, (.mov (.t 6)), []⟩, ⟨(some 16), none, (.len false (.t 15)), []⟩, ⟨(some 17), none, (.bin .gtr (.t 16) (.c (.int .i64 1000))), []⟩, ⟨(some 18), none, (.mov (.t 17)), []⟩, ⟨(some 19), (some (18, false)), (.mov (.t 6)), []⟩, ⟨(some 20), (some (18, false)), (.call 87 [(.t 19)]), []⟩, ⟨(some 21), (some (18, false)), (.bin .gtr (.t 20) (.c (.int .i64 50))), []⟩, ⟨(some 22), none, (.pick (.t 18) (.c (.bool true)) (.t 21)), []⟩]) (.cond (.t 22) (.seq (.reg false [⟨(some 4), none, (.mov (.c .ns)), []⟩, ⟨(some 5), none, (.mov (.c (.int .i64 2))), []⟩]) .ret) .skip)) (.seq (.reg false [⟨(some 23), none, (.mov (.t 6)), []⟩, ⟨(some 4), none, (.mov (.t 23)), []⟩, ⟨(some 5), none, (.mov (.c (.int .i64 0))), []⟩]) .ret)))))
theorem h84 : compF Try.prog sh 84 = some (c84, [4, 5], 24) := by kernel_rfl
def c88 : Cmd := (.seq (.reg false [⟨(some 4), none, (.mov (.c .ns)), []⟩]) (.seq (.reg false [⟨(some 5), none, (.mov (.c .ns)), []⟩]) (.seq (.reg false [⟨(some 6), none, (.mov (.t 5)), []⟩, ⟨(some 7), none, (.mov (.t 0)), []⟩, ⟨(some 8), none, (.mov (.t 1)), []⟩, ⟨(some 9), none, (.slc false (.t 7) none (some (.t 8)) 6), []⟩, ⟨(some 10), none, (.app 6 72 (.t 6) (.t 9)), []⟩, ⟨(some 5), none, (.mov (.t 10)), []⟩]) (.seq (.reg false [⟨(some 11), none, (.mov (.t 5)), []⟩, ⟨(some 12), none, (.mov (.t 0)), []⟩, ⟨(some 13), none, (.mov (.t 1)), []⟩, ⟨(some 14), none, (.bin .add (.t 13) (.c (.int .i64 1))), []⟩, ⟨(some 15), none, (.slc false (.t 12) (some (.t 14)) none 6), []⟩, ⟨(some 16), none, (.app 6 72 (.t 11) (.t 15)), []⟩, ⟨(some 4), none, (.mov (.t 16)), []⟩]) .ret))))
theorem h88 : compF Try.prog sh 88 = some (c88, [4], 17) := by kernel_rfl
def c34 : Cmd := (.seq (.reg false [⟨(some 3), none, (.box (.t 1)), []⟩, ⟨(some 4), none, (.mov (.c .ns)), []⟩, ⟨(some 5), none, (.mov (.c (.int .i64 0))), []⟩]) (.seq (.seq (.reg false [⟨(some 8), none, (.mov (.t 0)), []⟩, ⟨(some 9), none, (.call 35 [(.t 8)]), []⟩, ⟨(some 6), none, (.mov (.t 9)), []⟩]) (.seq (.reg false [⟨(some 10), none, (.mov (.t 6)), []⟩, ⟨(some 11), none, (.bin .neq (.t 10) (.c (.int .i64 0))), []⟩]) (.cond (.t 11) (.seq (.reg false [⟨(some 12), none, (.mov (.t 6)), []⟩, ⟨(some 4), none, (.mov (.c .ns)), []⟩, ⟨(some 5), none, (.mov (.t 12)), []⟩]) .ret) .skip))) (.seq (.seq (.reg false [⟨(some 13), none, (.ld (.t 3) (some 6)), []⟩, ⟨(some 14), none, (.call 83 [(.t 13)]), []⟩, ⟨(some 7), none, (.mov (.t 14)), []⟩]) (.seq (.reg false [⟨(some 15), none, (.mov (.t 7)), []⟩, ⟨(some 16), none, (.bin .neq (.t 15) (.c (.int .i64 0))), []⟩]) (.cond (.t 16) (.seq (.reg false [⟨(some 17), none, (.mov (.t 7)), []⟩, ⟨(some 4), none, (.mov (.c .ns)), []⟩, ⟨(some 5), none, (.mov (.t 17)), []⟩]) .ret) .skip))) (.seq (.reg false [⟨(some 18), none, (.mov (.t 0)), []⟩, ⟨(some 19), none, (.ld (.t 3) (some 6)), []⟩, ⟨(some 20), none, (.call 84 [(.t 18), (.t 19)]), []⟩, ⟨(some 21), none, (.ext (.t 20) 0), []⟩, ⟨(some 22), none, (.ext (.t 20) 1), []⟩, ⟨(some 4), none, (.mov (.t 21)), []⟩, ⟨(some 5), none, (.mov (.t 22)), []⟩]) .ret))))
theorem h34 : compF Try.prog sh 34 = some (c34, [4, 5], 23) := by kernel_rfl
def c36 : Cmd := (.seq (.reg false [⟨(some 4), none, (.mov (.c .ns)), []⟩, ⟨(some 5), none, (.mov (.c (.int .i64 0))), []⟩]) (.seq (.seq (.reg false [⟨(some 8), none, (.mov (.t 0)), []⟩, ⟨(some 9), none, (.call 35 [(.t 8)]), []⟩, ⟨(some 6), none, (.mov (.t 9)), []⟩]) (.seq (.reg false [⟨(some 10), none, (.mov (.t 6)), []⟩, ⟨(some 11), none, (.bin .neq (.t 10) (.c (.int .i64 0))), []⟩]) (.cond (.t 11) (.seq (.reg false [⟨(some 12), none, (.mov (.t 6)), []⟩, ⟨(some 4), none, (.mov (.c .ns)), []⟩, ⟨(some 5), none, (.mov (.t 12)), []⟩]) .ret) .skip))) (.seq (.reg false [⟨(some 13), none, (.mov (.t 0)), []⟩, ⟨(some 14), none, (.mov (.t 1)), []⟩, ⟨(some 15), none, (.call 86 [(.t 13), (.t 14)]), []⟩, ⟨(some 7), none, (.mov (.t 15)), []⟩]) (.seq (.seq (.reg false [⟨(some 16), none, (.mov (.t 7)), []⟩, ⟨(some 17), none, (.bin .lss (.t 16) (.c (.int .i64 0))), []⟩]) (.cond (.t 17) (.seq (.reg false [⟨(some 4), none, (.mov (.c .ns)), []⟩, ⟨(some 5), none, (.mov (.c (.int .i64 9))), []⟩]) .ret) .skip)) (.seq (.reg false [⟨(some 18), none, (.mov (.t 0)), []⟩, ⟨(some 19), none, (.mov (.t 7)), []⟩, ⟨(some 20), none, (.call 88 [(.t 18), (.t 19)]), []⟩, ⟨(some 4), none, (.mov (.t 20)), []⟩, ⟨(some 5), none, (.mov (.c (.int .i64 0))), []⟩]) .ret)))))
theorem h36 : compF Try.prog sh 36 = some (c36, [4, 5], 21) := by kernel_rfl
def l95_0 : Cmd := (.seq (.seq (.reg false [⟨(some 13), none, (.mov (.t 11)), []⟩, ⟨(some 14), none, (.mov (.t 0)), []⟩, ⟨(some 15), none, (.len false (.t 14)), []⟩, ⟨(some 16), none, (.bin .lss (.t 13) (.t 15)), []⟩]) (.cond (.t 16) .skip (.exit 0))) (.seq (.block 1 (.seq (.reg false [⟨(some 19), none, (.mov (.t 0)), []⟩, ⟨(some 20), none, (.mov (.t 11)), []⟩, ⟨(some 21), none, (.iaddr (.t 19) (.t 20) 6), []⟩, ⟨(some 22), none, (.ld (.t 21) (some 6)), []⟩, ⟨(some 12), none, (.alloc [(.int .i64 0), (.int .i64 0), (.str []), (.str []), (.str []), (.bool false)]), []⟩, ⟨none, none, (.st (.t 12) (.t 22) 6), []⟩]) (.seq (.seq (.reg false [⟨(some 23), none, (.mov (.t 2)), []⟩, ⟨(some 24), none, (.bin .gtr (.t 23) (.c (.int .i64 0))), []⟩, ⟨(some 25), none, (.mov (.t 24)), []⟩, ⟨(some 26), (some (25, true)), (.faddr (.t 12) 0), []⟩, ⟨(some 27), (some (25, true)), (.ld (.t 26) none), []⟩, ⟨(some 28), (some (25, true)), (.mov (.t 2)), []⟩, ⟨(some 29), (some (25, true)), (.bin .eql (.t 27) (.t 28)), []⟩, ⟨(some 30), none, (.pick (.t 25) (.t 29) (.c (.bool false))), []⟩, ⟨(some 31), none, (.mov (.t 30)), []⟩, ⟨(some 32), (some (31, false)), (.mov (.t 2)), []⟩, ⟨(some 33), (some (31, false)), (.bin .eql (.t 32) (.c (.int .i64 0))), []⟩, ⟨(some 34), (some (31, false)), (.mov (.t 33)), []⟩, ⟨(some 35), (some (34, true)), (.mov (.t 1)), []⟩, ⟨(some 36), (some (34, true)), (.bin .eql (.t 35) (.c (.str []))), []⟩, ⟨(some 37), (some (34, true)), (.mov (.t 36)), []⟩, ⟨(some 38), (some (37, false)), (.faddr (.t 12) 3), []⟩, ⟨(some 39), (some (37, false)), (.ld (.t 38) none), []⟩, ⟨(some 40), (some (37, false)), (.mov (.t 1)), []⟩, ⟨(some 41), (some (37, false)), (.bin .eql (.t 39) (.t 40)), []⟩, ⟨(some 42), (some (34, true)), (.pick (.t 37) (.c (.bool true)) (.t 41)), []⟩, ⟨(some 43), (some (31, false)), (.pick (.t 34) (.t 42) (.c (.bool false))), []⟩, ⟨(some 44), none, (.pick (.t 31) (.c (.bool true)) (.t 43)), []⟩]) (.cond (.t 44) (.seq (.reg false [⟨(some 45), none, (.faddr (.t 12) 1), []⟩, ⟨(some 46), none, (.ld (.t 45) none), []⟩, ⟨(some 47), none, (.mov (.t 3)), []⟩, ⟨(some 48), none, (.bin .add (.t 46) (.t 47)), []⟩, ⟨(some 49), none, (.faddr (.t 12) 1), []⟩, ⟨none, none, (.st (.t 49) (.t 48) 1), []⟩]) (.seq (.reg false [⟨(some 50), none, (.faddr (.t 12) 1), []⟩, ⟨(some 51), none, (.ld (.t 50) none), []⟩, ⟨(some 52), none, (.call 73 [(.t 51)]), []⟩, ⟨(some 53), none, (.un .not (.t 52)), []⟩]) (.cond (.t 53) (.seq (.reg false [⟨(some 8), none, (.mov (.c .ns)), []⟩, ⟨(some 9), none, (.mov (.c (.int .i64 1))), []⟩]) .ret) .skip))) .skip)) (.reg false [⟨(some 54), none, (.mov (.t 10)), []⟩, ⟨(some 55), none, (.ld (.t 12) (some 6)), []⟩, ⟨(some 56), none, (.call 136 [(.t 54), (.t 55)]), []⟩, ⟨(some 10), none, (.mov (.t 56)), []⟩])))) (.reg false [⟨(some 17), none, (.mov (.t 11)), []⟩, ⟨(some 18), none, (.bin .add (.t 17) (.c (.int .i64 1))), []⟩, ⟨(some 11), none, (.mov (.t 18)), []⟩])))
def c95 : Cmd := (.seq (.reg false [⟨(some 8), none, (.mov (.c .ns)), []⟩, ⟨(some 9), none, (.mov (.c (.int .i64 0))), []⟩]) (.seq (.reg false [⟨(some 10), none, (.mov (.c .ns)), []⟩]) (.seq (.seq (.reg false [⟨(some 11), none, (.mov (.c (.int .i64 0))), []⟩]) (.block 0 (.loop l95_0))) (.seq (.reg false [⟨(some 57), none, (.mov (.t 10)), []⟩, ⟨(some 8), none, (.mov (.t 57)), []⟩, ⟨(some 9), none, (.mov (.c (.int .i64 0))), []⟩]) .ret))))
theorem h95 : compF Try.prog sh 95 = some (c95, [8, 9], 58) := by kernel_rfl
def c94 : Cmd := (.seq (.reg false [⟨(some 2), none, (.mov (.c (.bool false))), []⟩]) (.seq (.reg false [⟨(some 3), none, (.mov (.t 0)), []⟩, ⟨(some 4), none, (.call 65 [(.t 3), (.c (.int .i64 (-1000000000))), (.c (.int .i64 1000000000))]), []⟩, ⟨(some 2), none, (.mov (.t 4)), []⟩]) .ret))
theorem h94 : compF Try.prog sh 94 = some (c94, [2], 5) := by kernel_rfl
def c40 : Cmd := (.seq (.reg false [⟨(some 6), none, (.mov (.c .ns)), []⟩, ⟨(some 7), none, (.mov (.c (.int .i64 0))), []⟩]) (.seq (.seq (.reg false [⟨(some 9), none, (.mov (.t 0)), []⟩, ⟨(some 10), none, (.call 35 [(.t 9)]), []⟩, ⟨(some 8), none, (.mov (.t 10)), []⟩]) (.seq (.reg false [⟨(some 11), none, (.mov (.t 8)), []⟩, ⟨(some 12), none, (.bin .neq (.t 11) (.c (.int .i64 0))), []⟩]) (.cond (.t 12) (.seq (.reg false [⟨(some 13), none, (.mov (.t 8)), []⟩, ⟨(some 6), none, (.mov (.c .ns)), []⟩, ⟨(some 7), none, (.mov (.t 13)), []⟩]) .ret) .skip))) (.seq (.seq (.reg false [⟨(some 14), none, (.mov (.t 1)), []⟩, ⟨(some 15), none, (.bin .neq (.t 14) (.c (.str []))), []⟩, ⟨(some 16), none, (.mov (.t 15)), []⟩, ⟨(some 17), (some (16, true)), (.mov (.t 1)), []⟩, ⟨(some 18), (some (16, true)), (.call 60 [(.t 17)]), []⟩, ⟨(some 19), (some (16, true)), (.un .not (.t 18)), []⟩, ⟨(some 20), none, (.pick (.t 16) (.t 19) (.c (.bool false))), []⟩]) (.cond (.t 20) (.seq (.reg false [⟨(some 6), none, (.mov (.c .ns)), []⟩, ⟨(some 7), none, (.mov (.c (.int .i64 5))), []⟩]) .ret) .skip)) (.seq (.seq (.reg false [⟨(some 21), none, (.mov (.t 2)), []⟩, ⟨(some 22), none, (.call 94 [(.t 21)]), []⟩, ⟨(some 23), none, (.un .not (.t 22)), []⟩]) (.cond (.t 23) (.seq (.reg false [⟨(some 6), none, (.mov (.c .ns)), []⟩, ⟨(some 7), none, (.mov (.c (.int .i64 1))), []⟩]) .ret) .skip)) (.seq (.reg false [⟨(some 24), none, (.mov (.t 0)), []⟩, ⟨(some 25), none, (.mov (.t 1)), []⟩, ⟨(some 26), none, (.mov (.t 2)), []⟩, ⟨(some 27), none, (.call 95 [(.t 24), (.t 25), (.c (.int .i64 0)), (.t 26)]), []⟩, ⟨(some 28), none, (.ext (.t 27) 0), []⟩, ⟨(some 29), none, (.ext (.t 27) 1), []⟩, ⟨(some 6), none, (.mov (.t 28)), []⟩, ⟨(some 7), none, (.mov (.t 29)), []⟩]) .ret)))))
theorem h40 : compF Try.prog sh 40 = some (c40, [6, 7], 30) := by kernel_rfl
def c132 : Cmd := (.seq (.reg false [⟨(some 2), none, (.mov (.c .ns)), []⟩]) (.seq (.seq (.reg false [⟨(some 3), none, (.mov (.t 0)), []⟩, ⟨(some 4), none, (.isnil true false (.t 3)), []⟩]) (.cond (.t 4) (.seq (.reg false [⟨(some 2), none, (.mov (.c .ns)), []⟩]) .ret) .skip)) (.seq (.reg false [⟨(some 5), none, (.bs 0 6 [(.int .i64 0), (.int .i64 0), (.str []), (.str []), (.str []), (.bool false)] []), []⟩, ⟨(some 6), none, (.mov (.t 0)), []⟩, ⟨(some 7), none, (.app 6 72 (.t 5) (.t 6)), []⟩, ⟨(some 2), none, (.mov (.t 7)), []⟩]) .ret)))
theorem h132 : compF Try.prog sh 132 = some (c132, [2], 8) := by kernel_rfl
def k33_0 : Cmd := (.block 1 (.seq (.reg false [⟨(some 15), none, (.mov (.t 13)), []⟩, ⟨(some 5), none, (.mov (.t 15)), []⟩]) (.seq (.reg true [⟨(some 16), none, (.mov (.t 0)), []⟩, ⟨(some 17), none, (.mov (.t 5)), []⟩, ⟨(some 18), none, (.iaddr (.t 16) (.t 17) 6), []⟩, ⟨(some 19), none, (.ld (.t 18) (some 6)), []⟩, ⟨(some 20), none, (.mov (.t 1)), []⟩, ⟨(some 21), none, (.mov (.t 5)), []⟩, ⟨(some 22), none, (.iaddr (.t 20) (.t 21) 6), []⟩, ⟨(some 23), none, (.ld (.t 22) (some 6)), []⟩, ⟨(some 24), none, (.seq true [0, 0, 2, 2, 2, 1] (.t 19) (.t 23)), []⟩]) (.cond (.t 24) (.seq (.reg false [⟨(some 4), none, (.mov (.c (.bool false))), []⟩]) .ret) .skip))))
abbrev l33_0 : Cmd := cnt 0 14 13 12 25 k33_0
def c33 : Cmd := (.seq (.reg false [⟨(some 4), none, (.mov (.c (.bool false))), []⟩]) (.seq (.seq (.reg false [⟨(some 6), none, (.mov (.t 0)), []⟩, ⟨(some 7), none, (.len false (.t 6)), []⟩, ⟨(some 8), none, (.mov (.t 1)), []⟩, ⟨(some 9), none, (.len false (.t 8)), []⟩, ⟨(some 10), none, (.bin .neq (.t 7) (.t 9)), []⟩]) (.cond (.t 10) (.seq (.reg false [⟨(some 4), none, (.mov (.c (.bool false))), []⟩]) .ret) .skip)) (.seq (.seq (.reg false [⟨(some 11), none, (.mov (.t 0)), []⟩, ⟨(some 12), none, (.len false (.t 11)), []⟩, ⟨(some 13), none, (.mov (.c (.int .i64 0))), []⟩]) (.block 0 (.loop l33_0))) (.seq (.reg false [⟨(some 4), none, (.mov (.c (.bool true))), []⟩]) .ret))))
theorem h33 : compF Try.prog sh 33 = some (c33, [4], 26) := by kernel_rfl
def l130_0 : Cmd := (.seq (.seq (.reg false [⟨(some 15), none, (.mov (.t 9)), []⟩, ⟨(some 16), none, (.mov (.t 10)), []⟩, ⟨(some 17), none, (.bin .lss (.t 15) (.t 16)), []⟩]) (.cond (.t 17) .skip (.exit 0))) (.block 1 (.seq (.reg false [⟨(some 18), none, (.mov (.t 9)), []⟩, ⟨(some 19), none, (.mov (.t 10)), []⟩, ⟨(some 20), none, (.bin .add (.t 18) (.t 19)), []⟩, ⟨(some 21), none, (.conv .u64 (.t 20)), []⟩, ⟨(some 22), none, (.bin .shr (.t 21) (.c (.int .u64 1))), []⟩, ⟨(some 23), none, (.conv .i64 (.t 22)), []⟩, ⟨(some 11), none, (.mov (.t 23)), []⟩]) (.seq (.reg true [⟨(some 24), none, (.mov (.t 2)), []⟩, ⟨(some 25), none, (.mov (.t 0)), []⟩, ⟨(some 26), none, (.mov (.t 11)), []⟩, ⟨(some 27), none, (.iaddr (.t 25) (.t 26) 6), []⟩, ⟨(some 28), none, (.ld (.t 27) (some 6)), []⟩, ⟨(some 29), none, (.ld (.t 4) (some 6)), []⟩, ⟨(some 30), none, (.calv (.t 24) [(.t 28), (.t 29)]), []⟩, ⟨(some 31), none, (.bin .lss (.t 30) (.c (.int .i64 0))), []⟩]) (.cond (.t 31) (.reg false [⟨(some 32), none, (.mov (.t 11)), []⟩, ⟨(some 33), none, (.bin .add (.t 32) (.c (.int .i64 1))), []⟩, ⟨(some 9), none, (.mov (.t 33)), []⟩]) (.reg false [⟨(some 34), none, (.mov (.t 11)), []⟩, ⟨(some 10), none, (.mov (.t 34)), []⟩]))))))
def c130 : Cmd := (.seq (.reg false [⟨(some 4), none, (.box (.t 1)), []⟩, ⟨(some 6), none, (.mov (.c (.int .i64 0))), []⟩, ⟨(some 7), none, (.mov (.c (.bool false))), []⟩]) (.seq (.reg false [⟨(some 12), none, (.mov (.t 0)), []⟩, ⟨(some 13), none, (.len false (.t 12)), []⟩, ⟨(some 8), none, (.mov (.t 13)), []⟩]) (.seq (.reg false [⟨(some 14), none, (.mov (.t 8)), []⟩, ⟨(some 9), none, (.mov (.c (.int .i64 0))), []⟩, ⟨(some 10), none, (.mov (.t 14)), []⟩]) (.seq (.block 0 (.loop l130_0)) (.seq (.reg true [⟨(some 35), none, (.mov (.t 9)), []⟩, ⟨(some 36), none, (.mov (.t 9)), []⟩, ⟨(some 37), none, (.mov (.t 8)), []⟩, ⟨(some 38), none, (.bin .lss (.t 36) (.t 37)), []⟩, ⟨(some 39), none, (.mov (.t 38)), []⟩, ⟨(some 40), (some (39, true)), (.mov (.t 2)), []⟩, ⟨(some 41), (some (39, true)), (.mov (.t 0)), []⟩, ⟨(some 42), (some (39, true)), (.mov (.t 9)), []⟩, ⟨(some 43), (some (39, true)), (.iaddr (.t 41) (.t 42) 6), []⟩, ⟨(some 44), (some (39, true)), (.ld (.t 43) (some 6)), []⟩, ⟨(some 45), (some (39, true)), (.ld (.t 4) (some 6)), []⟩, ⟨(some 46), (some (39, true)), (.calv (.t 40) [(.t 44), (.t 45)]), []⟩, ⟨(some 47), (some (39, true)), (.bin .eql (.t 46) (.c (.int .i64 0))), []⟩, ⟨(some 48), none, (.pick (.t 39) (.t 47) (.c (.bool false))), []⟩, ⟨(some 6), none, (.mov (.t 35)), []⟩, ⟨(some 7), none, (.mov (.t 48)), []⟩]) .ret)))))
theorem h130 : compF Try.prog sh 130 = some (c130, [6, 7], 49) := by kernel_rfl
def k89_0 : Cmd := (.block 1 (.seq (.reg false [⟨(some 10), none, (.mov (.t 8)), []⟩, ⟨(some 5), none, (.mov (.t 10)), []⟩]) (.seq (.reg false [⟨(some 11), none, (.mov (.t 1)), []⟩, ⟨(some 12), none, (.mov (.t 0)), []⟩, ⟨(some 13), none, (.mov (.t 5)), []⟩, ⟨(some 14), none, (.iaddr (.t 12) (.t 13) 6), []⟩, ⟨(some 15), none, (.ld (.t 14) (some 6)), []⟩, ⟨(some 16), none, (.calv (.t 11) [(.t 15)]), []⟩]) (.cond (.t 16) (.seq (.reg false [⟨(some 17), none, (.mov (.t 5)), []⟩, ⟨(some 4), none, (.mov (.t 17)), []⟩]) .ret) .skip))))
abbrev l89_0 : Cmd := cnt 0 9 8 7 18 k89_0
def c89 : Cmd := (.seq (.reg false [⟨(some 4), none, (.mov (.c (.int .i64 0))), []⟩]) (.seq (.seq (.reg false [⟨(some 6), none, (.mov (.t 0)), []⟩, ⟨(some 7), none, (.len false (.t 6)), []⟩, ⟨(some 8), none, (.mov (.c (.int .i64 0))), []⟩]) (.block 0 (.loop l89_0))) (.seq (.reg false [⟨(some 4), none, (.mov (.c (.int .i64 (-1)))), []⟩]) .ret)))
theorem h89 : compF Try.prog sh 89 = some (c89, [4], 19) := by kernel_rfl
end Go.Proofs.P6
end
section
set_option linter.unusedVariables false
set_option linter.unusedSimpArgs false
set_option maxRecDepth 10000
set_option maxHeartbeats 8000000
namespace Go.Proofs.P6
open Go.Ex
section
variable {h : Hp} {k : Nat} {kk : IntKind} {K : V → List Nat → Prop} {l : List Entry} {a : Entry}
theorem ent_ia (e : l[k]? = some a) : iaddrK h (.ro l.length (fl entCd l)) (.int kk k) 6 K ⟨⟩ = K (.rp (fl entCd l) (k * 6)) [] := iaddr_fl rfl (by decide) e
theorem ent_ld (e : l[k]? = some a) : ldA h (.rp (fl entCd l) (k * 6)) (some 6) = some (.agg (entV a)) := ld_fls (n := 6) rfl e
theorem ent_l0 (e : l[k]? = some a) : ldA h (.rp (fl entCd l) (k * 6)) none = some (.int .i64 a.1) := ld_fl0 (n := 6) rfl (by decide) e
theorem ent_l1 (e : l[k]? = some a) : ldA h (.rp (fl entCd l) (k * 6 + 1)) none = some (.int .i64 a.2.1) := ld_fl (n := 6) rfl (by decide) e
theorem ent_l3 (e : l[k]? = some a) : ldA h (.rp (fl entCd l) (k * 6 + 3)) none = some (.str a.2.2.2.1) := ld_fl (n := 6) rfl (by decide) e
end
def cmpI (x y : Int) : Int := if x < y then -1 else if y < x then 1 else 0
theorem isNaN_ok (x : Int) : OkF Try.prog 166 [.int .i64 x] (.bool false, []) := by
  refine OkF.W0 hm h166 (of_decide_eq_true rfl) ?_
  unfold c166
  simp -dsimp
theorem compare_ok (x y : Int) : OkF Try.prog 135 [.int .i64 x, .int .i64 y] (.int .i64 (cmpI x y), []) := by
  refine OkF.W0 hm h135 (of_decide_eq_true rfl) ?_
  unfold c135
  simp -dsimp
  refine call_bool (isNaN_ok x) ?_
  simp -dsimp
  refine call_bool (isNaN_ok y) ?_
  simp -dsimp
  refine condK_of ?_ ?_ <;> intro q <;> simp -dsimp [q]
  · simp at q; simp [cmpI, q]
  · refine condK_of ?_ ?_ <;> intro q2 <;> simp -dsimp [q2]
    · simp at q q2; simp [cmpI, q2]; omega
    · simp at q q2; simp [cmpI]; omega
def orE (l : List Int) (k : Nat) : Int := (l[k]?).getD 0
theorem or_ok (l : List Int) (hl : l.length < 2 ^ 62) : OkF Try.prog 134 [.ro l.length (fl (Cd.int .i64) l)] (.int .i64 (fe (orE l) l.length), []) := by
  refine OkF.W0 hm h134 (of_decide_eq_true rfl) ?_
  unfold c134
  simp -dsimp
  refine for_lt l.length (fun k t => t.t 6 = .ro l.length (fl (Cd.int .i64) l) ∧ t.t 3 = .int .i64 0 ∧ fe (orE l) k = 0) rfl hl (by simp -dsimp [fe]) (by simp -dsimp) (by simp -dsimp) (fun k t hk hI hi hn => ?_) (fun t hI hi hn => ?_)
  · obtain ⟨i5, i3, iu⟩ := hI
    have hg : l[k]? = some l[k] := List.getElem?_eq_getElem hk
    generalize l[k] = a at hg
    have hE : orE l k = a := by simp [orE, hg]
    have e1 : ∀ K, iaddrK t.h (.ro l.length (fl (Cd.int .i64) l)) (.int .i64 k) 1 K ⟨⟩ = K (.rp (fl (Cd.int .i64) l) k) [] := fun K => by
      have := iaddr_fl (d := Cd.int .i64) (n := 1) (kk := .i64) (h := t.h) (K := K) rfl (by decide) hg
      rwa [Nat.mul_one] at this
    have e2 : ∀ h, ldA h (.rp (fl (Cd.int .i64) l) k) none = some (.int .i64 a) := fun h => by
      have := ld_fl0 (d := Cd.int .i64) (n := 1) (h := h) rfl (by decide) hg
      rw [Nat.mul_one] at this
      exact this
    unfold k134_0
    simp -dsimp [i5, i3, hi, hn, e1, e2]
    refine condK_of ?_ ?_ <;> intro q <;> simp -dsimp [q, i5, i3, hi, hn]
    · rw [fe_stop iu (by rw [hE]; simpa using q) hk, hE]
    · exact fe_step iu (by rw [hE]; simpa using q)
  · obtain ⟨i5, i3, iu⟩ := hI
    simp -dsimp [i3, iu]
/-- The order of entries. -/
def byT (a b : Entry) : Int := if cmpI a.2.1 b.2.1 ≠ 0 then cmpI a.2.1 b.2.1 else cmpI a.1 b.1
def befE (a b : Entry) : Bool := decide (a.2.1 < b.2.1) || decide (a.2.1 = b.2.1) && decide (a.1 < b.1)
theorem byT_bef (a b : Entry) : decide (0 ≤ byT a b) = !befE a b := by
  unfold byT befE cmpI
  rw [Bool.eq_iff_iff]
  simp
  repeat' split
  all_goals first
    | (simp; omega)
    | omega
theorem byTime_ok (a b : Entry) : OkF Try.prog 80 [.agg (entV a), .agg (entV b)] (.int .i64 (byT a b), []) := by
  have hor := or_ok [cmpI a.2.1 b.2.1, cmpI a.1 b.1] (by simp)
  have hfe : fe (orE [cmpI a.2.1 b.2.1, cmpI a.1 b.1]) 2 = byT a b := by
    simp [fe, byT, orE]
  have hfe' : fe (orE [cmpI a.2.1 b.2.1, cmpI a.1 b.1]) [cmpI a.2.1 b.2.1, cmpI a.1 b.1].length = byT a b := hfe
  rw [hfe'] at hor
  have e5 : ∀ (h : Hp) (x y : Int), toRO (upd h 2 (some ⟨0, 1, [.int .i64 x, .int .i64 y], none⟩)) 8 (.sl 2 0 0 2 (some 2)) = some (.ro 2 [.int .i64 x, .int .i64 y]) := fun _ _ _ => rfl
  refine OkF.W0 hm h80 (of_decide_eq_true rfl) ?_
  unfold c80
  simp -dsimp [entV]
  refine call_int (compare_ok _ _) ?_
  simp -dsimp
  refine call_int (compare_ok _ _) ?_
  simp -dsimp [fillA, e5]
  refine call_int hor ?_
  simp -dsimp
theorem before_ok (a b : Entry) : OkF Try.prog 85 [.agg (entV a), .agg (entV b)] (.bool (befE a b), []) := by
  refine OkF.W0 hm h85 (of_decide_eq_true rfl) ?_
  unfold c85
  simp -dsimp [entV]
  repeat' (first
    | (refine condK_of ?_ ?_ <;> intro q <;> simp -dsimp [q])
    | (refine wantT_of ?_ ?_ <;> intro q <;> simp -dsimp [q])
    | (refine wantF_of ?_ ?_ <;> intro q <;> simp -dsimp [q]))
  all_goals simp_all [befE]
theorem find_ok (l : List Entry) (id : Int) (hl : l.length < 2 ^ 62) : OkF Try.prog 86 [.ro l.length (fl entCd l), .int .i64 id] (.int .i64 (ixI (fun x => decide (x.1 = id)) l), []) := by
  refine OkF.W0 hm h86 (of_decide_eq_true rfl) ?_
  have e62 := Go.Ex.e62
  unfold c86
  simp -dsimp
  refine loop_to 5 l.length (fun k t => t.t 5 = .int .i64 k ∧ t.t 0 = .ro l.length (fl entCd l) ∧ t.t 1 = .int .i64 id ∧ Not' (fun x => decide (x.1 = id)) l k) (fun k t h => h.1) (by simp -dsimp [Not'.zero]) (fun k t hk hI => ?_)
  obtain ⟨i5, i0, i1, iu⟩ := hI
  by_cases hlt : k < l.length
  · have hlt' : (k : Int) < (l.length : Int) := by omega
    have hw : IntKind.i64.wrap ((k : Int) + 1) = (k : Int) + 1 := IntWalk.i64_in _ (by omega)
    have hg : l[k]? = some l[k] := List.getElem?_eq_getElem hlt
    generalize l[k] = x at hg
    unfold l86_0
    simp -dsimp [i5, i1, i0, hlt', ent_ia hg, ent_l0 hg]
    refine condK_of ?_ ?_ <;> intro q <;> simp -dsimp [q, i5, i1, i0, hw]
    · rw [ixI_stop iu hg q]
    · exact ⟨by omega, iu.succ hg q⟩
  · have hkl : k = l.length := by omega
    subst hkl
    unfold l86_0
    simp -dsimp [i5, i0, ixI_none iu]
/-- Its group hasn't stood among the first j. -/
def fstB (l : List Entry) (x : Entry) (j : Nat) : Bool := !decide (x.2.2.2.1 = []) && (l.take j).all fun y => !decide (y.2.2.2.1 = x.2.2.2.1)
theorem fstB_zero (l : List Entry) (x : Entry) : fstB l x 0 = !decide (x.2.2.2.1 = []) := by simp [fstB]
theorem fstB_succ {l : List Entry} {x y : Entry} {j : Nat} (hg : l[j]? = some y) : fstB l x (j + 1) = (fstB l x j && !decide (y.2.2.2.1 = x.2.2.2.1)) := by
  have hj := (List.getElem?_eq_some_iff.1 hg).1
  have ht : l.take (j + 1) = l.take j ++ [y] := by
    rw [List.take_succ_eq_append_getElem hj]
    congr 2
    exact (List.getElem?_eq_some_iff.1 hg).2
  unfold fstB
  rw [ht, List.all_append]
  simp [Bool.and_assoc]
def firstAt (l : List Entry) (k : Nat) : Bool := match l[k]? with
  | some x => fstB l x k
  | none => false
def grpN (l : List Entry) : Nat → Nat
  | 0 => 0
  | k + 1 => grpN l k + if firstAt l k = true then 1 else 0
theorem grpN_le (l : List Entry) : ∀ k, grpN l k ≤ k
  | 0 => Nat.le_refl _
  | k + 1 => by have := grpN_le l k; unfold grpN; split <;> omega
theorem groups_ok (l : List Entry) (hl : l.length < 2 ^ 62) : OkF Try.prog 87 [.ro l.length (fl entCd l)] (.int .i64 (grpN l l.length), []) := by
  refine OkF.W0 hm h87 (of_decide_eq_true rfl) ?_
  have e62 := Go.Ex.e62
  unfold c87
  simp -dsimp
  refine loop_to 4 l.length (fun k t => t.t 4 = .int .i64 k ∧ t.t 0 = .ro l.length (fl entCd l) ∧ t.t 3 = .int .i64 (grpN l k)) (fun k t h => h.1) (by simp -dsimp [grpN]) (fun k t hk hI => ?_)
  obtain ⟨i4, i0, i3⟩ := hI
  by_cases hlt : k < l.length
  · have hlt' : (k : Int) < (l.length : Int) := by omega
    have hw : IntKind.i64.wrap ((k : Int) + 1) = (k : Int) + 1 := IntWalk.i64_in _ (by omega)
    have hle := grpN_le l k
    have hw3 : IntKind.i64.wrap ((grpN l k : Int) + 1) = (grpN l k : Int) + 1 := IntWalk.i64_in _ (by omega)
    have hg : l[k]? = some l[k] := List.getElem?_eq_getElem hlt
    generalize l[k] = x at hg
    have hN : grpN l (k + 1) = grpN l k + if fstB l x k = true then 1 else 0 := by simp [grpN, firstAt, hg]
    unfold l87_1
    simp -dsimp [i4, i0, i3, hlt', ent_ia hg, ent_l3 hg]
    refine loop_to 6 k (fun j s => s.t 6 = .int .i64 j ∧ s.t 4 = .int .i64 k ∧ s.t 0 = .ro l.length (fl entCd l) ∧ s.t 3 = .int .i64 (grpN l k) ∧ s.t 5 = .bool (fstB l x j)) (fun j s h => h.1) (by simp -dsimp [i4, i0, i3, fstB_zero]) (fun j s hj hJ => ?_)
    obtain ⟨j6, j4, j0, j3, j5⟩ := hJ
    by_cases hjk : j < k
    · have hjk' : (j : Int) < (k : Int) := by omega
      have hwj : IntKind.i64.wrap ((j : Int) + 1) = (j : Int) + 1 := IntWalk.i64_in _ (by omega)
      have hgj : l[j]? = some l[j] := List.getElem?_eq_getElem (by omega)
      generalize l[j] = y at hgj
      have hS := fstB_succ (x := x) hgj
      unfold l87_0
      cases b : fstB l x j with
      | true =>
        rw [b] at j5 hS
        simp -dsimp [j6, j4, j0, j3, j5, hjk', hwj, ent_ia hgj, ent_l3 hgj, ent_ia hg, ent_l3 hg, hS]
        exact hjk
      | false =>
        rw [b] at j5 hS
        simp -dsimp [j6, j4, j0, j3, j5, hjk', hwj, hS]
        exact hjk
    · have hkj : j = k := by omega
      subst hkj
      unfold l87_0
      simp -dsimp [j6, j4, j0, j3, j5]
      cases b : fstB l x j with
      | true =>
        rw [b] at hN
        simp -dsimp [j4, j0, j3, j6, hw, hw3, hN]
        omega
      | false =>
        rw [b] at hN
        simp -dsimp [j4, j0, j3, j6, hw, hN]
        omega
  · have hkl : k = l.length := by omega
    subst hkl
    unfold l87_1
    simp -dsimp [i4, i0, i3]
def sV (s : List UInt8) : V := .str s
def bV (b : Bool) : V := .bool b
theorem keyS : KeyOk sV none := keyStr
/-- The groups that stand among the first k, in a map. -/
def MG (l : List Entry) (k : Nat) (t : St) : Prop := ∃ m : List (List UInt8 × Bool), t.t 3 = .mp 0 0 ∧ t.t 7 = .ro l.length (fl entCd l) ∧ 0 < t.nx ∧ t.h 0 = some ⟨0, 0, [], some (kvs sV bV m)⟩ ∧ m.length = grpN l k ∧ ∀ g, g ∈ m.map (·.1) ↔ (g ≠ [] ∧ ∃ y ∈ l.take k, y.2.2.2.1 = g)
theorem putM_len {α β : Type} [DecidableEq α] {a : α} {b : β} {l : List (α × β)} : (putM a b l).length = l.length + if a ∈ l.map (·.1) then 0 else 1 := by
  have h := congrArg List.length (putM_keys (a := a) (b := b) (l := l))
  rw [List.length_map] at h
  rw [h]
  split <;> simp
theorem mem_putM {α β : Type} [DecidableEq α] {a c : α} {b : β} {l : List (α × β)} : c ∈ (putM a b l).map (·.1) ↔ (c ∈ l.map (·.1) ∨ c = a) := by
  rw [putM_keys]
  split
  · rename_i q
    exact ⟨.inl, fun h => by rcases h with h | rfl <;> assumption⟩
  · rw [List.mem_append, List.mem_singleton]
theorem manyGroups_ok (l : List Entry) (hl : l.length < 2 ^ 62) : OkF Try.prog 81 [.ro l.length (fl entCd l)] (.bool (decide (50 < grpN l l.length)), []) := by
  refine OkF.W0 hm h81 (of_decide_eq_true rfl) ?_
  have e62 := Go.Ex.e62
  unfold c81
  simp -dsimp
  refine for_lt l.length (MG l) rfl hl ?_ (by simp -dsimp) (by simp -dsimp) (fun k t hk hI hi hn => ?_) (fun t hI hi hn => ?_)
  · exact ⟨[], by simp -dsimp, by simp -dsimp, by simp -dsimp, by simp -dsimp [kvs], rfl, by simp⟩
  · obtain ⟨m, i3, i7, inx, ih, im, ig⟩ := hI
    have hg : l[k]? = some l[k] := List.getElem?_eq_getElem hk
    have htk : l.take (k + 1) = l.take k ++ [l[k]] := List.take_succ_eq_append_getElem hk
    generalize l[k] = x at hg htk
    have hN : grpN l (k + 1) = grpN l k + if fstB l x k = true then 1 else 0 := by simp [grpN, firstAt, hg]
    have n0 : ¬ 0 = t.nx := by omega
    have sl : (entV x).length = 6 := rfl
    unfold k81_0
    simp -dsimp [i3, i7, hi, hn, ent_ia hg, ent_ld hg, n0, entV]
    generalize hh : upd (upd t.h t.nx _) t.nx _ = h1
    have hx1 : h1 t.nx = some ⟨0, 0, entV x, none⟩ := by rw [← hh]; simp [entV]
    have h10 : h1 0 = t.h 0 := by rw [← hh]; simp [n0]
    rw [ih] at h10
    simp only [entV] at hx1
    have step : ∀ m' : List (List UInt8 × Bool), m'.length = grpN l (k + 1) → (∀ g, g ∈ m'.map (·.1) ↔ (g ≠ [] ∧ ∃ y ∈ l.take (k + 1), y.2.2.2.1 = g)) → ∀ t' : St, t'.t 3 = .mp 0 0 → t'.t 7 = .ro l.length (fl entCd l) → 0 < t'.nx → t'.h 0 = some ⟨0, 0, [], some (kvs sV bV m')⟩ → MG l (k + 1) t' := fun m' a1 a2 t' a3 a4 a5 a6 => ⟨m', a3, a4, a5, a6, a1, a2⟩
    by_cases q : x.2.2.2.1 = []
    · have hf : fstB l x k = false := by simp [fstB, q]
      rw [hf] at hN
      have := step m (by rw [im, hN]; simp) (fun g => by
        rw [ig, htk]
        constructor
        · rintro ⟨h1, y, h2, h3⟩; exact ⟨h1, y, List.mem_append_left _ h2, h3⟩
        · rintro ⟨h1, y, h2, h3⟩
          rw [List.mem_append, List.mem_singleton] at h2
          rcases h2 with h2 | rfl
          · exact ⟨h1, y, h2, h3⟩
          · exact absurd (h3.symm.trans q) h1)
      simp -dsimp [q, i3, i7, hi, hn]
      exact this _ (by simp -dsimp [i3]) (by simp -dsimp [i7]) (by simp -dsimp) (by simp -dsimp [h10])
    · have hput := mset_ok (K := fun _ _ _ _ _ => True) (h := h1) (nx := 0) keyS h10 x.2.2.2.1 true
      have hmem : x.2.2.2.1 ∈ m.map (·.1) ↔ fstB l x k = false := by
        rw [ig]
        unfold fstB
        rw [show (!decide (x.2.2.2.1 = [])) = true by simp [q], Bool.true_and]
        rw [List.all_eq_false]
        simp [q]
      have hlen : (putM x.2.2.2.1 true m).length = grpN l (k + 1) := by
        rw [putM_len, im, hN]
        by_cases f : fstB l x k = true
        · rw [if_pos f, if_neg (by rw [hmem, f]; simp)]
        · rw [if_neg f, if_pos (by rw [hmem]; simpa using f)]
      have := step _ hlen (fun g => by
        rw [mem_putM, ig, htk]
        constructor
        · rintro (⟨h1, y, h2, h3⟩ | rfl)
          · exact ⟨h1, y, List.mem_append_left _ h2, h3⟩
          · exact ⟨q, x, by simp, rfl⟩
        · rintro ⟨h1, y, h2, h3⟩
          rw [List.mem_append, List.mem_singleton] at h2
          rcases h2 with h2 | rfl
          · exact .inl ⟨h1, y, h2, h3⟩
          · exact .inr h3.symm)
      simp -dsimp [q, i3, i7, hi, hn, hx1]
      have hms : ∀ (nx : Nat) K, msetK none (.mp 0 0) (.str x.2.2.2.1) (.bool true) h1 nx K ⟨⟩ = K (.tup []) (upd h1 0 (some ⟨0, 0, [], some (kvs sV bV (putM x.2.2.2.1 true m))⟩)) nx (some [0]) (some [0]) := fun nx K => mset_ok (vv := bV) keyS h10 x.2.2.2.1 true
      rw [hms]
      simp -dsimp [i3, i7, hi, hn]
      exact this _ (by simp -dsimp [i3]) (by simp -dsimp [i7]) (by simp -dsimp) (by simp -dsimp)
  · obtain ⟨m, i3, i7, inx, ih, im, ig⟩ := hI
    simp -dsimp [i3]
    rw [mlen_ok ih]
    simp -dsimp [im]
    omega
end Go.Proofs.P6
end
section
set_option linter.unusedVariables false
set_option linter.unusedSimpArgs false
set_option maxRecDepth 10000
set_option maxHeartbeats 8000000
namespace Go.Proofs.P6
open Go.Ex
def entsE1 (l : List Entry) (k : Nat) : Int := match l[k]? with
  | none => 0
  | some x => if entE x ≠ 0 then entE x else if before l (fun y => !befE y x) k then 8 else 0
/-- Its Id stood before. -/
def dupAt (l : List Entry) (k : Nat) : Bool := match l[k]? with
  | some x => (l.take k).any fun y => decide (y.1 = x.1)
  | none => false
def idN (l : List Entry) : Nat → Nat
  | 0 => 0
  | k + 1 => idN l k + if dupAt l k = true then 0 else 1
def dup7 (l : List Entry) (k : Nat) : Int := if dupAt l k = true then 7 else 0
theorem idN_lt (l : List Entry) : ∀ k, idN l k ≤ k ∧ (idN l k < k ↔ fe (dup7 l) k = 7) ∧ (fe (dup7 l) k = 0 ∨ fe (dup7 l) k = 7)
  | 0 => by simp [idN, fe]
  | k + 1 => by
    obtain ⟨h1, h2, h3⟩ := idN_lt l k
    have e1 : idN l (k + 1) = idN l k + if dupAt l k = true then 0 else 1 := rfl
    have e2 : fe (dup7 l) (k + 1) = if fe (dup7 l) k = 0 then dup7 l k else fe (dup7 l) k := rfl
    rw [e1, e2]
    have hne : ¬ fe (dup7 l) k = 0 → (if fe (dup7 l) k = 0 then dup7 l k else fe (dup7 l) k) = fe (dup7 l) k := fun h => if_neg h
    rcases h3 with h3 | h3
    · have hk : ¬ idN l k < k := by rw [h2, h3]; decide
      rw [if_pos h3]
      unfold dup7
      by_cases d : dupAt l k = true
      · simp only [if_pos d]
        exact ⟨by omega, ⟨fun _ => trivial, fun _ => by omega⟩, .inr trivial⟩
      · simp only [if_neg d]
        exact ⟨by omega, ⟨fun _ => by omega, fun h => by simp at h⟩, .inl trivial⟩
    · have hk := h2.2 h3
      rw [hne (by rw [h3]; decide)]
      by_cases d : dupAt l k = true
      · rw [if_pos d]; exact ⟨by omega, ⟨fun _ => h3, fun _ => by omega⟩, .inr h3⟩
      · rw [if_neg d]; exact ⟨by omega, ⟨fun _ => h3, fun _ => by omega⟩, .inr h3⟩
def entsE (l : List Entry) : Int := if 1000 < l.length then 2 else if fe (entsE1 l) l.length ≠ 0 then fe (entsE1 l) l.length else if fe (dup7 l) l.length ≠ 0 then 7 else if 50 < grpN l l.length then 2 else 0
def iV (n : Int) : V := .int .i64 n
theorem keyI : KeyOk iV (some .i64) := keyInt .i64
def ME (l : List Entry) (k : Nat) (t : St) : Prop := ∃ m : List (Int × Bool), t.t 3 = .mp 0 0 ∧ t.t 0 = .ro l.length (fl entCd l) ∧ t.t 11 = .ro l.length (fl entCd l) ∧ 0 < t.nx ∧ t.h 0 = some ⟨0, 0, [], some (kvs iV bV m)⟩ ∧ m.length = idN l k ∧ (∀ g, g ∈ m.map (·.1) ↔ ∃ y ∈ l.take k, y.1 = g) ∧ fe (entsE1 l) k = 0
theorem CheckEntries_ok (l : List Entry) (hok : ∀ x ∈ l, entOk x) : OkF Try.prog 31 [.ro l.length (fl entCd l)] (.int .i64 (entsE l), []) := by
  refine OkF.W0 hm h31 (of_decide_eq_true rfl) ?_
  have e62 := Go.Ex.e62
  unfold c31
  by_cases h1 : 1000 < l.length
  · have h1' : (1000 < (l.length : Int)) := by omega
    simp -dsimp [h1', entsE, h1]
  have h1' : ¬ (1000 < (l.length : Int)) := by omega
  simp -dsimp [h1']
  have bad : ∀ k v, k < l.length → fe (entsE1 l) k = 0 → entsE1 l k = v → v ≠ 0 → entsE l = v := fun k v hk h0 h2 h3 => by
    have e := fe_stop h0 (by rw [h2]; exact h3) hk
    unfold entsE
    rw [if_neg h1, if_pos (by rw [e, h2]; exact h3), e, h2]
  refine for_lt l.length (ME l) rfl (by omega) ?_ (by simp -dsimp) (by simp -dsimp) (fun k t hk hI hi hn => ?_) (fun t hI hi hn => ?_)
  · exact ⟨[], by simp -dsimp, by simp -dsimp, by simp -dsimp, by simp -dsimp, by simp -dsimp [kvs], rfl, by simp, rfl⟩
  · obtain ⟨m, i3, i0, i11, inx, ih, im, ig, iu⟩ := hI
    have hg : l[k]? = some l[k] := List.getElem?_eq_getElem hk
    have htk : l.take (k + 1) = l.take k ++ [l[k]] := List.take_succ_eq_append_getElem hk
    have hxo := hok l[k] (List.getElem_mem hk)
    generalize l[k] = x at hg htk hxo
    have hN : idN l (k + 1) = idN l k + if ((l.take k).any fun y => decide (y.1 = x.1)) = true then 0 else 1 := by
      show idN l k + (if dupAt l k = true then 0 else 1) = _
      unfold dupAt
      rw [hg]
    have n0 : ¬ 0 = t.nx := by omega
    have n0' : ¬ t.nx = 0 := by omega
    have sl : (entV x).length = 6 := rfl
    obtain ⟨z, hz⟩ := prev_get hg
    have hwk : 0 < k → IntKind.i64.wrap ((k : Int) - 1) = ((k - 1 : Nat) : Int) := fun h => wrap_pred h (by omega)
    have hbp : ∀ p, 0 < k → before l p k = p z := fun p h => before_pos h (hz h)
    unfold k31_0
    simp -dsimp [i3, i0, i11, hi, hn, ent_ia hg, ent_ld hg, n0, entV]
    generalize hh : upd (upd t.h t.nx _) t.nx _ = h1
    have hx1 : h1 t.nx = some ⟨0, 0, entV x, none⟩ := by rw [← hh]; simp [entV]
    have h10 : h1 0 = t.h 0 := by rw [← hh]; simp [n0]
    rw [ih] at h10
    simp only [entV] at hx1
    refine call_int (checkEntry_ok x hxo) ?_
    simp -dsimp
    refine condK_of ?_ ?_ <;> intro q <;> simp -dsimp [q, i3, i0, i11, hi, hn, hx1]
    · have q' : entE x ≠ 0 := by simpa using q
      rw [bad k (entE x) hk iu (by unfold entsE1; rw [hg]; simp [q']) q']
    have q' : entE x = 0 := by simpa using q
    have hms : ∀ (nx : Nat) K, msetK (some .i64) (.mp 0 0) (.int .i64 x.1) (.bool true) h1 nx K ⟨⟩ = K (.tup []) (upd h1 0 (some ⟨0, 0, [], some (kvs iV bV (putM x.1 true m))⟩)) nx (some [0]) (some [0]) := fun nx K => mset_ok (vv := bV) keyI h10 x.1 true
    have hmem : x.1 ∈ m.map (·.1) ↔ ((l.take k).any fun y => decide (y.1 = x.1)) = true := by
      rw [ig, List.any_eq_true]
      simp
    have hlen : (putM x.1 true m).length = idN l (k + 1) := by
      rw [putM_len, im, hN]
      congr 1
      by_cases f : ((l.take k).any fun y => decide (y.1 = x.1)) = true
      · rw [if_pos f, if_pos (hmem.2 f)]
      · rw [if_neg f, if_neg (fun z => f (hmem.1 z))]
    have step : fe (entsE1 l) (k + 1) = 0 → ∀ t' : St, t'.t 3 = .mp 0 0 → t'.t 0 = .ro l.length (fl entCd l) → t'.t 11 = .ro l.length (fl entCd l) → 0 < t'.nx → t'.h 0 = some ⟨0, 0, [], some (kvs iV bV (putM x.1 true m))⟩ → ME l (k + 1) t' := fun a0 t' a1 a2 a3 a4 a5 => by
      refine ⟨_, a1, a2, a3, a4, a5, hlen, fun g => ?_, a0⟩
      rw [mem_putM, ig, htk]
      constructor
      · rintro (⟨y, h2, h3⟩ | rfl)
        · exact ⟨y, List.mem_append_left _ h2, h3⟩
        · exact ⟨x, by simp, rfl⟩
      · rintro ⟨y, h2, h3⟩
        rw [List.mem_append, List.mem_singleton] at h2
        rcases h2 with h2 | rfl
        · exact .inl ⟨y, h2, h3⟩
        · exact .inr h3.symm
    refine wantT_of ?_ ?_ <;> intro a4 <;> simp -dsimp [a4, hx1, i0, hi]
    · have hp : 0 < k := by simpa using a4
      simp -dsimp [hwk hp, ent_ia (hz hp), ent_ld (hz hp), hx1]
      refine call_int (byTime_ok z x) ?_
      have hbb := byT_bef z x
      cases hb : befE z x with
      | false =>
        rw [hb] at hbb
        simp -dsimp [hbb]
        rw [bad k 8 hk iu (by unfold entsE1; rw [hg]; simp [q', hbp _ hp, hb]) (by decide)]
      | true =>
        rw [hb] at hbb
        simp -dsimp [hbb, i3, hx1, hms, hi, hn]
        exact step (fe_step iu (by unfold entsE1; rw [hg]; simp [q', hbp _ hp, hb])) _ (by simp -dsimp [i3]) (by simp -dsimp [i0]) (by simp -dsimp [i11]) (by simp -dsimp) (by simp -dsimp)
    · have hp : ¬ 0 < k := by simpa using a4
      simp -dsimp [i3, hx1, hms, hi, hn]
      exact step (fe_step iu (by unfold entsE1; rw [hg]; simp [q', before_zero hp])) _ (by simp -dsimp [i3]) (by simp -dsimp [i0]) (by simp -dsimp [i11]) (by simp -dsimp) (by simp -dsimp)
  · obtain ⟨m, i3, i0, i11, inx, ih, im, ig, iu⟩ := hI
    have hE : entsE l = if fe (dup7 l) l.length ≠ 0 then 7 else if 50 < grpN l l.length then 2 else 0 := by
      unfold entsE
      rw [if_neg h1, if_neg (by rw [iu]; simp)]
    obtain ⟨g1, g2, g3⟩ := idN_lt l l.length
    simp -dsimp [i3]
    rw [mlen_ok ih]
    simp -dsimp [im, i0]
    by_cases d : idN l l.length < l.length
    · have d' : (idN l l.length : Int) < (l.length : Int) := by omega
      simp -dsimp [d, d']
      rw [hE, if_pos (by rw [g2.1 d]; decide)]
    · have d' : ¬ (idN l l.length : Int) < (l.length : Int) := by omega
      simp -dsimp [d, d', i0]
      have h0 : fe (dup7 l) l.length = 0 := by
        rcases g3 with g | g
        · exact g
        · exact absurd (g2.2 g) d
      rw [if_neg (by rw [h0]; simp)] at hE
      refine call_bool (manyGroups_ok l (by omega)) ?_
      simp -dsimp
      refine condK_of ?_ ?_ <;> intro q <;> simp -dsimp [q]
      · rw [hE, if_pos (by simpa using q)]
      · rw [hE, if_neg (by simpa using q)]
theorem find_dup {l : List Entry} {k : Nat} {x : Entry} (hg : l[k]? = some x) : decide (ixI (fun y => decide (y.1 = x.1)) l < (k : Int)) = dupAt l k := by
  have hk := (List.getElem?_eq_some_iff.1 hg).1
  have hd : dupAt l k = (l.take k).any fun y => decide (y.1 = x.1) := by unfold dupAt; rw [hg]
  rw [hd]
  rcases ixI_cases (fun y => decide (y.1 = x.1)) l with ⟨h1, h2⟩ | ⟨j, a, h1, h2, h3, h4⟩
  · have := h2 x (List.mem_of_getElem? hg)
    simp at this
  · rw [h1]
    rw [Bool.eq_iff_iff]
    simp only [decide_eq_true_eq, List.any_eq_true]
    constructor
    · intro hlt
      have hjk : j < k := by omega
      refine ⟨a, ?_, by simpa using h3⟩
      rw [List.mem_take_iff_getElem]
      exact ⟨j, by omega, (List.getElem?_eq_some_iff.1 h2).2⟩
    · rintro ⟨y, hy, he⟩
      rw [List.mem_take_iff_getElem] at hy
      obtain ⟨i, hi, rfl⟩ := hy
      have : ¬ i < j := fun q => by
        have := h4 i _ q (List.getElem?_eq_getElem (by omega))
        simp only at this
        rw [he] at this
        simp at this
      omega
theorem CheckEntriesRef_ok (l : List Entry) (hok : ∀ x ∈ l, entOk x) : OkF Try.prog 35 [.ro l.length (fl entCd l)] (.int .i64 (entsE l), []) := by
  refine OkF.W0 hm h35 (of_decide_eq_true rfl) ?_
  have e62 := Go.Ex.e62
  unfold c35
  by_cases h1 : 1000 < l.length
  · have h1' : (1000 < (l.length : Int)) := by omega
    simp -dsimp [h1', entsE, h1]
  have h1' : ¬ (1000 < (l.length : Int)) := by omega
  simp -dsimp [h1']
  have bad : ∀ k v, k < l.length → fe (entsE1 l) k = 0 → entsE1 l k = v → v ≠ 0 → entsE l = v := fun k v hk h0 h2 h3 => by
    have e := fe_stop h0 (by rw [h2]; exact h3) hk
    unfold entsE
    rw [if_neg h1, if_pos (by rw [e, h2]; exact h3), e, h2]
  refine loop_to 3 l.length (fun k t => t.t 3 = .int .i64 k ∧ t.t 0 = .ro l.length (fl entCd l) ∧ fe (entsE1 l) k = 0) (fun k t h => h.1) (by simp -dsimp [fe]) (fun k t hk hI => ?_)
  obtain ⟨i3, i0, iu⟩ := hI
  by_cases hlt : k < l.length
  · have hlt' : (k : Int) < (l.length : Int) := by omega
    have hw : IntKind.i64.wrap ((k : Int) + 1) = (k : Int) + 1 := IntWalk.i64_in _ (by omega)
    have hg : l[k]? = some l[k] := List.getElem?_eq_getElem hlt
    have hxo := hok l[k] (List.getElem_mem hlt)
    generalize l[k] = x at hg hxo
    obtain ⟨z, hz⟩ := prev_get hg
    have hwk : 0 < k → IntKind.i64.wrap ((k : Int) - 1) = ((k - 1 : Nat) : Int) := fun h => wrap_pred h (by omega)
    have hbp : ∀ p, 0 < k → before l p k = p z := fun p h => before_pos h (hz h)
    unfold l35_0
    simp -dsimp [i3, i0, hlt', ent_ia hg, ent_ld hg]
    refine call_int (checkEntryRef_ok x hxo) ?_
    simp -dsimp
    refine condK_of ?_ ?_ <;> intro q <;> simp -dsimp [q, i3, i0]
    · have q' : entE x ≠ 0 := by simpa using q
      rw [bad k (entE x) hlt iu (by unfold entsE1; rw [hg]; simp [q']) q']
    have q' : entE x = 0 := by simpa using q
    refine wantT_of ?_ ?_ <;> intro a4 <;> simp -dsimp [a4, i0, i3]
    · have hp : 0 < k := by simpa using a4
      simp -dsimp [hwk hp, ent_ia (hz hp), ent_ld (hz hp), ent_ia hg, ent_ld hg, i0, i3]
      refine call_bool (before_ok z x) ?_
      cases hb : befE z x with
      | false =>
        simp -dsimp
        rw [bad k 8 hlt iu (by unfold entsE1; rw [hg]; simp [q', hbp _ hp, hb]) (by decide)]
      | true =>
        simp -dsimp [i3, i0, hw]
        exact ⟨by omega, fe_step iu (by unfold entsE1; rw [hg]; simp [q', hbp _ hp, hb])⟩
    · have hp : ¬ 0 < k := by simpa using a4
      simp -dsimp [i3, i0, hw]
      exact ⟨by omega, fe_step iu (by unfold entsE1; rw [hg]; simp [q', before_zero hp])⟩
  · have hkl : k = l.length := by omega
    subst hkl
    have hE : entsE l = if fe (dup7 l) l.length ≠ 0 then 7 else if 50 < grpN l l.length then 2 else 0 := by
      unfold entsE
      rw [if_neg h1, if_neg (by rw [iu]; simp)]
    unfold l35_0
    simp -dsimp [i3, i0]
    refine loop_to 5 l.length (fun k t => t.t 5 = .int .i64 k ∧ t.t 0 = .ro l.length (fl entCd l) ∧ fe (dup7 l) k = 0) (fun k t h => h.1) (by simp -dsimp [fe, i0]) (fun j s hj hJ => ?_)
    obtain ⟨j5, j0, ju⟩ := hJ
    by_cases hjl : j < l.length
    · have hjl' : (j : Int) < (l.length : Int) := by omega
      have hw : IntKind.i64.wrap ((j : Int) + 1) = (j : Int) + 1 := IntWalk.i64_in _ (by omega)
      have hg : l[j]? = some l[j] := List.getElem?_eq_getElem hjl
      generalize l[j] = x at hg
      have hfd := find_dup hg
      unfold l35_1
      simp -dsimp [j5, j0, hjl', ent_ia hg, ent_l0 hg]
      refine call_int (find_ok l x.1 (by omega)) ?_
      simp -dsimp [j5]
      rw [hfd]
      cases d : dupAt l j with
      | true =>
        simp -dsimp
        have := fe_stop ju (k := j) (n := l.length) (by unfold dup7; rw [if_pos d]; decide) hjl
        rw [hE, if_pos (by rw [this]; unfold dup7; rw [if_pos d]; decide)]
      | false =>
        simp -dsimp [j5, j0, hw]
        exact ⟨by omega, fe_step ju (by unfold dup7; rw [if_neg (by rw [d]; decide)])⟩
    · have hjl' : j = l.length := by omega
      subst hjl'
      unfold l35_1
      simp -dsimp [j5, j0]
      refine call_int (groups_ok l (by omega)) ?_
      rw [if_neg (by rw [ju]; simp)] at hE
      simp -dsimp
      by_cases q : 50 < grpN l l.length
      · have q' : (50 : Int) < (grpN l l.length : Int) := by omega
        simp -dsimp [q']
        rw [hE, if_pos q]
      · have q' : ¬ (50 : Int) < (grpN l l.length : Int) := by omega
        simp -dsimp [q']
        rw [hE, if_neg q]
end Go.Proofs.P6
end
section
set_option linter.unusedVariables false
set_option linter.unusedSimpArgs false
set_option maxRecDepth 10000
set_option maxHeartbeats 8000000
namespace Go.Proofs.P6
open Go.Ex
theorem OkF.WO {f : Nat} {C : Cmd} {ts : List Nat} {nt : Nat} (hf : compF Try.prog sh f = some (C, ts, nt)) {args : List V} (nt0 : args.length ≤ nt) {r : V × List LB}
    (hw : Ex.W Try.prog C (fun e s => endK e (∃ own : List Nat, own.Nodup ∧ expV s.h own (resV ts s.t) = some r.1 ∧ own.mapM (expB s.h own) = some r.2)) ⟨initT args, none0, 0⟩ ⟨⟩ ⟨⟩) (hpb : ∀ b ∈ r.2, V.pureL b.cells = true ∧ b.mp = none) : OkF Try.prog f args r :=
  OkF.of hm hf nt0 (wpA_mono C (fun e s h => by cases e <;> exact h) hw) hpb
theorem app_ex {h : Hp} {nx id ver : Nat} {l l' : List Entry} {ids : List Nat} {K : V → Hp → Nat → Option (List Nat) → Option (List Nat) → Prop} (hb : h id = some ⟨ver, 6, fl entCd l, none⟩) (hl : l.length ≤ 10000) (hl' : l'.length ≤ 10000) :
    appK 6 72 (.sl id ver 0 l.length none) (some (l'.length, fl entCd l')) h nx ids K ⟨⟩ = K (.sl id (ver + 1) 0 (l ++ l').length none) (upd h id (some ⟨ver + 1, 6, fl entCd (l ++ l'), none⟩)) nx (some (id :: ids)) (some [id]) := by
  have e62 := Go.Ex.e62
  have e47 := Go.Ex.e47
  have hfl : (fl entCd l).length = l.length * 6 := flat_len l
  have ht : (fl entCd l).take (l.length * 6) = fl entCd l := List.take_of_length_le (by omega)
  simp only [appK, appA, hb]
  rw [if_pos ⟨trivial, trivial, trivial, by omega, by omega, by omega⟩]
  simp only [List.drop_zero, ht, fl_append, List.length_append, ite_self]
  rfl
theorem app_ns {h : Hp} {nx : Nat} {l' : List Entry} {ids : List Nat} {K : V → Hp → Nat → Option (List Nat) → Option (List Nat) → Prop} (hl' : l'.length ≤ 10000) (h0 : l' ≠ []) :
    appK 6 72 .ns (some (l'.length, fl entCd l')) h nx ids K ⟨⟩ = K (.sl nx 0 0 l'.length none) (upd h nx (some ⟨0, 6, fl entCd l', none⟩)) (nx + 1) (some (nx :: ids)) (some [nx]) := by
  have e62 := Go.Ex.e62
  have e47 := Go.Ex.e47
  have : l'.length ≠ 0 := fun q => h0 (List.eq_nil_of_length_eq_zero q)
  simp only [appK, appA]
  rw [if_pos ⟨by omega, by omega⟩, if_neg this]
  rfl
theorem app_ns0 {h : Hp} {nx : Nat} {ids : List Nat} {K : V → Hp → Nat → Option (List Nat) → Option (List Nat) → Prop} : appK 6 72 .ns (some (0, [])) h nx ids K ⟨⟩ = K .ns h nx (some ids) (some []) := by
  simp [appK, appA, resK]
/-- Where an entry is put. -/
def insK (l : List Entry) (x : Entry) : Nat → Nat
  | 0 => 0
  | k + 1 => match l[k]? with
    | some y => if befE x y = true then insK l x k else k + 1
    | none => k + 1
theorem insK_le (l : List Entry) (x : Entry) : ∀ k, insK l x k ≤ k
  | 0 => Nat.le_refl _
  | k + 1 => by
    have := insK_le l x k
    unfold insK
    repeat' split
    all_goals omega
def ins (l : List Entry) (x : Entry) : List Entry := l.take (insK l x l.length) ++ [x] ++ l.drop (insK l x l.length)
theorem ins_len (l : List Entry) (x : Entry) : (ins l x).length = l.length + 1 := by
  have := insK_le l x l.length
  simp [ins]
  omega
theorem sliceHi {h : Hp} {nx n : Nat} {l : List Entry} {K : V → Hp → Nat → Option (List Nat) → Option (List Nat) → Prop} (hn : n ≤ l.length) : slcK false (.ro l.length (fl entCd l)) none (some (.int .i64 n)) 6 h nx K ⟨⟩ = K (.ro (l.take n).length (fl entCd (l.take n))) h nx (some []) (some []) := slcK_ro (slc_ro_hi (esz := 6) rfl hn)
theorem sliceLo {h : Hp} {nx n : Nat} {l : List Entry} {K : V → Hp → Nat → Option (List Nat) → Option (List Nat) → Prop} (hn : n ≤ l.length) : slcK false (.ro l.length (fl entCd l)) (some (.int .i64 n)) none 6 h nx K ⟨⟩ = K (.ro (l.drop n).length (fl entCd (l.drop n))) h nx (some []) (some []) := slcK_ro (slc_ro_lo (esz := 6) rfl hn)
theorem putRef_ok (l : List Entry) (x : Entry) (hl : l.length ≤ 5000) : OkF Try.prog 136 [.ro l.length (fl entCd l), .agg (entV x)] (.sl 0 0 0 (ins l x).length none, [⟨0, 6, fl entCd (ins l x), none⟩]) := by
  have e62 := Go.Ex.e62
  refine OkF.WO h136 (of_decide_eq_true rfl) ?_ (fun q hq => ?_)
  · unfold c136
    simp -dsimp [entV]
    generalize hh : upd none0 0 _ = h0
    have hx0 : h0 0 = some ⟨0, 0, entV x, none⟩ := by rw [← hh]; simp [entV]
    have hx0' := hx0
    simp only [entV] at hx0'
    refine loop_dec (fun k t => k ≤ l.length ∧ t.t 5 = .int .i64 k ∧ t.t 0 = .ro l.length (fl entCd l) ∧ t.t 3 = .pt 0 0 0 ∧ t.h = h0 ∧ t.nx = 1 ∧ insK l x l.length = insK l x k) l.length (by simp -dsimp) (fun k t hI => ?_)
    obtain ⟨hk, i5, i0, i3, ih, inx, iu⟩ := hI
    have w1 : ∀ (h : Hp) (nx : Nat) (ids : List Nat) (K : V → Hp → Nat → Option (List Nat) → Option (List Nat) → Prop), appK 6 72 .ns (some (1, [.int .i64 x.1, .int .i64 x.2.1, .str x.2.2.1, .str x.2.2.2.1, .str x.2.2.2.2.1, .bool x.2.2.2.2.2])) h nx ids K ⟨⟩ = K (.sl nx 0 0 1 none) (upd h nx (some ⟨0, 6, fl entCd [x], none⟩)) (nx + 1) (some (nx :: ids)) (some [nx]) := fun h nx ids K => app_ns (l' := [x]) (by simp) (by simp)
    have w2 : ∀ (h : Hp) (nx id ver : Nat) (p : List Entry) (ids : List Nat) (K : V → Hp → Nat → Option (List Nat) → Option (List Nat) → Prop), h id = some ⟨ver, 6, fl entCd p, none⟩ → p.length ≤ 10000 → appK 6 72 (.sl id ver 0 p.length none) (some (1, [.int .i64 x.1, .int .i64 x.2.1, .str x.2.2.1, .str x.2.2.2.1, .str x.2.2.2.2.1, .bool x.2.2.2.2.2])) h nx ids K ⟨⟩ = K (.sl id (ver + 1) 0 (p ++ [x]).length none) (upd h id (some ⟨ver + 1, 6, fl entCd (p ++ [x]), none⟩)) nx (some (id :: ids)) (some [id]) := fun h nx id ver p ids K h1 h2 => app_ex (l' := [x]) h1 h2 (by simp)
    have last : ∀ (h : Hp) (id ver : Nat), h id = some ⟨ver, 6, fl entCd (ins l x), none⟩ → ∃ own : List Nat, own.Nodup ∧ expV h own (.sl id ver 0 (ins l x).length none) = some (.sl 0 0 0 (ins l x).length none) ∧ own.mapM (expB h own) = some [⟨0, 6, fl entCd (ins l x), none⟩] := fun h id ver hb => by
      have hpure : V.pureL (fl entCd (ins l x)) = true := fl_pure _
      refine ⟨[id], by simp, ?_, ?_⟩
      · simp only [expV, exp1, expC, hb]
        simp [ixOf]
      · simp [expB, hb, roL, hpure]
    unfold l136_0
    rcases k with _ | k
    · have s1 : ∀ (h : Hp) (nx : Nat) (K : V → Hp → Nat → Option (List Nat) → Option (List Nat) → Prop), slcK false (.ro l.length (fl entCd l)) none (some (.int .i64 0)) 6 h nx K ⟨⟩ = K (.ro 0 []) h nx (some []) (some []) := fun h nx K => by
        have := sliceHi (h := h) (nx := nx) (K := K) (l := l) (n := 0) (by omega)
        simpa [fl_nil] using this
      have s2 : ∀ (h : Hp) (nx : Nat) (K : V → Hp → Nat → Option (List Nat) → Option (List Nat) → Prop), slcK false (.ro l.length (fl entCd l)) (some (.int .i64 0)) none 6 h nx K ⟨⟩ = K (.ro l.length (fl entCd l)) h nx (some []) (some []) := fun h nx K => by
        have := sliceLo (h := h) (nx := nx) (K := K) (l := l) (n := 0) (by omega)
        simpa using this
      have hfl6 : (fl entCd l).length = l.length * 6 := flat_len l
      have hi : ins l x = [x] ++ l := by
        unfold ins
        rw [iu]
        simp [insK]
      simp -dsimp [i5, i0, i3, ih, inx, s1, app_ns0, hx0', fillA, w1, s2, hfl6]
      rw [hi] at last
      rw [hi]
      have w3 : ∀ (h : Hp) (nx : Nat) (ids : List Nat) (K : V → Hp → Nat → Option (List Nat) → Option (List Nat) → Prop), h 2 = some ⟨0, 6, fl entCd [x], none⟩ → appK 6 72 (.sl 2 0 0 1 none) (some (l.length, fl entCd l)) h nx ids K ⟨⟩ = K (.sl 2 1 0 ([x] ++ l).length none) (upd h 2 (some ⟨1, 6, fl entCd ([x] ++ l), none⟩)) nx (some (2 :: ids)) (some [2]) := fun h nx ids K hb => app_ex (l := [x]) (l' := l) hb (by simp) (by omega)
      rw [w3 _ _ _ _ (by simp)]
      generalize [x] ++ l = r at last
      simp -dsimp
      exact last _ 2 1 (by simp)
    · have hlt : k < l.length := by omega
      have hg : l[k]? = some l[k] := List.getElem?_eq_getElem hlt
      generalize l[k] = y at hg
      have hpos : (0 : Int) < ((k : Int) + 1) := by omega
      have hw : IntKind.i64.wrap ((k : Int)) = (k : Int) := IntWalk.i64_in _ (by omega)
      have hS : insK l x (k + 1) = if befE x y = true then insK l x k else k + 1 := by
        show (match l[k]? with | some y => _ | none => _) = _
        rw [hg]
      simp -dsimp [i5, i0, i3, ih, inx, hpos, hx0', hw, ent_ia hg, ent_ld hg]
      refine call_bool (before_ok x y) ?_
      cases hb : befE x y with
      | true =>
        rw [hb] at hS
        simp -dsimp [i5, i0, i3, ih, inx, hw]
        exact ⟨k, by omega, by omega, rfl, by rw [iu, hS]; rfl⟩
      | false =>
        rw [hb] at hS
        have hK : insK l x l.length = k + 1 := by rw [iu, hS]; rfl
        have hi : ins l x = l.take (k + 1) ++ [x] ++ l.drop (k + 1) := by unfold ins; rw [hK]
        have s1 : ∀ (h : Hp) (nx : Nat) (K : V → Hp → Nat → Option (List Nat) → Option (List Nat) → Prop), slcK false (.ro l.length (fl entCd l)) none (some (.int .i64 ((k : Int) + 1))) 6 h nx K ⟨⟩ = K (.ro (l.take (k + 1)).length (fl entCd (l.take (k + 1)))) h nx (some []) (some []) := fun h nx K => sliceHi (n := k + 1) (by omega)
        have s2 : ∀ (h : Hp) (nx : Nat) (K : V → Hp → Nat → Option (List Nat) → Option (List Nat) → Prop), slcK false (.ro l.length (fl entCd l)) (some (.int .i64 ((k : Int) + 1))) none 6 h nx K ⟨⟩ = K (.ro (l.drop (k + 1)).length (fl entCd (l.drop (k + 1)))) h nx (some []) (some []) := fun h nx K => sliceLo (n := k + 1) (by omega)
        have htl : (l.take (k + 1)).length ≤ 10000 := by rw [List.length_take]; omega
        have hdl : (l.drop (k + 1)).length ≤ 10000 := by rw [List.length_drop]; omega
        have hne0 : 0 < (l.take (k + 1)).length := by rw [List.length_take]; omega
        have hne : l.take (k + 1) ≠ [] := fun q => by rw [q] at hne0; simp at hne0
        rw [hi] at last
        rw [hi]
        have w3 := fun (h : Hp) (nx : Nat) (ids : List Nat) (K : V → Hp → Nat → Option (List Nat) → Option (List Nat) → Prop) => app_ns (h := h) (nx := nx) (ids := ids) (K := K) htl hne
        have w4 := fun (h : Hp) (nx id ver : Nat) (ids : List Nat) (K : V → Hp → Nat → Option (List Nat) → Option (List Nat) → Prop) (hb : h id = some ⟨ver, 6, fl entCd (l.take (k + 1)), none⟩) => w2 h nx id ver (l.take (k + 1)) ids K hb htl
        have hpl : (l.take (k + 1) ++ [x]).length ≤ 10000 := by rw [List.length_append, List.length_take]; simp; omega
        have w5 : ∀ (h : Hp) (nx : Nat) (ids : List Nat) (K : V → Hp → Nat → Option (List Nat) → Option (List Nat) → Prop), h 1 = some ⟨1, 6, fl entCd (l.take (k + 1) ++ [x]), none⟩ → appK 6 72 (.sl 1 1 0 ((l.take (k + 1)).length + 1) none) (some ((l.drop (k + 1)).length, fl entCd (l.drop (k + 1)))) h nx ids K ⟨⟩ =
            K (.sl 1 2 0 (l.take (k + 1) ++ [x] ++ l.drop (k + 1)).length none) (upd h 1 (some ⟨2, 6, fl entCd (l.take (k + 1) ++ [x] ++ l.drop (k + 1)), none⟩)) nx (some (1 :: ids)) (some [1]) := fun h nx ids K hb => by
          have e : (l.take (k + 1) ++ [x]).length = (l.take (k + 1)).length + 1 := by rw [List.length_append, List.length_singleton]
          rw [← e]
          exact app_ex hb hpl hdl
        have hf1 : (fl entCd (l.take (k + 1))).length = (l.take (k + 1)).length * 6 := flat_len _
        have hf2 : (fl entCd (l.drop (k + 1))).length = (l.drop (k + 1)).length * 6 := flat_len _
        clear hne0 htl hdl hpl hne hi hK
        generalize l.take (k + 1) = a at *
        generalize l.drop (k + 1) = b at *
        simp -dsimp [i5, i0, i3, ih, inx, s1, hf1, w3, hx0', fillA]
        rw [w4 _ _ _ _ _ _ (by simp)]
        simp -dsimp [i5, i0, s2, hf2]
        rw [w5 _ _ _ _ (by simp)]
        generalize a ++ [x] ++ b = r at last
        simp -dsimp
        exact last _ 1 2 (by simp)
  · simp at hq
    subst hq
    exact ⟨fl_pure _, rfl⟩
end Go.Proofs.P6
end
section
set_option linter.unusedVariables false
set_option linter.unusedSimpArgs false
set_option maxRecDepth 10000
set_option maxHeartbeats 8000000
namespace Go.Proofs.P6
open Go.Ex
def idI (l : List Entry) (id : Int) : Int := ixI (fun x => decide (x.1 = id)) l
theorem idI_lt (l : List Entry) (id : Int) : idI l id < l.length := by
  unfold idI
  rcases ixI_cases (fun x : Entry => decide (x.1 = id)) l with ⟨h1, _⟩ | ⟨k, a, h1, h2, _⟩
  · rw [h1]; omega
  · rw [h1]
    have := (List.getElem?_eq_some_iff.1 h2).1
    omega
def wo (l : List Entry) (k : Nat) : List Entry := l.take k ++ l.drop (k + 1)
theorem without_ok (l : List Entry) (k : Nat) (hk : k < l.length) (hl : l.length ≤ 5000) : OkF Try.prog 88 [.ro l.length (fl entCd l), .int .i64 k] (.ro (wo l k).length (fl entCd (wo l k)), []) := by
  have e62 := Go.Ex.e62
  have e47 := Go.Ex.e47
  have hw : IntKind.i64.wrap ((k : Int) + 1) = ((k + 1 : Nat) : Int) := by rw [IntWalk.i64_in _ (by omega)]; simp
  have hf1 : (fl entCd (l.take k)).length = (l.take k).length * 6 := flat_len _
  have hf2 : (fl entCd (l.drop (k + 1))).length = (l.drop (k + 1)).length * 6 := flat_len _
  have htl : (l.take k).length ≤ 5000 := by rw [List.length_take]; omega
  have hdl : (l.drop (k + 1)).length ≤ 5000 := by rw [List.length_drop]; omega
  have s1 : ∀ (h : Hp) (nx : Nat) (K : V → Hp → Nat → Option (List Nat) → Option (List Nat) → Prop), slcK false (.ro l.length (fl entCd l)) none (some (.int .i64 k)) 6 h nx K ⟨⟩ = K (.ro (l.take k).length (fl entCd (l.take k))) h nx (some []) (some []) := fun h nx K => sliceHi (by omega)
  have s2 : ∀ (h : Hp) (nx : Nat) (K : V → Hp → Nat → Option (List Nat) → Option (List Nat) → Prop), slcK false (.ro l.length (fl entCd l)) (some (.int .i64 ((k : Int) + 1))) none 6 h nx K ⟨⟩ = K (.ro (l.drop (k + 1)).length (fl entCd (l.drop (k + 1)))) h nx (some []) (some []) := fun h nx K => sliceLo (n := k + 1) (by omega)
  have hw' : IntKind.i64.wrap ((k : Int) + 1) = (k : Int) + 1 := IntWalk.i64_in _ (by omega)
  unfold wo
  generalize l.take k = a at *
  generalize l.drop (k + 1) = b at *
  refine OkF.W0 hm h88 (of_decide_eq_true rfl) ?_
  unfold c88
  simp -dsimp [s1, hf1]
  refine app_acc (d := entCd) (bytes := 72) (l := []) (l' := a) (Acc.nil _ _) rfl rfl (by simp only [List.length_nil]; omega) (by simp only [List.length_nil]; omega) ?_
  intro v1 h1 nx1 hA hnx hfr how
  rw [List.nil_append] at hA
  simp -dsimp [hw', s2, hf2]
  refine app_acc (d := entCd) (bytes := 72) (l' := b) hA rfl rfl (by omega) (by omega) ?_
  intro v2 h2 nx2 hA2 hnx2 hfr2 how2
  have := hA2.ex
  simp -dsimp
  simpa using this
/-- Put to a right schedule. -/
def putE (l : List Entry) (x : Entry) : List Entry × Int := if 0 ≤ idI l x.1 then ([], 7) else if 1000 < (ins l x).length ∨ 50 < grpN (ins l x) (ins l x).length then ([], 2) else (ins l x, 0)
theorem putOf_ok (l : List Entry) (x : Entry) (hl : l.length ≤ 1000) : OkF Try.prog 84 [.ro l.length (fl entCd l), .agg (entV x)] (.tup [.ro (putE l x).1.length (fl entCd (putE l x).1), .int .i64 (putE l x).2], []) := by
  have e62 := Go.Ex.e62
  have hil := ins_len l x
  have hput := putRef_ok l x (by omega)
  refine OkF.W0 hm h84 (of_decide_eq_true rfl) ?_
  unfold c84
  simp -dsimp [entV]
  refine call_int (find_ok l x.1 (by omega)) ?_
  simp -dsimp
  refine condK_of ?_ ?_ <;> intro q <;> simp -dsimp [q]
  · have : putE l x = ([], 7) := by unfold putE; rw [if_pos (by simpa [idI] using q)]
    simp [this, fl_nil]
  have q' : ¬ 0 ≤ idI l x.1 := by simpa [idI] using q
  have hE : putE l x = if 1000 < (ins l x).length ∨ 50 < grpN (ins l x) (ins l x).length then ([], 2) else (ins l x, 0) := by unfold putE; rw [if_neg q']
  simp only [entV] at hput
  refine ⟨_, _, rfl, hput, by simp [okRes, noRef, V.pure], ?_⟩
  simp -dsimp [shift, addB]
  generalize hr : ins l x = r at *
  have e6 : ∀ h : Hp, toRO (upd h 1 (some ⟨0, 6, fl entCd r, none⟩)) 8 (.sl 1 0 0 r.length none) = some (.ro r.length (fl entCd r)) := fun h =>
    Acc.ro (d := entCd) (h := upd h 1 (some ⟨0, 6, fl entCd r, none⟩)) (nx := 2) (v := .sl 1 0 0 r.length none) (l := r) (Acc.mk (by decide) (by simp [upd]; rfl)) (n := 7)
  have e7 : ∀ h : Hp, exp1 (upd h 1 (some ⟨0, 6, fl entCd r, none⟩)) [] (.sl 1 0 0 r.length none) = some (.ro r.length (fl entCd r)) := fun h =>
    Acc.ex1 (d := entCd) (h := upd h 1 (some ⟨0, 6, fl entCd r, none⟩)) (nx := 2) (v := .sl 1 0 0 r.length none) (l := r) (Acc.mk (by decide) (by simp [upd]; rfl))
  by_cases big : 1000 < r.length
  · have big' : (1000 : Int) < (r.length : Int) := by omega
    simp -dsimp [big']
    rw [hE, if_pos (.inl big)]
    simp [fl_nil]
  · have big' : ¬ (1000 : Int) < (r.length : Int) := by omega
    simp -dsimp [big', e6]
    refine call_int (groups_ok r (by omega)) ?_
    by_cases g : 50 < grpN r r.length
    · have g' : (50 : Int) < (grpN r r.length : Int) := by omega
      simp -dsimp [g']
      rw [hE, if_pos (.inr g)]
      simp [fl_nil]
    · have g' : ¬ (50 : Int) < (grpN r r.length : Int) := by omega
      simp -dsimp [g']
      rw [hE, if_neg (by rintro (h | h) <;> contradiction)]
      simp [e7]
def PutE (l : List Entry) (x : Entry) : List Entry × Int := if entsE l ≠ 0 then ([], entsE l) else if entE x ≠ 0 then ([], entE x) else putE l x
theorem ents_le {l : List Entry} (h : entsE l = 0) : l.length ≤ 1000 := by
  unfold entsE at h
  split at h
  · cases h
  · omega
theorem PutRef_ok (l : List Entry) (x : Entry) (hok : ∀ x ∈ l, entOk x) (hx : entOk x) : OkF Try.prog 34 [.ro l.length (fl entCd l), .agg (entV x)] (.tup [.ro (PutE l x).1.length (fl entCd (PutE l x).1), .int .i64 (PutE l x).2], []) := by
  have hc := checkEntryRef_ok x hx
  have hp := fun h => putOf_ok l x h
  simp only [entV] at hc hp
  refine OkF.W0 hm h34 (of_decide_eq_true rfl) ?_
  unfold c34
  simp -dsimp [entV]
  refine call_int (CheckEntriesRef_ok l hok) ?_
  simp -dsimp
  refine condK_of ?_ ?_ <;> intro q <;> simp -dsimp [q]
  · have q' : entsE l ≠ 0 := by simpa using q
    have : PutE l x = ([], entsE l) := by unfold PutE; rw [if_pos q']
    simp [this, fl_nil]
  have q' : entsE l = 0 := by simpa using q
  refine call_int hc ?_
  simp -dsimp
  refine condK_of ?_ ?_ <;> intro q1 <;> simp -dsimp [q1]
  · have q1' : entE x ≠ 0 := by simpa using q1
    have : PutE l x = ([], entE x) := by unfold PutE; rw [if_neg (by simp [q']), if_pos q1']
    simp [this, fl_nil]
  have q1' : entE x = 0 := by simpa using q1
  have hE : PutE l x = putE l x := by unfold PutE; rw [if_neg (by simp [q']), if_neg (by simp [q1'])]
  rw [hE]
  refine call_one (hp (ents_le q')) (okRes_of (by simp)) ?_
  simp -dsimp
def DropE (l : List Entry) (id : Int) : List Entry × Int := if entsE l ≠ 0 then ([], entsE l) else if idI l id < 0 then ([], 9) else (wo l (idI l id).toNat, 0)
theorem DropRef_ok (l : List Entry) (id : Int) (hok : ∀ x ∈ l, entOk x) : OkF Try.prog 36 [.ro l.length (fl entCd l), .int .i64 id] (.tup [.ro (DropE l id).1.length (fl entCd (DropE l id).1), .int .i64 (DropE l id).2], []) := by
  refine OkF.W0 hm h36 (of_decide_eq_true rfl) ?_
  unfold c36
  simp -dsimp
  refine call_int (CheckEntriesRef_ok l hok) ?_
  simp -dsimp
  refine condK_of ?_ ?_ <;> intro q <;> simp -dsimp [q]
  · have q' : entsE l ≠ 0 := by simpa using q
    have : DropE l id = ([], entsE l) := by unfold DropE; rw [if_pos q']
    simp [this, fl_nil]
  have q' : entsE l = 0 := by simpa using q
  have hl := ents_le q'
  have e62 := Go.Ex.e62
  refine call_int (find_ok l id (by omega)) ?_
  simp -dsimp
  refine condK_of ?_ ?_ <;> intro q1 <;> simp -dsimp [q1]
  · have : DropE l id = ([], 9) := by unfold DropE; rw [if_neg (by simp [q']), if_pos (by simpa [idI] using q1)]
    simp [this, fl_nil]
  have q1' : ¬ idI l id < 0 := by simpa [idI] using q1
  have hE : DropE l id = (wo l (idI l id).toNat, 0) := by unfold DropE; rw [if_neg (by simp [q']), if_neg q1']
  have hlt := idI_lt l id
  have hwo := without_ok l (idI l id).toNat (by omega) (by omega)
  rw [show (((idI l id).toNat : Nat) : Int) = idI l id by omega] at hwo
  rw [hE]
  refine call_one hwo (okRes_of (by simp)) ?_
  simp -dsimp
end Go.Proofs.P6
end
section
set_option linter.unusedVariables false
set_option linter.unusedSimpArgs false
set_option maxRecDepth 10000
set_option maxHeartbeats 8000000
namespace Go.Proofs.P6
open Go.Ex
theorem isId_ok (id : Int) (x : Entry) {h : Hp} {nx b : Nat} (hb : b < nx) (hh : h b = some ⟨0, 0, [.int .i64 id], none⟩) : SEx Try.prog 163 [.agg (entCd.cells x), .pt b 0 0] h nx (Quiet (.bool (decide (x.1 = id))) h nx) := by
  have hne : b ≠ nx := by omega
  have e : entCd.cells x = entV x := rfl
  rw [e]
  refine SEx.of hm h163 (of_decide_eq_true rfl) ?_
  unfold c163
  simp -dsimp [hne, hh, entV]
  refine ⟨rfl, by simp, fun j hj => ?_⟩
  have : j ≠ nx := by omega
  simp [this]
theorem index_ok (l : List Entry) (id : Int) (hl : l.length < 2 ^ 62) : OkF Try.prog 129 [.ro l.length (fl entCd l), .int .i64 id] (.int .i64 (idI l id), []) := by
  refine OkF.W0 hm h129 (of_decide_eq_true rfl) ?_
  unfold c129
  simp -dsimp
  refine shr_ex (indexFunc_ok (d := entCd) hm h89 rfl (by decide) l hl (fun x => decide (x.1 = id)) (by kernel_rfl) fun a ha h' nx' h1 h2 => isId_ok id a (by omega) (by rw [h2 0 (by omega)]; simp)) ?_
  rintro v h' nx' ⟨rfl, q1, q2⟩
  simp -dsimp [idI]
/-- A function that answers pure values, as one that shares. -/
theorem SOk.pure {f : Nat} {args us : List V} {h : Hp} {nx : Nat} {v : V} (hok : OkF Try.prog f us (v, [])) (ha : args.mapM (toRO h 8) = some us) (hr : okRes args (v, []) = true) : SOk Try.prog f args h nx (shift nx v) h nx := by
  intro w0 w φ S vs hf hR hv
  refine (calls_pure (nx := nx) hR (fun id h1 h2 => by simp at h2; omega) hv ha hok hr).mono fun e w' he => ?_
  obtain ⟨x, φ', S', rfl, q1, q2, q3, q4⟩ := he
  exact ⟨x, φ', S', rfl, q1, q2, fun b hb hlt => q3 b hb (Nat.lt_of_lt_of_le hlt hR.base), hf, q4⟩
end Go.Proofs.P6
end
section
set_option linter.unusedVariables false
set_option linter.unusedSimpArgs false
set_option maxRecDepth 10000
set_option maxHeartbeats 8000000
namespace Go.Proofs.P6
open Go.Ex
theorem byTime_ex (a b : Entry) {h : Hp} {nx : Nat} : SEx Try.prog 80 ([.agg (entV a), .agg (entV b)] ++ []) h nx (fun v h' nx' => v = .int .i64 (byT a b) ∧ h' = h ∧ nx' = nx) := by
  have hpa : V.pureL (entV a) = true := rfl
  have hpb : V.pureL (entV b) = true := rfl
  have := SOk.pure (h := h) (nx := nx) (byTime_ok a b) (args := [.agg (entV a), .agg (entV b)]) (by simp [toRO, hpa, hpb]) (by simp [okRes, noRef, V.pure, hpa, hpb])
  exact ⟨_, _, _, ⟨rfl, rfl, rfl⟩, this⟩
def BI (l : List Entry) (x : Entry) (p : Nat) (h0 : Hp) (nx : Nat) (n : Nat) (t : St) : Prop := ∃ i j : Nat, n = j - i ∧ i ≤ p ∧ p ≤ j ∧ j ≤ l.length ∧ t.t 9 = .int .i64 i ∧ t.t 10 = .int .i64 j ∧ t.t 0 = .ro l.length (fl entCd l) ∧ t.t 2 = .fn 80 [] ∧ t.t 4 = .pt nx 0 0 ∧ t.t 8 = .int .i64 l.length ∧ t.h = h0 ∧ t.nx = nx + 1
theorem bs_ok (l : List Entry) (x : Entry) (p : Nat) (hl : l.length ≤ 5000) (hp : p ≤ l.length) (hM : ∀ (k : Nat) y, l[k]? = some y → decide (byT y x < 0) = decide (k < p)) {h : Hp} {nx : Nat} :
    SEx Try.prog 130 [.ro l.length (fl entCd l), .agg (entV x), .fn 80 []] h nx (fun v h' nx' => (∃ b, v = .tup [.int .i64 p, .bool b]) ∧ nx ≤ nx' ∧ ∀ j, j < nx → h' j = h j) := by
  have e62 := Go.Ex.e62
  refine SEx.of hm h130 (of_decide_eq_true rfl) ?_
  unfold c130
  simp -dsimp [entV]
  generalize hh : upd h nx _ = h0
  have hx0 : h0 nx = some ⟨0, 0, entV x, none⟩ := by rw [← hh]; simp [entV]
  have hfr : ∀ j, j < nx → h0 j = h j := fun j hj => by rw [← hh]; simp [show ¬ j = nx by omega]
  have sl : (entV x).length = 6 := rfl
  refine loop_dec (BI l x p h0 nx) l.length ?_ (fun n t hI => ?_)
  · exact ⟨0, l.length, rfl, by omega, hp, Nat.le_refl _, by simp -dsimp, by simp -dsimp, by simp -dsimp, by simp -dsimp, by simp -dsimp, by simp -dsimp, by simp -dsimp, by simp -dsimp⟩
  · obtain ⟨i, j, hn, hip, hpj, hjl, i9, i10, i0, i2, i4, i8, ih, inx⟩ := hI
    unfold l130_0
    by_cases hij : i < j
    · have hij' : (i : Int) < (j : Int) := by omega
      have hw1 : IntKind.i64.wrap ((i : Int) + (j : Int)) = (i : Int) + (j : Int) := IntWalk.i64_in _ (by omega)
      have hw2 : IntKind.u64.wrap ((i : Int) + (j : Int)) = (i : Int) + (j : Int) := IntWalk.u64_in _ (by omega)
      have hfd : ((i : Int) + (j : Int)).fdiv (2 ^ min 1 IntKind.u64.bits) = (((i + j) / 2 : Nat) : Int) := by
        have : (2 : Int) ^ min 1 IntKind.u64.bits = 2 := by decide
        rw [this, Int.fdiv_eq_ediv_of_nonneg _ (by omega)]
        omega
      have hw3 : IntKind.i64.wrap (((i + j) / 2 : Nat) : Int) = (((i + j) / 2 : Nat) : Int) := IntWalk.i64_in _ (by omega)
      have hm1 : i ≤ (i + j) / 2 := by omega
      have hm2 : (i + j) / 2 < j := by omega
      generalize (i + j) / 2 = m at hfd hw3 hm1 hm2
      have hg : l[m]? = some l[m] := List.getElem?_eq_getElem (by omega)
      generalize l[m] = y at hg
      have hMy := hM m y hg
      have hw4 : IntKind.i64.wrap ((m : Int) + 1) = (m : Int) + 1 := IntWalk.i64_in _ (by omega)
      simp -dsimp [i9, i10, i0, i2, i4, ih, inx, hij', hw1, hw2, hfd, hw3, ent_ia hg, ent_ld hg, hx0, sl]
      refine calv_ex (by kernel_rfl) (byTime_ex y x) ?_
      rintro v h' nx' ⟨rfl, rfl, rfl⟩
      simp -dsimp [hMy]
      by_cases hmp : m < p
      · simp -dsimp [hmp, hw4, i9, i10, i0, i2, i4, i8]
        exact ⟨j - (m + 1), by omega, m + 1, j, rfl, by omega, by omega, by omega, by simp -dsimp, by simp -dsimp [i10], by simp -dsimp [i0], by simp -dsimp [i2], by simp -dsimp [i4], by simp -dsimp [i8], by simp -dsimp, by simp -dsimp⟩
      · simp -dsimp [hmp, i9, i10, i0, i2, i4, i8]
        exact ⟨m - i, by omega, i, m, rfl, by omega, by omega, by omega, by simp -dsimp [i9], by simp -dsimp, by simp -dsimp [i0], by simp -dsimp [i2], by simp -dsimp [i4], by simp -dsimp [i8], by simp -dsimp, by simp -dsimp⟩
    · have : i = p := by omega
      subst this
      have hij' : ¬ (i : Int) < (j : Int) := by omega
      simp -dsimp [i9, i10, i0, i2, i4, i8, ih, inx, hij', hx0]
      by_cases hil : i < l.length
      · have hg : l[i]? = some l[i] := List.getElem?_eq_getElem hil
        generalize l[i] = y at hg
        simp -dsimp [hil, i0, i9, i4, ent_ia hg, ent_ld hg, hx0, sl, i2]
        refine calv_ex (by kernel_rfl) (byTime_ex y x) ?_
        rintro v h' nx' ⟨rfl, rfl, rfl⟩
        simp -dsimp
        exact hfr
      · simp -dsimp [hil]
        exact hfr
end Go.Proofs.P6
end
section
set_option linter.unusedVariables false
set_option linter.unusedSimpArgs false
namespace Go.Proofs.P6
open Go.Ex
theorem insK_spec (l : List Entry) (x : Entry) : ∀ n, n ≤ l.length → (∀ (k : Nat) y, insK l x n ≤ k → k < n → l[k]? = some y → befE x y = true) ∧ (∀ y, 0 < insK l x n → l[insK l x n - 1]? = some y → befE x y = false)
  | 0, _ => ⟨fun k y _ h => by omega, fun y h => by simp [insK] at h⟩
  | n + 1, hn => by
    obtain ⟨h1, h2⟩ := insK_spec l x n (by omega)
    have hg : l[n]? = some l[n] := List.getElem?_eq_getElem (by omega)
    have hS : insK l x (n + 1) = if befE x l[n] = true then insK l x n else n + 1 := by
      show (match l[n]? with | some y => _ | none => _) = _
      rw [hg]
    rw [hS]
    by_cases b : befE x l[n] = true
    · rw [if_pos b]
      refine ⟨fun k y hk hlt hy => ?_, h2⟩
      by_cases q : k < n
      · exact h1 k y hk q hy
      · have : k = n := by omega
        subst this
        rw [hg] at hy
        injection hy with hy
        rw [← hy]; exact b
    · rw [if_neg b]
      refine ⟨fun k y hk hlt hy => by omega, fun y _ hy => ?_⟩
      rw [Nat.add_sub_cancel, hg] at hy
      injection hy with hy
      rw [← hy]
      simpa using b
theorem befE_trans {a b c : Entry} (h1 : befE a b = true) (h2 : befE b c = true) : befE a c = true := by
  simp [befE] at h1 h2 ⊢
  omega
theorem befE_total {a b : Entry} (h : a.1 ≠ b.1) : befE a b = !befE b a := by
  rw [Bool.eq_iff_iff]
  simp [befE]
  omega
theorem byT_lt (a b : Entry) : decide (byT a b < 0) = befE a b := by
  have := byT_bef a b
  by_cases h : 0 ≤ byT a b
  · rw [decide_eq_true h] at this
    have hb : befE a b = false := by simpa using this.symm
    rw [hb, decide_eq_false (by omega)]
  · rw [decide_eq_false h] at this
    have hb : befE a b = true := by simpa using this.symm
    rw [hb, decide_eq_true (by omega)]
theorem ents_sorted {l : List Entry} (h : entsE l = 0) : ∀ (d i : Nat) (a b : Entry), l[i]? = some a → l[i + 1 + d]? = some b → befE a b = true := by
  have h1 : fe (entsE1 l) l.length = 0 := by
    unfold entsE at h
    split at h
    · cases h
    · split at h
      · rename_i q; exact absurd h q
      · rename_i q; simpa using q
  have next : ∀ (i : Nat) a b, l[i]? = some a → l[i + 1]? = some b → befE a b = true := fun i a b ha hb => by
    have := fe_zero h1 (i + 1) (List.getElem?_eq_some_iff.1 hb).1
    unfold entsE1 at this
    rw [hb] at this
    simp only at this
    split at this
    · rename_i q; exact absurd this q
    · rw [before_pos (by omega) (by simpa using ha)] at this
      simpa using this
  intro d
  induction d with
  | zero => exact next
  | succ d ih =>
    intro i a b ha hb
    have hl := (List.getElem?_eq_some_iff.1 hb).1
    have hg : l[i + 1 + d]? = some l[i + 1 + d] := List.getElem?_eq_getElem (by omega)
    exact befE_trans (ih i a _ ha hg) (next (i + 1 + d) _ b hg hb)
theorem idI_none {l : List Entry} {id : Int} (h : idI l id < 0) : ∀ y ∈ l, y.1 ≠ id := by
  have := ixI_neg.1 h
  rw [List.any_eq_false] at this
  intro y hy
  simpa using this y hy
/-- What halving finds. -/
theorem insK_half {l : List Entry} {x : Entry} (h : entsE l = 0) (hx : idI l x.1 < 0) (k : Nat) (y : Entry) (hy : l[k]? = some y) : decide (byT y x < 0) = decide (k < insK l x l.length) := by
  obtain ⟨h1, h2⟩ := insK_spec l x l.length (Nat.le_refl _)
  have hk := (List.getElem?_eq_some_iff.1 hy).1
  have hne := idI_none hx y (List.mem_of_getElem? hy)
  rw [byT_lt, befE_total hne]
  by_cases q : k < insK l x l.length
  · rw [decide_eq_true q]
    have hle := insK_le l x l.length
    have hg : l[insK l x l.length - 1]? = some (l[insK l x l.length - 1]'(by omega)) := List.getElem?_eq_getElem (by omega)
    have hz := h2 _ (by omega) hg
    generalize l[insK l x l.length - 1]'(by omega) = z at hg hz
    have hnz := idI_none hx z (List.mem_of_getElem? hg)
    by_cases e : k = insK l x l.length - 1
    · rw [e, hg] at hy
      injection hy with hy
      rw [← hy, hz]; rfl
    · have hyz := ents_sorted h (insK l x l.length - 1 - k - 1) k y z hy (by rw [← hg]; congr 1; omega)
      have hzx : befE z x = true := by rw [befE_total hnz, hz]; rfl
      have := befE_trans hyz hzx
      rw [befE_total hne] at this
      exact this
  · rw [decide_eq_false q, h1 k y (by omega) hk hy]
    rfl
end Go.Proofs.P6
end
section
set_option linter.unusedVariables false
set_option linter.unusedSimpArgs false
namespace Go.Proofs.P6
open Go.Ex
def k67_0 : Cmd := (.block 1 (.seq (.reg false [⟨(some 9), none, (.iaddr (.t 5) (.t 7) 1), []⟩, ⟨(some 10), none, (.ld (.t 9) none), []⟩, ⟨(some 4), none, (.mov (.t 10)), []⟩]) (.seq (.reg false [⟨(some 11), none, (.mov (.t 4)), []⟩, ⟨(some 12), none, (.bin .neq (.t 11) (.c (.int .i64 0))), []⟩]) (.cond (.t 12) (.seq (.reg false [⟨(some 13), none, (.mov (.t 4)), []⟩, ⟨(some 2), none, (.mov (.t 13)), []⟩]) .ret) .skip))))
abbrev l67_0 : Cmd := cnt 0 8 7 6 14 k67_0
def c67 : Cmd := (.seq (.reg false [⟨(some 2), none, (.mov (.c (.int .i64 0))), []⟩]) (.seq (.seq (.reg false [⟨(some 5), none, (.mov (.t 0)), []⟩, ⟨(some 6), none, (.len false (.t 5)), []⟩, ⟨(some 7), none, (.mov (.c (.int .i64 0))), []⟩]) (.block 0 (.loop l67_0))) (.seq (.reg false [⟨(some 2), none, (.mov (.c (.int .i64 0))), []⟩]) .ret)))
theorem h67 : compF Try.prog sh 67 = some (c67, [2], 15) := by kernel_rfl
def c37 : Cmd := (.seq (.reg false [⟨(some 3), none, (.box (.t 1)), []⟩, ⟨(some 4), none, (.alloc [(.int .i64 0), (.int .i64 0), (.str []), (.str []), (.str []), (.bool false)]), []⟩, ⟨(some 5), none, (.mov (.c (.bool false))), []⟩, ⟨(some 6), none, (.mov (.c (.int .i64 0))), []⟩]) (.seq (.seq (.reg true [⟨(some 9), none, (.mov (.t 0)), []⟩, ⟨(some 10), none, (.call 31 [(.t 9)]), []⟩, ⟨(some 11), none, (.ld (.t 3) none), [1]⟩, ⟨(some 12), none, (.call 69 [(.t 11), (.c (.int .i64 0)), (.c (.int .i64 1000000000000))]), []⟩, ⟨(some 13), none, (.bs 2 1 [(.int .i64 0)] [(0, (.t 10)), (1, (.t 12))]), []⟩, ⟨(some 14), none, (.call 67 [(.t 13)]), []⟩, ⟨(some 7), none, (.mov (.t 14)), []⟩]) (.seq (.reg false [⟨(some 15), none, (.mov (.t 7)), []⟩, ⟨(some 16), none, (.bin .neq (.t 15) (.c (.int .i64 0))), []⟩]) (.cond (.t 16) (.seq (.reg false [⟨(some 17), none, (.bld [(.int .i64 0), (.int .i64 0), (.str []), (.str []), (.str []), (.bool false)] []), []⟩, ⟨(some 18), none, (.mov (.t 7)), []⟩, ⟨none, none, (.st (.t 4) (.t 17) 6), []⟩, ⟨(some 5), none, (.mov (.c (.bool false))), []⟩, ⟨(some 6), none, (.mov (.t 18)), []⟩]) .ret) .skip))) (.seq (.reg false [⟨(some 19), none, (.mov (.t 0)), []⟩, ⟨(some 20), none, (.fnc 90 [(.t 3)]), []⟩, ⟨(some 21), none, (.shr 89 [(.t 19), (.t 20)]), []⟩, ⟨(some 8), none, (.mov (.t 21)), []⟩]) (.seq (.seq (.reg false [⟨(some 22), none, (.mov (.t 8)), []⟩, ⟨(some 23), none, (.bin .lss (.t 22) (.c (.int .i64 0))), []⟩]) (.cond (.t 23) (.seq (.reg false [⟨(some 24), none, (.bld [(.int .i64 0), (.int .i64 0), (.str []), (.str []), (.str []), (.bool false)] []), []⟩, ⟨none, none, (.st (.t 4) (.t 24) 6), []⟩, ⟨(some 5), none, (.mov (.c (.bool false))), []⟩, ⟨(some 6), none, (.mov (.c (.int .i64 0))), []⟩]) .ret) .skip)) (.seq (.reg false [⟨(some 25), none, (.mov (.t 0)), []⟩, ⟨(some 26), none, (.mov (.t 8)), []⟩, ⟨(some 27), none, (.iaddr (.t 25) (.t 26) 6), []⟩, ⟨(some 28), none, (.ld (.t 27) (some 6)), []⟩, ⟨none, none, (.st (.t 4) (.t 28) 6), []⟩, ⟨(some 5), none, (.mov (.c (.bool true))), []⟩, ⟨(some 6), none, (.mov (.c (.int .i64 0))), []⟩]) .ret)))))
theorem h37 : compG Try.prog sh 37 = some (c37, [(.cell 4 (some 6)), (.tmp 5), (.tmp 6)], 29) := by kernel_rfl
def c90 : Cmd := (.seq (.reg false [⟨(some 2), none, (.box (.t 0)), []⟩, ⟨(some 3), none, (.mov (.c (.bool false))), []⟩]) (.seq (.reg false [⟨(some 4), none, (.faddr (.t 2) 1), []⟩, ⟨(some 5), none, (.ld (.t 4) none), []⟩, ⟨(some 6), none, (.ld (.t 1) none), []⟩, ⟨(some 7), none, (.bin .geq (.t 5) (.t 6)), []⟩, ⟨(some 3), none, (.mov (.t 7)), []⟩]) .ret))
theorem h90 : compF Try.prog sh 90 = some (c90, [3], 8) := by kernel_rfl
def l38_0 : Cmd := (.seq (.seq (.reg false [⟨(some 19), none, (.mov (.t 8)), []⟩, ⟨(some 20), none, (.mov (.t 0)), []⟩, ⟨(some 21), none, (.len false (.t 20)), []⟩, ⟨(some 22), none, (.bin .lss (.t 19) (.t 21)), []⟩]) (.cond (.t 22) .skip (.exit 0))) (.seq (.block 1 (.seq (.reg false [⟨(some 25), none, (.mov (.t 0)), []⟩, ⟨(some 26), none, (.mov (.t 8)), []⟩, ⟨(some 27), none, (.iaddr (.t 25) (.t 26) 6), []⟩, ⟨(some 28), none, (.faddr (.t 27) 1), []⟩, ⟨(some 29), none, (.ld (.t 28) none), []⟩, ⟨(some 30), none, (.mov (.t 1)), []⟩, ⟨(some 31), none, (.bin .geq (.t 29) (.t 30)), []⟩]) (.cond (.t 31) (.seq (.reg false [⟨(some 32), none, (.mov (.t 0)), []⟩, ⟨(some 33), none, (.mov (.t 8)), []⟩, ⟨(some 34), none, (.iaddr (.t 32) (.t 33) 6), []⟩, ⟨(some 35), none, (.ld (.t 34) (some 6)), []⟩, ⟨none, none, (.st (.t 4) (.t 35) 6), []⟩, ⟨(some 5), none, (.mov (.c (.bool true))), []⟩, ⟨(some 6), none, (.mov (.c (.int .i64 0))), []⟩]) .ret) .skip))) (.reg false [⟨(some 23), none, (.mov (.t 8)), []⟩, ⟨(some 24), none, (.bin .add (.t 23) (.c (.int .i64 1))), []⟩, ⟨(some 8), none, (.mov (.t 24)), []⟩])))
def c38 : Cmd := (.seq (.reg false [⟨(some 4), none, (.alloc [(.int .i64 0), (.int .i64 0), (.str []), (.str []), (.str []), (.bool false)]), []⟩, ⟨(some 5), none, (.mov (.c (.bool false))), []⟩, ⟨(some 6), none, (.mov (.c (.int .i64 0))), []⟩]) (.seq (.seq (.reg false [⟨(some 9), none, (.mov (.t 0)), []⟩, ⟨(some 10), none, (.call 35 [(.t 9)]), []⟩, ⟨(some 7), none, (.mov (.t 10)), []⟩]) (.seq (.reg false [⟨(some 11), none, (.mov (.t 7)), []⟩, ⟨(some 12), none, (.bin .neq (.t 11) (.c (.int .i64 0))), []⟩]) (.cond (.t 12) (.seq (.reg false [⟨(some 13), none, (.bld [(.int .i64 0), (.int .i64 0), (.str []), (.str []), (.str []), (.bool false)] []), []⟩, ⟨(some 14), none, (.mov (.t 7)), []⟩, ⟨none, none, (.st (.t 4) (.t 13) 6), []⟩, ⟨(some 5), none, (.mov (.c (.bool false))), []⟩, ⟨(some 6), none, (.mov (.t 14)), []⟩]) .ret) .skip))) (.seq (.seq (.reg false [⟨(some 15), none, (.mov (.t 1)), []⟩, ⟨(some 16), none, (.call 73 [(.t 15)]), []⟩, ⟨(some 17), none, (.un .not (.t 16)), []⟩]) (.cond (.t 17) (.seq (.reg false [⟨(some 18), none, (.bld [(.int .i64 0), (.int .i64 0), (.str []), (.str []), (.str []), (.bool false)] []), []⟩, ⟨none, none, (.st (.t 4) (.t 18) 6), []⟩, ⟨(some 5), none, (.mov (.c (.bool false))), []⟩, ⟨(some 6), none, (.mov (.c (.int .i64 1))), []⟩]) .ret) .skip)) (.seq (.seq (.reg false [⟨(some 8), none, (.mov (.c (.int .i64 0))), []⟩]) (.block 0 (.loop l38_0))) (.seq (.reg false [⟨(some 36), none, (.bld [(.int .i64 0), (.int .i64 0), (.str []), (.str []), (.str []), (.bool false)] []), []⟩, ⟨none, none, (.st (.t 4) (.t 36) 6), []⟩, ⟨(some 5), none, (.mov (.c (.bool false))), []⟩, ⟨(some 6), none, (.mov (.c (.int .i64 0))), []⟩]) .ret)))))
theorem h38 : compG Try.prog sh 38 = some (c38, [(.cell 4 (some 6)), (.tmp 5), (.tmp 6)], 37) := by kernel_rfl
def c32 : Cmd := (.seq (.reg false [⟨(some 3), none, (.box (.t 1)), []⟩, ⟨(some 4), none, (.mov (.c (.bool false))), []⟩]) (.seq (.reg false [⟨(some 5), none, (.mov (.t 0)), []⟩, ⟨(some 6), none, (.ld (.t 3) (some 6)), []⟩, ⟨(some 7), none, (.call 82 [(.t 5), (.t 6)]), []⟩, ⟨(some 8), none, (.bin .geq (.t 7) (.c (.int .i64 0))), []⟩, ⟨(some 4), none, (.mov (.t 8)), []⟩]) .ret))
theorem h32 : compF Try.prog sh 32 = some (c32, [4], 9) := by kernel_rfl
def k82_0 : Cmd := (.block 1 (.seq (.reg false [⟨(some 10), none, (.mov (.t 8)), []⟩, ⟨(some 5), none, (.mov (.t 10)), []⟩]) (.seq (.reg true [⟨(some 11), none, (.ld (.t 3) (some 6)), []⟩, ⟨(some 12), none, (.mov (.t 0)), []⟩, ⟨(some 13), none, (.mov (.t 5)), []⟩, ⟨(some 14), none, (.iaddr (.t 12) (.t 13) 6), []⟩, ⟨(some 15), none, (.ld (.t 14) (some 6)), []⟩, ⟨(some 16), none, (.seq false [0, 0, 2, 2, 2, 1] (.t 11) (.t 15)), []⟩]) (.cond (.t 16) (.seq (.reg false [⟨(some 17), none, (.mov (.t 5)), []⟩, ⟨(some 4), none, (.mov (.t 17)), []⟩]) .ret) .skip))))
abbrev l82_0 : Cmd := cnt 0 9 8 7 18 k82_0
def c82 : Cmd := (.seq (.reg false [⟨(some 3), none, (.box (.t 1)), []⟩, ⟨(some 4), none, (.mov (.c (.int .i64 0))), []⟩]) (.seq (.seq (.reg false [⟨(some 6), none, (.mov (.t 0)), []⟩, ⟨(some 7), none, (.len false (.t 6)), []⟩, ⟨(some 8), none, (.mov (.c (.int .i64 0))), []⟩]) (.block 0 (.loop l82_0))) (.seq (.reg false [⟨(some 4), none, (.mov (.c (.int .i64 (-1)))), []⟩]) .ret)))
theorem h82 : compF Try.prog sh 82 = some (c82, [4], 19) := by kernel_rfl
def c7 : Cmd := (.seq (.reg false [⟨(some 3), none, (.box (.t 1)), []⟩, ⟨(some 4), none, (.mov (.c (.bool false))), []⟩]) (.seq (.reg false [⟨(some 9), none, (.mov (.t 0)), []⟩, ⟨(some 10), none, (.ld (.t 3) (some 6)), []⟩, ⟨(some 11), none, (.call 29 [(.t 9), (.t 10)]), []⟩, ⟨(some 8), none, (.mov (.t 11)), []⟩, ⟨(some 12), none, (.ext (.t 8) 0), []⟩, ⟨(some 13), none, (.ext (.t 8) 1), []⟩, ⟨(some 5), none, (.mov (.t 12)), []⟩, ⟨(some 6), none, (.mov (.t 13)), []⟩]) (.seq (.seq (.reg false [⟨(some 14), none, (.mov (.t 6)), []⟩, ⟨(some 15), none, (.bin .neq (.t 14) (.c (.int .i64 0))), []⟩]) (.cond (.t 15) (.seq (.reg false [⟨(some 16), none, (.mov (.t 5)), []⟩, ⟨(some 17), none, (.len false (.t 16)), []⟩, ⟨(some 18), none, (.bin .eql (.t 17) (.c (.int .i64 0))), []⟩, ⟨(some 19), none, (.mov (.t 18)), []⟩, ⟨(some 20), (some (19, true)), (.call 24 []), []⟩, ⟨(some 21), none, (.pick (.t 19) (.t 20) (.c (.bool false))), []⟩, ⟨(some 4), none, (.mov (.t 21)), []⟩]) .ret) .skip)) (.seq (.reg false [⟨(some 23), none, (.mov (.t 5)), []⟩, ⟨(some 24), none, (.faddr (.t 3) 0), []⟩, ⟨(some 25), none, (.ld (.t 24) none), []⟩, ⟨(some 26), none, (.call 30 [(.t 23), (.t 25)]), []⟩, ⟨(some 22), none, (.mov (.t 26)), []⟩, ⟨(some 27), none, (.ext (.t 22) 0), []⟩, ⟨(some 28), none, (.ext (.t 22) 1), []⟩, ⟨(some 7), none, (.mov (.t 27)), []⟩, ⟨(some 6), none, (.mov (.t 28)), []⟩]) (.seq (.reg false [⟨(some 29), none, (.mov (.t 5)), []⟩, ⟨(some 30), none, (.call 31 [(.t 29)]), []⟩, ⟨(some 31), none, (.bin .eql (.t 30) (.c (.int .i64 0))), []⟩, ⟨(some 32), none, (.mov (.t 31)), []⟩, ⟨(some 33), (some (32, true)), (.mov (.t 5)), []⟩, ⟨(some 34), (some (32, true)), (.ld (.t 3) (some 6)), []⟩, ⟨(some 35), (some (32, true)), (.call 32 [(.t 33), (.t 34)]), []⟩, ⟨(some 36), none, (.pick (.t 32) (.t 35) (.c (.bool false))), []⟩, ⟨(some 37), none, (.mov (.t 36)), []⟩, ⟨(some 38), (some (37, true)), (.mov (.t 5)), []⟩, ⟨(some 39), (some (37, true)), (.len false (.t 38)), []⟩, ⟨(some 40), (some (37, true)), (.mov (.t 0)), []⟩, ⟨(some 41), (some (37, true)), (.len false (.t 40)), []⟩, ⟨(some 42), (some (37, true)), (.bin .add (.t 41) (.c (.int .i64 1))), []⟩, ⟨(some 43), (some (37, true)), (.bin .eql (.t 39) (.t 42)), []⟩, ⟨(some 44), none, (.pick (.t 37) (.t 43) (.c (.bool false))), []⟩, ⟨(some 45), none, (.mov (.t 44)), []⟩, ⟨(some 46), (some (45, true)), (.mov (.t 6)), []⟩, ⟨(some 47), (some (45, true)), (.bin .eql (.t 46) (.c (.int .i64 0))), []⟩, ⟨(some 48), none, (.pick (.t 45) (.t 47) (.c (.bool false))), []⟩, ⟨(some 49), none, (.mov (.t 48)), []⟩, ⟨(some 50), (some (49, true)), (.mov (.t 7)), []⟩, ⟨(some 51), (some (49, true)), (.mov (.t 0)), []⟩, ⟨(some 52), (some (49, true)), (.call 33 [(.t 50), (.t 51)]), []⟩, ⟨(some 53), none, (.pick (.t 49) (.t 52) (.c (.bool false))), []⟩, ⟨(some 54), none, (.mov (.t 53)), []⟩, ⟨(some 55), (some (54, true)), (.call 24 []), []⟩, ⟨(some 56), none, (.pick (.t 54) (.t 55) (.c (.bool false))), []⟩, ⟨(some 4), none, (.mov (.t 56)), []⟩]) .ret)))))
theorem h7 : compF Try.prog sh 7 = some (c7, [4], 57) := by kernel_rfl
def c8 : Cmd := (.seq (.reg false [⟨(some 5), none, (.box (.t 1)), []⟩, ⟨(some 8), none, (.mov (.c (.bool false))), []⟩]) (.seq (.reg false [⟨(some 18), none, (.mov (.t 0)), []⟩, ⟨(some 19), none, (.ld (.t 5) (some 6)), []⟩, ⟨(some 20), none, (.call 29 [(.t 18), (.t 19)]), []⟩, ⟨(some 17), none, (.mov (.t 20)), []⟩, ⟨(some 21), none, (.ext (.t 17) 0), []⟩, ⟨(some 22), none, (.ext (.t 17) 1), []⟩, ⟨(some 9), none, (.mov (.t 21)), []⟩, ⟨(some 10), none, (.mov (.t 22)), []⟩]) (.seq (.reg false [⟨(some 24), none, (.mov (.t 0)), []⟩, ⟨(some 25), none, (.ld (.t 5) (some 6)), []⟩, ⟨(some 26), none, (.call 34 [(.t 24), (.t 25)]), []⟩, ⟨(some 23), none, (.mov (.t 26)), []⟩, ⟨(some 27), none, (.ext (.t 23) 0), []⟩, ⟨(some 28), none, (.ext (.t 23) 1), []⟩, ⟨(some 11), none, (.mov (.t 27)), []⟩, ⟨(some 12), none, (.mov (.t 28)), []⟩]) (.seq (.seq (.reg false [⟨(some 29), none, (.mov (.t 0)), []⟩, ⟨(some 30), none, (.call 31 [(.t 29)]), []⟩, ⟨(some 31), none, (.mov (.t 0)), []⟩, ⟨(some 32), none, (.call 35 [(.t 31)]), []⟩, ⟨(some 33), none, (.bin .neq (.t 30) (.t 32)), []⟩, ⟨(some 34), none, (.mov (.t 33)), []⟩, ⟨(some 35), (some (34, false)), (.mov (.t 9)), []⟩, ⟨(some 36), (some (34, false)), (.mov (.t 11)), []⟩, ⟨(some 37), (some (34, false)), (.call 33 [(.t 35), (.t 36)]), []⟩, ⟨(some 38), (some (34, false)), (.un .not (.t 37)), []⟩, ⟨(some 39), none, (.pick (.t 34) (.c (.bool true)) (.t 38)), []⟩, ⟨(some 40), none, (.mov (.t 39)), []⟩, ⟨(some 41), (some (40, false)), (.mov (.t 10)), []⟩, ⟨(some 42), (some (40, false)), (.mov (.t 12)), []⟩, ⟨(some 43), (some (40, false)), (.bin .neq (.t 41) (.t 42)), []⟩, ⟨(some 44), none, (.pick (.t 40) (.c (.bool true)) (.t 43)), []⟩]) (.cond (.t 44) (.seq (.reg false [⟨(some 8), none, (.mov (.c (.bool false))), []⟩]) .ret) .skip)) (.seq (.reg false [⟨(some 46), none, (.mov (.t 0)), []⟩, ⟨(some 47), none, (.mov (.t 2)), []⟩, ⟨(some 48), none, (.call 30 [(.t 46), (.t 47)]), []⟩, ⟨(some 45), none, (.mov (.t 48)), []⟩, ⟨(some 49), none, (.ext (.t 45) 0), []⟩, ⟨(some 50), none, (.ext (.t 45) 1), []⟩, ⟨(some 9), none, (.mov (.t 49)), []⟩, ⟨(some 10), none, (.mov (.t 50)), []⟩]) (.seq (.reg false [⟨(some 52), none, (.mov (.t 0)), []⟩, ⟨(some 53), none, (.mov (.t 2)), []⟩, ⟨(some 54), none, (.call 36 [(.t 52), (.t 53)]), []⟩, ⟨(some 51), none, (.mov (.t 54)), []⟩, ⟨(some 55), none, (.ext (.t 51) 0), []⟩, ⟨(some 56), none, (.ext (.t 51) 1), []⟩, ⟨(some 11), none, (.mov (.t 55)), []⟩, ⟨(some 12), none, (.mov (.t 56)), []⟩]) (.seq (.seq (.reg false [⟨(some 57), none, (.mov (.t 9)), []⟩, ⟨(some 58), none, (.mov (.t 11)), []⟩, ⟨(some 59), none, (.call 33 [(.t 57), (.t 58)]), []⟩, ⟨(some 60), none, (.un .not (.t 59)), []⟩, ⟨(some 61), none, (.mov (.t 60)), []⟩, ⟨(some 62), (some (61, false)), (.mov (.t 10)), []⟩, ⟨(some 63), (some (61, false)), (.mov (.t 12)), []⟩, ⟨(some 64), (some (61, false)), (.bin .neq (.t 62) (.t 63)), []⟩, ⟨(some 65), none, (.pick (.t 61) (.c (.bool true)) (.t 64)), []⟩]) (.cond (.t 65) (.seq (.reg false [⟨(some 8), none, (.mov (.c (.bool false))), []⟩]) .ret) .skip)) (.seq (.reg false [⟨(some 67), none, (.mov (.t 0)), []⟩, ⟨(some 68), none, (.mov (.t 3)), []⟩, ⟨(some 69), none, (.call 37 [(.t 67), (.t 68)]), []⟩, ⟨(some 66), none, (.mov (.t 69)), []⟩, ⟨(some 70), none, (.ext (.t 66) 0), []⟩, ⟨(some 71), none, (.ext (.t 66) 1), []⟩, ⟨(some 72), none, (.ext (.t 66) 2), []⟩, ⟨(some 13), none, (.alloc [(.int .i64 0), (.int .i64 0), (.str []), (.str []), (.str []), (.bool false)]), []⟩, ⟨none, none, (.st (.t 13) (.t 70) 6), []⟩, ⟨(some 14), none, (.mov (.t 71)), []⟩, ⟨(some 10), none, (.mov (.t 72)), []⟩]) (.seq (.reg false [⟨(some 74), none, (.mov (.t 0)), []⟩, ⟨(some 75), none, (.mov (.t 3)), []⟩, ⟨(some 76), none, (.call 38 [(.t 74), (.t 75)]), []⟩, ⟨(some 73), none, (.mov (.t 76)), []⟩, ⟨(some 77), none, (.ext (.t 73) 0), []⟩, ⟨(some 78), none, (.ext (.t 73) 1), []⟩, ⟨(some 79), none, (.ext (.t 73) 2), []⟩, ⟨(some 15), none, (.alloc [(.int .i64 0), (.int .i64 0), (.str []), (.str []), (.str []), (.bool false)]), []⟩, ⟨none, none, (.st (.t 15) (.t 77) 6), []⟩, ⟨(some 16), none, (.mov (.t 78)), []⟩, ⟨(some 12), none, (.mov (.t 79)), []⟩]) (.seq (.reg false [⟨(some 80), none, (.ld (.t 13) (some 6)), []⟩, ⟨(some 81), none, (.ld (.t 15) (some 6)), []⟩, ⟨(some 82), none, (.seq false [0, 0, 2, 2, 2, 1] (.t 80) (.t 81)), []⟩, ⟨(some 83), none, (.mov (.t 82)), []⟩, ⟨(some 84), (some (83, true)), (.mov (.t 14)), []⟩, ⟨(some 85), (some (83, true)), (.mov (.t 16)), []⟩, ⟨(some 86), (some (83, true)), (.beq false (.t 84) (.t 85)), []⟩, ⟨(some 87), none, (.pick (.t 83) (.t 86) (.c (.bool false))), []⟩, ⟨(some 88), none, (.mov (.t 87)), []⟩, ⟨(some 89), (some (88, true)), (.mov (.t 10)), []⟩, ⟨(some 90), (some (88, true)), (.mov (.t 12)), []⟩, ⟨(some 91), (some (88, true)), (.bin .eql (.t 89) (.t 90)), []⟩, ⟨(some 92), none, (.pick (.t 88) (.t 91) (.c (.bool false))), []⟩, ⟨(some 93), none, (.mov (.t 92)), []⟩, ⟨(some 94), (some (93, true)), (.call 24 []), []⟩, ⟨(some 95), none, (.pick (.t 93) (.t 94) (.c (.bool false))), []⟩, ⟨(some 8), none, (.mov (.t 95)), []⟩]) .ret))))))))))
theorem h8 : compF Try.prog sh 8 = some (c8, [8], 96) := by kernel_rfl
def c9 : Cmd := (.seq (.reg false [⟨(some 6), none, (.mov (.c (.bool false))), []⟩]) (.seq (.reg false [⟨(some 12), none, (.mov (.t 0)), []⟩, ⟨(some 13), none, (.mov (.t 1)), []⟩, ⟨(some 14), none, (.mov (.t 2)), []⟩, ⟨(some 15), none, (.call 39 [(.t 12), (.t 13), (.t 14)]), []⟩, ⟨(some 11), none, (.mov (.t 15)), []⟩, ⟨(some 16), none, (.ext (.t 11) 0), []⟩, ⟨(some 17), none, (.ext (.t 11) 1), []⟩, ⟨(some 7), none, (.mov (.t 16)), []⟩, ⟨(some 8), none, (.mov (.t 17)), []⟩]) (.seq (.reg false [⟨(some 19), none, (.mov (.t 0)), []⟩, ⟨(some 20), none, (.mov (.t 1)), []⟩, ⟨(some 21), none, (.mov (.t 2)), []⟩, ⟨(some 22), none, (.call 40 [(.t 19), (.t 20), (.t 21)]), []⟩, ⟨(some 18), none, (.mov (.t 22)), []⟩, ⟨(some 23), none, (.ext (.t 18) 0), []⟩, ⟨(some 24), none, (.ext (.t 18) 1), []⟩, ⟨(some 9), none, (.mov (.t 23)), []⟩, ⟨(some 10), none, (.mov (.t 24)), []⟩]) (.seq (.reg false [⟨(some 25), none, (.mov (.t 7)), []⟩, ⟨(some 26), none, (.mov (.t 9)), []⟩, ⟨(some 27), none, (.call 33 [(.t 25), (.t 26)]), []⟩, ⟨(some 28), none, (.mov (.t 27)), []⟩, ⟨(some 29), (some (28, true)), (.mov (.t 8)), []⟩, ⟨(some 30), (some (28, true)), (.mov (.t 10)), []⟩, ⟨(some 31), (some (28, true)), (.bin .eql (.t 29) (.t 30)), []⟩, ⟨(some 32), none, (.pick (.t 28) (.t 31) (.c (.bool false))), []⟩, ⟨(some 33), none, (.mov (.t 32)), []⟩, ⟨(some 34), (some (33, true)), (.call 24 []), []⟩, ⟨(some 35), none, (.pick (.t 33) (.t 34) (.c (.bool false))), []⟩, ⟨(some 6), none, (.mov (.t 35)), []⟩]) .ret))))
theorem h9 : compF Try.prog sh 9 = some (c9, [6], 36) := by kernel_rfl
def l10_0 : Cmd := (.seq (.seq (.reg false [⟨(some 47), none, (.mov (.t 10)), []⟩, ⟨(some 48), none, (.mov (.t 0)), []⟩, ⟨(some 49), none, (.len false (.t 48)), []⟩, ⟨(some 50), none, (.bin .lss (.t 47) (.t 49)), []⟩, ⟨(some 51), none, (.mov (.t 50)), []⟩, ⟨(some 52), (some (51, true)), (.mov (.t 1)), []⟩, ⟨(some 53), (some (51, true)), (.bin .eql (.t 52) (.c (.str []))), []⟩, ⟨(some 54), none, (.pick (.t 51) (.t 53) (.c (.bool false))), []⟩]) (.cond (.t 54) .skip (.exit 0))) (.seq (.block 1 (.seq (.reg true [⟨(some 57), none, (.mov (.t 7)), []⟩, ⟨(some 58), none, (.mov (.t 10)), []⟩, ⟨(some 59), none, (.iaddr (.t 57) (.t 58) 6), []⟩, ⟨(some 60), none, (.faddr (.t 59) 0), []⟩, ⟨(some 61), none, (.ld (.t 60) none), []⟩, ⟨(some 62), none, (.mov (.t 0)), []⟩, ⟨(some 63), none, (.mov (.t 10)), []⟩, ⟨(some 64), none, (.iaddr (.t 62) (.t 63) 6), []⟩, ⟨(some 65), none, (.faddr (.t 64) 0), []⟩, ⟨(some 66), none, (.ld (.t 65) none), []⟩, ⟨(some 67), none, (.bin .neq (.t 61) (.t 66)), []⟩, ⟨(some 68), none, (.mov (.t 67)), []⟩, ⟨(some 69), (some (68, false)), (.mov (.t 7)), []⟩, ⟨(some 70), (some (68, false)), (.mov (.t 10)), []⟩, ⟨(some 71), (some (68, false)), (.iaddr (.t 69) (.t 70) 6), []⟩, ⟨(some 72), (some (68, false)), (.faddr (.t 71) 1), []⟩, ⟨(some 73), (some (68, false)), (.ld (.t 72) none), []⟩, ⟨(some 74), (some (68, false)), (.mov (.t 0)), []⟩, ⟨(some 75), (some (68, false)), (.mov (.t 10)), []⟩, ⟨(some 76), (some (68, false)), (.iaddr (.t 74) (.t 75) 6), []⟩, ⟨(some 77), (some (68, false)), (.faddr (.t 76) 1), []⟩, ⟨(some 78), (some (68, false)), (.ld (.t 77) none), []⟩, ⟨(some 79), (some (68, false)), (.mov (.t 2)), []⟩, ⟨(some 80), (some (68, false)), (.bin .add (.t 78) (.t 79)), []⟩, ⟨(some 81), (some (68, false)), (.bin .neq (.t 73) (.t 80)), []⟩, ⟨(some 82), none, (.pick (.t 68) (.c (.bool true)) (.t 81)), []⟩]) (.cond (.t 82) (.seq (.reg false [⟨(some 6), none, (.mov (.c (.bool false))), []⟩]) .ret) .skip))) (.reg false [⟨(some 55), none, (.mov (.t 10)), []⟩, ⟨(some 56), none, (.bin .add (.t 55) (.c (.int .i64 1))), []⟩, ⟨(some 10), none, (.mov (.t 56)), []⟩])))
def c10 : Cmd := (.seq (.reg false [⟨(some 6), none, (.mov (.c (.bool false))), []⟩]) (.seq (.reg false [⟨(some 12), none, (.mov (.t 0)), []⟩, ⟨(some 13), none, (.mov (.t 1)), []⟩, ⟨(some 14), none, (.mov (.t 2)), []⟩, ⟨(some 15), none, (.call 39 [(.t 12), (.t 13), (.t 14)]), []⟩, ⟨(some 11), none, (.mov (.t 15)), []⟩, ⟨(some 16), none, (.ext (.t 11) 0), []⟩, ⟨(some 17), none, (.ext (.t 11) 1), []⟩, ⟨(some 7), none, (.mov (.t 16)), []⟩, ⟨(some 8), none, (.mov (.t 17)), []⟩]) (.seq (.seq (.reg false [⟨(some 18), none, (.mov (.t 8)), []⟩, ⟨(some 19), none, (.bin .neq (.t 18) (.c (.int .i64 0))), []⟩]) (.cond (.t 19) (.seq (.reg false [⟨(some 20), none, (.mov (.t 7)), []⟩, ⟨(some 21), none, (.len false (.t 20)), []⟩, ⟨(some 22), none, (.bin .eql (.t 21) (.c (.int .i64 0))), []⟩, ⟨(some 23), none, (.mov (.t 22)), []⟩, ⟨(some 24), (some (23, true)), (.call 24 []), []⟩, ⟨(some 25), none, (.pick (.t 23) (.t 24) (.c (.bool false))), []⟩, ⟨(some 6), none, (.mov (.t 25)), []⟩]) .ret) .skip)) (.seq (.reg false [⟨(some 27), none, (.mov (.t 7)), []⟩, ⟨(some 28), none, (.mov (.t 1)), []⟩, ⟨(some 29), none, (.mov (.t 2)), []⟩, ⟨(some 30), none, (.un .neg (.t 29)), []⟩, ⟨(some 31), none, (.call 39 [(.t 27), (.t 28), (.t 30)]), []⟩, ⟨(some 26), none, (.mov (.t 31)), []⟩, ⟨(some 32), none, (.ext (.t 26) 0), []⟩, ⟨(some 33), none, (.ext (.t 26) 1), []⟩, ⟨(some 9), none, (.mov (.t 32)), []⟩, ⟨(some 8), none, (.mov (.t 33)), []⟩]) (.seq (.seq (.reg false [⟨(some 34), none, (.mov (.t 8)), []⟩, ⟨(some 35), none, (.bin .neq (.t 34) (.c (.int .i64 0))), []⟩, ⟨(some 36), none, (.mov (.t 35)), []⟩, ⟨(some 37), (some (36, false)), (.mov (.t 9)), []⟩, ⟨(some 38), (some (36, false)), (.mov (.t 0)), []⟩, ⟨(some 39), (some (36, false)), (.call 33 [(.t 37), (.t 38)]), []⟩, ⟨(some 40), (some (36, false)), (.un .not (.t 39)), []⟩, ⟨(some 41), none, (.pick (.t 36) (.c (.bool true)) (.t 40)), []⟩, ⟨(some 42), none, (.mov (.t 41)), []⟩, ⟨(some 43), (some (42, false)), (.mov (.t 7)), []⟩, ⟨(some 44), (some (42, false)), (.call 31 [(.t 43)]), []⟩, ⟨(some 45), (some (42, false)), (.bin .neq (.t 44) (.c (.int .i64 0))), []⟩, ⟨(some 46), none, (.pick (.t 42) (.c (.bool true)) (.t 45)), []⟩]) (.cond (.t 46) (.seq (.reg false [⟨(some 6), none, (.mov (.c (.bool false))), []⟩]) .ret) .skip)) (.seq (.seq (.reg false [⟨(some 10), none, (.mov (.c (.int .i64 0))), []⟩]) (.block 0 (.loop l10_0))) (.seq (.reg false [⟨(some 83), none, (.call 24 []), []⟩, ⟨(some 6), none, (.mov (.t 83)), []⟩]) .ret)))))))
theorem h10 : compF Try.prog sh 10 = some (c10, [6], 84) := by kernel_rfl
end Go.Proofs.P6
end
