/- The small commands of procedures; Procedures: steps, labels, names; Steps and procedures alone are right; What procedures call, over others; The reference's: what procedures call; Procedures are right: both sides; The reference's: procedures are right; Places; the law of procedures; The reference's places; the law; The law of procedures. -/
import Derived.Test.YtaegjihmpgdfcaaB1
import Derived.Test.YtaegjihmpgdfcaaExU
section
set_option linter.unusedVariables false
set_option linter.unusedSimpArgs false
namespace Go.Proofs.P6
open Go.Ex
def c3 : Cmd := (.seq (.reg false [⟨(some 6), none, (.mov (.c (.bool false))), []⟩]) (.seq (.reg false [⟨(some 12), none, (.mov (.t 0)), []⟩, ⟨(some 13), none, (.mov (.t 1)), []⟩, ⟨(some 14), none, (.call 17 [(.t 12), (.t 13)]), []⟩, ⟨(some 11), none, (.mov (.t 14)), []⟩, ⟨(some 15), none, (.ext (.t 11) 0), []⟩, ⟨(some 16), none, (.ext (.t 11) 1), []⟩, ⟨(some 7), none, (.mov (.t 15)), []⟩, ⟨(some 8), none, (.mov (.t 16)), []⟩]) (.seq (.reg false [⟨(some 18), none, (.mov (.t 0)), []⟩, ⟨(some 19), none, (.mov (.t 1)), []⟩, ⟨(some 20), none, (.call 18 [(.t 18), (.t 19)]), []⟩, ⟨(some 17), none, (.mov (.t 20)), []⟩, ⟨(some 21), none, (.ext (.t 17) 0), []⟩, ⟨(some 22), none, (.ext (.t 17) 1), []⟩, ⟨(some 9), none, (.mov (.t 21)), []⟩, ⟨(some 10), none, (.mov (.t 22)), []⟩]) (.seq (.reg false [⟨(some 23), none, (.mov (.t 0)), []⟩, ⟨(some 24), none, (.call 19 [(.t 23)]), []⟩, ⟨(some 25), none, (.mov (.t 0)), []⟩, ⟨(some 26), none, (.call 20 [(.t 25)]), []⟩, ⟨(some 27), none, (.bin .eql (.t 24) (.t 26)), []⟩, ⟨(some 28), none, (.mov (.t 27)), []⟩, ⟨(some 29), (some (28, true)), (.mov (.t 7)), []⟩, ⟨(some 30), (some (28, true)), (.mov (.t 9)), []⟩, ⟨(some 31), (some (28, true)), (.call 21 [(.t 29), (.t 30)]), []⟩, ⟨(some 32), none, (.pick (.t 28) (.t 31) (.c (.bool false))), []⟩, ⟨(some 33), none, (.mov (.t 32)), []⟩, ⟨(some 34), (some (33, true)), (.mov (.t 8)), []⟩, ⟨(some 35), (some (33, true)), (.mov (.t 10)), []⟩, ⟨(some 36), (some (33, true)), (.bin .eql (.t 34) (.t 35)), []⟩, ⟨(some 37), none, (.pick (.t 33) (.t 36) (.c (.bool false))), []⟩, ⟨(some 38), none, (.mov (.t 37)), []⟩, ⟨(some 39), (some (38, true)), (.mov (.t 0)), []⟩, ⟨(some 40), (some (38, true)), (.mov (.t 2)), []⟩, ⟨(some 41), (some (38, true)), (.call 22 [(.t 39), (.t 40)]), []⟩, ⟨(some 42), (some (38, true)), (.mov (.t 0)), []⟩, ⟨(some 43), (some (38, true)), (.mov (.t 2)), []⟩, ⟨(some 44), (some (38, true)), (.call 23 [(.t 42), (.t 43)]), []⟩, ⟨(some 45), (some (38, true)), (.bin .eql (.t 41) (.t 44)), []⟩, ⟨(some 46), none, (.pick (.t 38) (.t 45) (.c (.bool false))), []⟩, ⟨(some 47), none, (.mov (.t 46)), []⟩, ⟨(some 48), (some (47, true)), (.call 24 []), []⟩, ⟨(some 49), none, (.pick (.t 47) (.t 48) (.c (.bool false))), []⟩, ⟨(some 6), none, (.mov (.t 49)), []⟩]) .ret))))
theorem h3 : compF Try.prog sh 3 = some (c3, [6], 50) := by kernel_rfl
def c17 : Cmd := (.seq (.reg false [⟨(some 4), none, (.mov (.c .ns)), []⟩, ⟨(some 5), none, (.mov (.c (.int .i64 0))), []⟩]) (.seq (.seq (.reg false [⟨(some 7), none, (.mov (.t 0)), []⟩, ⟨(some 8), none, (.call 19 [(.t 7)]), []⟩, ⟨(some 6), none, (.mov (.t 8)), []⟩]) (.seq (.reg false [⟨(some 9), none, (.mov (.t 6)), []⟩, ⟨(some 10), none, (.bin .neq (.t 9) (.c (.int .i64 0))), []⟩]) (.cond (.t 10) (.seq (.reg false [⟨(some 11), none, (.mov (.t 6)), []⟩, ⟨(some 4), none, (.mov (.c .ns)), []⟩, ⟨(some 5), none, (.mov (.t 11)), []⟩]) .ret) .skip))) (.seq (.block 0 (.seq (.reg false [⟨(some 13), none, (.mov (.t 0)), []⟩, ⟨(some 14), none, (.mov (.t 1)), []⟩, ⟨(some 15), none, (.call 54 [(.t 13), (.t 14)]), []⟩, ⟨(some 16), none, (.bin .lss (.t 15) (.c (.int .i64 0))), []⟩, ⟨(some 12), none, (.mov (.t 16)), []⟩]) (.cond (.t 12) (.seq (.reg false [⟨(some 4), none, (.mov (.c .ns)), []⟩, ⟨(some 5), none, (.mov (.c (.int .i64 9))), []⟩]) .ret) .skip))) (.seq (.reg false [⟨(some 17), none, (.mov (.t 1)), []⟩, ⟨(some 18), none, (.bld [(.str []), (.int .i64 0), (.int .i64 0)] [(0, (1, (.t 17))), (2, (1, (.c (.int .i64 (-1)))))]), []⟩, ⟨(some 19), none, (.bs 1 3 [(.str []), (.int .i64 0), (.int .i64 0)] [(0, (.t 18))]), []⟩, ⟨(some 4), none, (.mov (.t 19)), []⟩, ⟨(some 5), none, (.mov (.c (.int .i64 0))), []⟩]) .ret))))
theorem h17 : compF Try.prog sh 17 = some (c17, [4, 5], 20) := by kernel_rfl
def k19_0 : Cmd := (.block 1 (.seq (.reg false [⟨(some 18), none, (.mov (.t 16)), []⟩, ⟨(some 19), none, (.iaddr (.t 14) (.t 16) 2), []⟩, ⟨(some 20), none, (.ld (.t 19) (some 2)), []⟩, ⟨(some 4), none, (.alloc [(.str []), .ns]), []⟩, ⟨(some 3), none, (.mov (.t 18)), []⟩, ⟨none, none, (.st (.t 4) (.t 20) 2), []⟩]) (.seq (.seq (.reg false [⟨(some 21), none, (.ld (.t 4) (some 2)), []⟩, ⟨(some 22), none, (.call 56 [(.t 21)]), []⟩, ⟨(some 5), none, (.mov (.t 22)), []⟩]) (.seq (.reg false [⟨(some 23), none, (.mov (.t 5)), []⟩, ⟨(some 24), none, (.bin .neq (.t 23) (.c (.int .i64 0))), []⟩]) (.cond (.t 24) (.seq (.reg false [⟨(some 25), none, (.mov (.t 5)), []⟩, ⟨(some 2), none, (.mov (.t 25)), []⟩]) .ret) .skip))) (.seq (.reg true [⟨(some 26), none, (.mov (.t 3)), []⟩, ⟨(some 27), none, (.bin .gtr (.t 26) (.c (.int .i64 0))), []⟩, ⟨(some 28), none, (.mov (.t 27)), []⟩, ⟨(some 29), (some (28, true)), (.faddr (.t 4) 0), []⟩, ⟨(some 30), (some (28, true)), (.ld (.t 29) none), []⟩, ⟨(some 31), (some (28, true)), (.mov (.t 0)), []⟩, ⟨(some 32), (some (28, true)), (.mov (.t 3)), []⟩, ⟨(some 33), (some (28, true)), (.bin .sub (.t 32) (.c (.int .i64 1))), []⟩, ⟨(some 34), (some (28, true)), (.iaddr (.t 31) (.t 33) 2), []⟩, ⟨(some 35), (some (28, true)), (.faddr (.t 34) 0), []⟩, ⟨(some 36), (some (28, true)), (.ld (.t 35) none), []⟩, ⟨(some 37), (some (28, true)), (.bin .leq (.t 30) (.t 36)), []⟩, ⟨(some 38), none, (.pick (.t 28) (.t 37) (.c (.bool false))), []⟩]) (.cond (.t 38) (.seq (.reg false [⟨(some 2), none, (.mov (.c (.int .i64 8))), []⟩]) .ret) .skip)))))
abbrev l19_0 : Cmd := cnt 0 17 16 15 39 k19_0
def k19_1 : Cmd := (.block 5 (.seq (.reg false [⟨(some 51), none, (.iaddr (.t 47) (.t 49) 5), []⟩, ⟨(some 52), none, (.ld (.t 51) (some 5)), []⟩, ⟨(some 9), none, (.alloc [(.int .i64 0), (.str []), (.str []), (.int .i64 0), (.bool false)]), []⟩, ⟨none, none, (.st (.t 9) (.t 52) 5), []⟩]) (.seq (.reg false [⟨(some 53), none, (.ld (.t 9) (some 5)), []⟩, ⟨(some 54), none, (.call 57 [(.t 53)]), []⟩, ⟨(some 55), none, (.mov (.t 54)), []⟩, ⟨(some 56), (some (55, true)), (.faddr (.t 7) 1), []⟩, ⟨(some 57), (some (55, true)), (.ld (.t 56) none), []⟩, ⟨(some 58), (some (55, true)), (.faddr (.t 9) 2), []⟩, ⟨(some 59), (some (55, true)), (.ld (.t 58) none), []⟩, ⟨(some 60), (some (55, true)), (.call 58 [(.t 57), (.t 59)]), []⟩, ⟨(some 61), (some (55, true)), (.bin .lss (.t 60) (.c (.int .i64 0))), []⟩, ⟨(some 62), none, (.pick (.t 55) (.t 61) (.c (.bool false))), []⟩, ⟨(some 63), none, (.mov (.t 62)), []⟩, ⟨(some 64), (some (63, false)), (.faddr (.t 9) 0), []⟩, ⟨(some 65), (some (63, false)), (.ld (.t 64) none), []⟩, ⟨(some 66), (some (63, false)), (.bin .eql (.t 65) (.c (.int .i64 6))), []⟩, ⟨(some 67), (some (63, false)), (.mov (.t 66)), []⟩, ⟨(some 68), (some (67, true)), (.mov (.t 0)), []⟩, ⟨(some 69), (some (67, true)), (.faddr (.t 9) 1), []⟩, ⟨(some 70), (some (67, true)), (.ld (.t 69) none), []⟩, ⟨(some 71), (some (67, true)), (.call 54 [(.t 68), (.t 70)]), []⟩, ⟨(some 72), (some (67, true)), (.bin .lss (.t 71) (.c (.int .i64 0))), []⟩, ⟨(some 73), (some (63, false)), (.pick (.t 67) (.t 72) (.c (.bool false))), []⟩, ⟨(some 74), none, (.pick (.t 63) (.c (.bool true)) (.t 73)), []⟩]) (.cond (.t 74) (.seq (.reg false [⟨(some 2), none, (.mov (.c (.int .i64 9))), []⟩]) .ret) .skip))))
abbrev l19_1 : Cmd := cnt 4 50 49 48 75 k19_1
def k19_2 : Cmd := (.block 3 (.seq (.reg false [⟨(some 44), none, (.iaddr (.t 40) (.t 42) 2), []⟩, ⟨(some 45), none, (.ld (.t 44) (some 2)), []⟩, ⟨(some 7), none, (.alloc [(.str []), .ns]), []⟩, ⟨none, none, (.st (.t 7) (.t 45) 2), []⟩]) (.seq (.reg false [⟨(some 46), none, (.faddr (.t 7) 1), []⟩, ⟨(some 47), none, (.ld (.t 46) none), []⟩, ⟨(some 48), none, (.len false (.t 47)), []⟩, ⟨(some 49), none, (.mov (.c (.int .i64 0))), []⟩]) (.block 4 (.loop l19_1)))))
abbrev l19_2 : Cmd := cnt 2 43 42 41 76 k19_2
def k19_3 : Cmd := (.block 7 (.seq (.reg false [⟨(some 81), none, (.mov (.t 79)), []⟩, ⟨(some 10), none, (.mov (.t 81)), []⟩]) (.seq (.reg false [⟨(some 82), none, (.mov (.t 0)), []⟩, ⟨(some 83), none, (.mov (.t 10)), []⟩, ⟨(some 84), none, (.call 59 [(.t 82), (.t 83)]), []⟩, ⟨(some 85), none, (.mov (.t 10)), []⟩, ⟨(some 86), none, (.call 43 [(.t 84), (.t 85)]), []⟩]) (.cond (.t 86) (.seq (.reg false [⟨(some 2), none, (.mov (.c (.int .i64 17))), []⟩]) .ret) .skip))))
abbrev l19_3 : Cmd := cnt 6 80 79 78 87 k19_3
def c19 : Cmd := (.seq (.reg false [⟨(some 2), none, (.mov (.c (.int .i64 0))), []⟩]) (.seq (.seq (.reg false [⟨(some 11), none, (.mov (.t 0)), []⟩, ⟨(some 12), none, (.len false (.t 11)), []⟩, ⟨(some 13), none, (.bin .gtr (.t 12) (.c (.int .i64 50))), []⟩]) (.cond (.t 13) (.seq (.reg false [⟨(some 2), none, (.mov (.c (.int .i64 2))), []⟩]) .ret) .skip)) (.seq (.seq (.reg false [⟨(some 14), none, (.mov (.t 0)), []⟩, ⟨(some 15), none, (.len false (.t 14)), []⟩, ⟨(some 16), none, (.mov (.c (.int .i64 0))), []⟩]) (.block 0 (.loop l19_0))) (.seq (.seq (.reg false [⟨(some 40), none, (.mov (.t 0)), []⟩, ⟨(some 41), none, (.len false (.t 40)), []⟩, ⟨(some 42), none, (.mov (.c (.int .i64 0))), []⟩]) (.block 2 (.loop l19_2))) (.seq (.seq (.reg false [⟨(some 77), none, (.mov (.t 0)), []⟩, ⟨(some 78), none, (.len false (.t 77)), []⟩, ⟨(some 79), none, (.mov (.c (.int .i64 0))), []⟩]) (.block 6 (.loop l19_3))) (.seq (.reg false [⟨(some 2), none, (.mov (.c (.int .i64 0))), []⟩]) .ret))))))
theorem h19 : compF Try.prog sh 19 = some (c19, [2], 88) := by kernel_rfl
def k56_0 : Cmd := (.block 2 (.seq (.reg false [⟨(some 21), none, (.mov (.t 19)), []⟩, ⟨(some 22), none, (.iaddr (.t 17) (.t 19) 5), []⟩, ⟨(some 23), none, (.ld (.t 22) (some 5)), []⟩, ⟨(some 4), none, (.alloc [(.int .i64 0), (.str []), (.str []), (.int .i64 0), (.bool false)]), []⟩, ⟨(some 3), none, (.mov (.t 21)), []⟩, ⟨none, none, (.st (.t 4) (.t 23) 5), []⟩]) (.seq (.seq (.reg false [⟨(some 24), none, (.ld (.t 4) (some 5)), []⟩, ⟨(some 25), none, (.call 112 [(.t 24)]), []⟩, ⟨(some 5), none, (.mov (.t 25)), []⟩]) (.seq (.reg false [⟨(some 26), none, (.mov (.t 5)), []⟩, ⟨(some 27), none, (.bin .neq (.t 26) (.c (.int .i64 0))), []⟩]) (.cond (.t 27) (.seq (.reg false [⟨(some 28), none, (.mov (.t 5)), []⟩, ⟨(some 2), none, (.mov (.t 28)), []⟩]) .ret) .skip))) (.seq (.reg true [⟨(some 29), none, (.faddr (.t 4) 0), []⟩, ⟨(some 30), none, (.ld (.t 29) none), []⟩, ⟨(some 31), none, (.bin .eql (.t 30) (.c (.int .i64 8))), []⟩, ⟨(some 32), none, (.mov (.t 31)), []⟩, ⟨(some 33), (some (32, true)), (.faddr (.t 1) 1), []⟩, ⟨(some 34), (some (32, true)), (.ld (.t 33) none), []⟩, ⟨(some 35), (some (32, true)), (.mov (.t 3)), []⟩, ⟨(some 36), (some (32, true)), (.slc false (.t 34) none (some (.t 35)) 5), []⟩, ⟨(some 37), (some (32, true)), (.faddr (.t 4) 2), []⟩, ⟨(some 38), (some (32, true)), (.ld (.t 37) none), []⟩, ⟨(some 39), (some (32, true)), (.call 58 [(.t 36), (.t 38)]), []⟩, ⟨(some 40), (some (32, true)), (.bin .geq (.t 39) (.c (.int .i64 0))), []⟩, ⟨(some 41), none, (.pick (.t 32) (.t 40) (.c (.bool false))), []⟩]) (.cond (.t 41) (.seq (.reg false [⟨(some 2), none, (.mov (.c (.int .i64 7))), []⟩]) .ret) .skip)))))
abbrev l56_0 : Cmd := cnt 1 20 19 18 42 k56_0
def c56 : Cmd := (.seq (.reg false [⟨(some 1), none, (.box (.t 0)), []⟩, ⟨(some 2), none, (.mov (.c (.int .i64 0))), []⟩]) (.seq (.block 0 (.seq (.reg false [⟨(some 7), none, (.faddr (.t 1) 0), []⟩, ⟨(some 8), none, (.ld (.t 7) none), []⟩, ⟨(some 9), none, (.call 91 [(.t 8)]), []⟩, ⟨(some 10), none, (.un .not (.t 9)), []⟩, ⟨(some 6), none, (.mov (.t 10)), []⟩]) (.cond (.t 6) (.seq (.reg false [⟨(some 2), none, (.mov (.c (.int .i64 5))), []⟩]) .ret) (.seq (.reg false [⟨(some 12), none, (.faddr (.t 1) 1), []⟩, ⟨(some 13), none, (.ld (.t 12) none), []⟩, ⟨(some 14), none, (.len false (.t 13)), []⟩, ⟨(some 15), none, (.bin .gtr (.t 14) (.c (.int .i64 200))), []⟩, ⟨(some 11), none, (.mov (.t 15)), []⟩]) (.cond (.t 11) (.seq (.reg false [⟨(some 2), none, (.mov (.c (.int .i64 2))), []⟩]) .ret) .skip))))) (.seq (.seq (.reg false [⟨(some 16), none, (.faddr (.t 1) 1), []⟩, ⟨(some 17), none, (.ld (.t 16) none), []⟩, ⟨(some 18), none, (.len false (.t 17)), []⟩, ⟨(some 19), none, (.mov (.c (.int .i64 0))), []⟩]) (.block 1 (.loop l56_0))) (.seq (.reg false [⟨(some 2), none, (.mov (.c (.int .i64 0))), []⟩]) .ret))))
theorem h56 : compF Try.prog sh 56 = some (c56, [2], 43) := by kernel_rfl
def c112 : Cmd := (.seq (.reg false [⟨(some 1), none, (.box (.t 0)), []⟩, ⟨(some 2), none, (.mov (.c (.int .i64 0))), []⟩]) (.seq (.reg false [⟨(some 6), none, (.faddr (.t 1) 0), []⟩, ⟨(some 7), none, (.ld (.t 6) none), []⟩, ⟨(some 8), none, (.bld [(.int .i64 0), (.str []), (.str []), (.int .i64 0), (.bool false)] [(0, (1, (.t 7)))]), []⟩, ⟨(some 3), none, (.alloc [(.int .i64 0), (.str []), (.str []), (.int .i64 0), (.bool false)]), []⟩, ⟨none, none, (.st (.t 3) (.t 8) 5), []⟩]) (.seq (.seq (.reg false [⟨(some 9), none, (.faddr (.t 1) 0), []⟩, ⟨(some 10), none, (.ld (.t 9) none), []⟩]) (.block 0 (.seq (.seq (.reg false [⟨(some 12), none, (.bin .eql (.t 10) (.c (.int .i64 1))), []⟩, ⟨(some 11), none, (.mov (.t 12)), []⟩]) (.cond (.t 11) .skip (.reg false [⟨(some 13), none, (.bin .eql (.t 10) (.c (.int .i64 6))), []⟩, ⟨(some 11), none, (.mov (.t 13)), []⟩]))) (.cond (.t 11) (.reg false [⟨(some 14), none, (.faddr (.t 1) 1), []⟩, ⟨(some 15), none, (.ld (.t 14) none), []⟩, ⟨(some 16), none, (.faddr (.t 3) 1), []⟩, ⟨none, none, (.st (.t 16) (.t 15) 1), []⟩]) (.seq (.reg false [⟨(some 18), none, (.bin .eql (.t 10) (.c (.int .i64 2))), []⟩, ⟨(some 17), none, (.mov (.t 18)), []⟩]) (.cond (.t 17) (.reg false [⟨(some 19), none, (.faddr (.t 1) 3), []⟩, ⟨(some 20), none, (.ld (.t 19) none), []⟩, ⟨(some 21), none, (.faddr (.t 3) 3), []⟩, ⟨none, none, (.st (.t 21) (.t 20) 1), []⟩]) (.seq (.reg false [⟨(some 23), none, (.bin .eql (.t 10) (.c (.int .i64 3))), []⟩, ⟨(some 22), none, (.mov (.t 23)), []⟩]) (.cond (.t 22) (.reg true [⟨(some 24), none, (.faddr (.t 1) 1), []⟩, ⟨(some 25), none, (.ld (.t 24) none), []⟩, ⟨(some 26), none, (.faddr (.t 1) 3), []⟩, ⟨(some 27), none, (.ld (.t 26) none), []⟩, ⟨(some 28), none, (.faddr (.t 1) 2), []⟩, ⟨(some 29), none, (.ld (.t 28) none), []⟩, ⟨(some 30), none, (.faddr (.t 3) 1), []⟩, ⟨none, none, (.st (.t 30) (.t 25) 1), [3, 5]⟩, ⟨(some 31), none, (.faddr (.t 3) 3), []⟩, ⟨none, none, (.st (.t 31) (.t 27) 1), [5]⟩, ⟨(some 32), none, (.faddr (.t 3) 2), []⟩, ⟨none, none, (.st (.t 32) (.t 29) 1), []⟩]) (.seq (.reg false [⟨(some 34), none, (.bin .eql (.t 10) (.c (.int .i64 4))), []⟩, ⟨(some 33), none, (.mov (.t 34)), []⟩]) (.cond (.t 33) (.reg true [⟨(some 35), none, (.faddr (.t 1) 1), []⟩, ⟨(some 36), none, (.ld (.t 35) none), []⟩, ⟨(some 37), none, (.faddr (.t 1) 4), []⟩, ⟨(some 38), none, (.ld (.t 37) none), []⟩, ⟨(some 39), none, (.faddr (.t 1) 2), []⟩, ⟨(some 40), none, (.ld (.t 39) none), []⟩, ⟨(some 41), none, (.faddr (.t 3) 1), []⟩, ⟨none, none, (.st (.t 41) (.t 36) 1), [3, 5]⟩, ⟨(some 42), none, (.faddr (.t 3) 4), []⟩, ⟨none, none, (.st (.t 42) (.t 38) 1), [5]⟩, ⟨(some 43), none, (.faddr (.t 3) 2), []⟩, ⟨none, none, (.st (.t 43) (.t 40) 1), []⟩]) (.seq (.seq (.reg false [⟨(some 45), none, (.bin .eql (.t 10) (.c (.int .i64 5))), []⟩, ⟨(some 44), none, (.mov (.t 45)), []⟩]) (.cond (.t 44) .skip (.reg false [⟨(some 46), none, (.bin .eql (.t 10) (.c (.int .i64 8))), []⟩, ⟨(some 44), none, (.mov (.t 46)), []⟩]))) (.cond (.t 44) (.reg false [⟨(some 47), none, (.faddr (.t 1) 2), []⟩, ⟨(some 48), none, (.ld (.t 47) none), []⟩, ⟨(some 49), none, (.faddr (.t 3) 2), []⟩, ⟨none, none, (.st (.t 49) (.t 48) 1), []⟩]) (.seq (.reg false [⟨(some 51), none, (.bin .eql (.t 10) (.c (.int .i64 7))), []⟩, ⟨(some 50), none, (.mov (.t 51)), []⟩]) (.cond (.t 50) .skip (.seq (.reg false [⟨(some 2), none, (.mov (.c (.int .i64 4))), []⟩]) .ret))))))))))))))) (.seq (.reg false [⟨(some 52), none, (.faddr (.t 1) 0), []⟩, ⟨(some 53), none, (.ld (.t 52) none), []⟩, ⟨(some 54), none, (.bin .eql (.t 53) (.c (.int .i64 2))), []⟩, ⟨(some 55), none, (.mov (.t 54)), []⟩, ⟨(some 56), (some (55, false)), (.faddr (.t 1) 0), []⟩, ⟨(some 57), (some (55, false)), (.ld (.t 56) none), []⟩, ⟨(some 58), (some (55, false)), (.bin .eql (.t 57) (.c (.int .i64 3))), []⟩, ⟨(some 59), none, (.pick (.t 55) (.c (.bool true)) (.t 58)), []⟩, ⟨(some 4), none, (.mov (.t 59)), []⟩]) (.seq (.reg false [⟨(some 60), none, (.faddr (.t 1) 0), []⟩, ⟨(some 61), none, (.ld (.t 60) none), []⟩, ⟨(some 62), none, (.bin .eql (.t 61) (.c (.int .i64 3))), []⟩, ⟨(some 63), none, (.mov (.t 62)), []⟩, ⟨(some 64), (some (63, false)), (.faddr (.t 1) 0), []⟩, ⟨(some 65), (some (63, false)), (.ld (.t 64) none), []⟩, ⟨(some 66), (some (63, false)), (.bin .eql (.t 65) (.c (.int .i64 4))), []⟩, ⟨(some 67), none, (.pick (.t 63) (.c (.bool true)) (.t 66)), []⟩, ⟨(some 68), none, (.mov (.t 67)), []⟩, ⟨(some 69), (some (68, false)), (.faddr (.t 1) 0), []⟩, ⟨(some 70), (some (68, false)), (.ld (.t 69) none), []⟩, ⟨(some 71), (some (68, false)), (.bin .eql (.t 70) (.c (.int .i64 6))), []⟩, ⟨(some 72), none, (.pick (.t 68) (.c (.bool true)) (.t 71)), []⟩, ⟨(some 5), none, (.mov (.t 72)), []⟩]) (.seq (.block 1 (.seq (.reg false [⟨(some 74), none, (.ld (.t 1) (some 5)), []⟩, ⟨(some 75), none, (.ld (.t 3) (some 5)), []⟩, ⟨(some 76), none, (.seq true [0, 2, 2, 0, 1] (.t 74) (.t 75)), []⟩, ⟨(some 77), none, (.mov (.t 76)), []⟩, ⟨(some 78), (some (77, false)), (.faddr (.t 1) 0), []⟩, ⟨(some 79), (some (77, false)), (.ld (.t 78) none), []⟩, ⟨(some 80), (some (77, false)), (.bin .eql (.t 79) (.c (.int .i64 1))), []⟩, ⟨(some 81), (some (77, false)), (.mov (.t 80)), []⟩, ⟨(some 82), (some (81, true)), (.faddr (.t 1) 1), []⟩, ⟨(some 83), (some (81, true)), (.ld (.t 82) none), []⟩, ⟨(some 84), (some (81, true)), (.call 128 [(.t 83)]), []⟩, ⟨(some 85), (some (81, true)), (.un .not (.t 84)), []⟩, ⟨(some 86), (some (77, false)), (.pick (.t 81) (.t 85) (.c (.bool false))), []⟩, ⟨(some 87), none, (.pick (.t 77) (.c (.bool true)) (.t 86)), []⟩, ⟨(some 73), none, (.mov (.t 87)), []⟩]) (.cond (.t 73) (.seq (.reg false [⟨(some 2), none, (.mov (.c (.int .i64 3))), []⟩]) .ret) (.seq (.reg false [⟨(some 89), none, (.mov (.t 5)), []⟩, ⟨(some 90), none, (.mov (.t 89)), []⟩, ⟨(some 91), (some (90, true)), (.faddr (.t 1) 1), []⟩, ⟨(some 92), (some (90, true)), (.ld (.t 91) none), []⟩, ⟨(some 93), (some (90, true)), (.call 91 [(.t 92)]), []⟩, ⟨(some 94), (some (90, true)), (.un .not (.t 93)), []⟩, ⟨(some 95), none, (.pick (.t 90) (.t 94) (.c (.bool false))), []⟩, ⟨(some 88), none, (.mov (.t 95)), []⟩]) (.cond (.t 88) (.seq (.reg false [⟨(some 2), none, (.mov (.c (.int .i64 5))), []⟩]) .ret) (.seq (.reg false [⟨(some 97), none, (.mov (.t 4)), []⟩, ⟨(some 98), none, (.mov (.t 97)), []⟩, ⟨(some 99), (some (98, true)), (.faddr (.t 1) 3), []⟩, ⟨(some 100), (some (98, true)), (.ld (.t 99) none), []⟩, ⟨(some 101), (some (98, true)), (.call 64 [(.t 100), (.c (.int .i64 1)), (.c (.int .i64 1000000000))]), []⟩, ⟨(some 102), (some (98, true)), (.un .not (.t 101)), []⟩, ⟨(some 103), none, (.pick (.t 98) (.t 102) (.c (.bool false))), []⟩, ⟨(some 96), none, (.mov (.t 103)), []⟩]) (.cond (.t 96) (.seq (.reg false [⟨(some 2), none, (.mov (.c (.int .i64 1))), []⟩]) .ret) (.seq (.reg false [⟨(some 105), none, (.ld (.t 1) (some 5)), []⟩, ⟨(some 106), none, (.call 157 [(.t 105)]), []⟩, ⟨(some 107), none, (.mov (.t 106)), []⟩, ⟨(some 108), (some (107, true)), (.faddr (.t 1) 2), []⟩, ⟨(some 109), (some (107, true)), (.ld (.t 108) none), []⟩, ⟨(some 110), (some (107, true)), (.call 91 [(.t 109)]), []⟩, ⟨(some 111), (some (107, true)), (.un .not (.t 110)), []⟩, ⟨(some 112), none, (.pick (.t 107) (.t 111) (.c (.bool false))), []⟩, ⟨(some 104), none, (.mov (.t 112)), []⟩]) (.cond (.t 104) (.seq (.reg false [⟨(some 2), none, (.mov (.c (.int .i64 5))), []⟩]) .ret) .skip))))))))) (.seq (.reg false [⟨(some 2), none, (.mov (.c (.int .i64 0))), []⟩]) .ret)))))))
theorem h112 : compF Try.prog sh 112 = some (c112, [2], 113) := by kernel_rfl
def c157 : Cmd := (.seq (.reg false [⟨(some 1), none, (.box (.t 0)), []⟩, ⟨(some 2), none, (.mov (.c (.bool false))), []⟩]) (.seq (.reg false [⟨(some 3), none, (.ld (.t 1) (some 5)), []⟩, ⟨(some 4), none, (.call 57 [(.t 3)]), []⟩, ⟨(some 5), none, (.mov (.t 4)), []⟩, ⟨(some 6), (some (5, false)), (.faddr (.t 1) 0), []⟩, ⟨(some 7), (some (5, false)), (.ld (.t 6) none), []⟩, ⟨(some 8), (some (5, false)), (.bin .eql (.t 7) (.c (.int .i64 8))), []⟩, ⟨(some 9), none, (.pick (.t 5) (.c (.bool true)) (.t 8)), []⟩, ⟨(some 2), none, (.mov (.t 9)), []⟩]) .ret))
theorem h157 : compF Try.prog sh 157 = some (c157, [2], 10) := by kernel_rfl
def c57 : Cmd := (.seq (.reg false [⟨(some 1), none, (.box (.t 0)), []⟩, ⟨(some 2), none, (.mov (.c (.bool false))), []⟩]) (.seq (.reg false [⟨(some 3), none, (.faddr (.t 1) 0), []⟩, ⟨(some 4), none, (.ld (.t 3) none), []⟩, ⟨(some 5), none, (.bin .eql (.t 4) (.c (.int .i64 3))), []⟩, ⟨(some 6), none, (.mov (.t 5)), []⟩, ⟨(some 7), (some (6, false)), (.faddr (.t 1) 0), []⟩, ⟨(some 8), (some (6, false)), (.ld (.t 7) none), []⟩, ⟨(some 9), (some (6, false)), (.bin .eql (.t 8) (.c (.int .i64 4))), []⟩, ⟨(some 10), none, (.pick (.t 6) (.c (.bool true)) (.t 9)), []⟩, ⟨(some 11), none, (.mov (.t 10)), []⟩, ⟨(some 12), (some (11, false)), (.faddr (.t 1) 0), []⟩, ⟨(some 13), (some (11, false)), (.ld (.t 12) none), []⟩, ⟨(some 14), (some (11, false)), (.bin .eql (.t 13) (.c (.int .i64 5))), []⟩, ⟨(some 15), none, (.pick (.t 11) (.c (.bool true)) (.t 14)), []⟩, ⟨(some 2), none, (.mov (.t 15)), []⟩]) .ret))
theorem h57 : compF Try.prog sh 57 = some (c57, [2], 16) := by kernel_rfl
def c58 : Cmd := (.seq (.reg false [⟨(some 3), none, (.box (.t 1)), []⟩, ⟨(some 4), none, (.mov (.c (.int .i64 0))), []⟩]) (.seq (.reg false [⟨(some 5), none, (.mov (.t 0)), []⟩, ⟨(some 6), none, (.fnc 114 [(.t 3)]), []⟩, ⟨(some 7), none, (.shr 113 [(.t 5), (.t 6)]), []⟩, ⟨(some 4), none, (.mov (.t 7)), []⟩]) .ret))
theorem h58 : compF Try.prog sh 58 = some (c58, [4], 8) := by kernel_rfl
def c114 : Cmd := (.seq (.reg false [⟨(some 2), none, (.box (.t 0)), []⟩, ⟨(some 3), none, (.mov (.c (.bool false))), []⟩]) (.seq (.reg false [⟨(some 4), none, (.faddr (.t 2) 0), []⟩, ⟨(some 5), none, (.ld (.t 4) none), []⟩, ⟨(some 6), none, (.bin .eql (.t 5) (.c (.int .i64 8))), []⟩, ⟨(some 7), none, (.mov (.t 6)), []⟩, ⟨(some 8), (some (7, true)), (.faddr (.t 2) 2), []⟩, ⟨(some 9), (some (7, true)), (.ld (.t 8) none), []⟩, ⟨(some 10), (some (7, true)), (.ld (.t 1) none), []⟩, ⟨(some 11), (some (7, true)), (.bin .eql (.t 9) (.t 10)), []⟩, ⟨(some 12), none, (.pick (.t 7) (.t 11) (.c (.bool false))), []⟩, ⟨(some 3), none, (.mov (.t 12)), []⟩]) .ret))
theorem h114 : compF Try.prog sh 114 = some (c114, [3], 13) := by kernel_rfl
def k113_0 : Cmd := (.block 1 (.seq (.reg false [⟨(some 10), none, (.mov (.t 8)), []⟩, ⟨(some 5), none, (.mov (.t 10)), []⟩]) (.seq (.reg false [⟨(some 11), none, (.mov (.t 1)), []⟩, ⟨(some 12), none, (.mov (.t 0)), []⟩, ⟨(some 13), none, (.mov (.t 5)), []⟩, ⟨(some 14), none, (.iaddr (.t 12) (.t 13) 5), []⟩, ⟨(some 15), none, (.ld (.t 14) (some 5)), []⟩, ⟨(some 16), none, (.calv (.t 11) [(.t 15)]), []⟩]) (.cond (.t 16) (.seq (.reg false [⟨(some 17), none, (.mov (.t 5)), []⟩, ⟨(some 4), none, (.mov (.t 17)), []⟩]) .ret) .skip))))
abbrev l113_0 : Cmd := cnt 0 9 8 7 18 k113_0
def c113 : Cmd := (.seq (.reg false [⟨(some 4), none, (.mov (.c (.int .i64 0))), []⟩]) (.seq (.seq (.reg false [⟨(some 6), none, (.mov (.t 0)), []⟩, ⟨(some 7), none, (.len false (.t 6)), []⟩, ⟨(some 8), none, (.mov (.c (.int .i64 0))), []⟩]) (.block 0 (.loop l113_0))) (.seq (.reg false [⟨(some 4), none, (.mov (.c (.int .i64 (-1)))), []⟩]) .ret)))
theorem h113 : compF Try.prog sh 113 = some (c113, [4], 19) := by kernel_rfl
def c54 : Cmd := (.seq (.reg false [⟨(some 3), none, (.box (.t 1)), []⟩, ⟨(some 4), none, (.mov (.c (.int .i64 0))), []⟩]) (.seq (.reg false [⟨(some 5), none, (.mov (.t 0)), []⟩, ⟨(some 6), none, (.fnc 111 [(.t 3)]), []⟩, ⟨(some 7), none, (.shr 110 [(.t 5), (.t 6)]), []⟩, ⟨(some 4), none, (.mov (.t 7)), []⟩]) .ret))
theorem h54 : compF Try.prog sh 54 = some (c54, [4], 8) := by kernel_rfl
def c111 : Cmd := (.seq (.reg false [⟨(some 2), none, (.box (.t 0)), []⟩, ⟨(some 3), none, (.mov (.c (.bool false))), []⟩]) (.seq (.reg false [⟨(some 4), none, (.faddr (.t 2) 0), []⟩, ⟨(some 5), none, (.ld (.t 4) none), []⟩, ⟨(some 6), none, (.ld (.t 1) none), []⟩, ⟨(some 7), none, (.bin .eql (.t 5) (.t 6)), []⟩, ⟨(some 3), none, (.mov (.t 7)), []⟩]) .ret))
theorem h111 : compF Try.prog sh 111 = some (c111, [3], 8) := by kernel_rfl
def k110_0 : Cmd := (.block 1 (.seq (.reg false [⟨(some 10), none, (.mov (.t 8)), []⟩, ⟨(some 5), none, (.mov (.t 10)), []⟩]) (.seq (.reg false [⟨(some 11), none, (.mov (.t 1)), []⟩, ⟨(some 12), none, (.mov (.t 0)), []⟩, ⟨(some 13), none, (.mov (.t 5)), []⟩, ⟨(some 14), none, (.iaddr (.t 12) (.t 13) 2), []⟩, ⟨(some 15), none, (.ld (.t 14) (some 2)), []⟩, ⟨(some 16), none, (.calv (.t 11) [(.t 15)]), []⟩]) (.cond (.t 16) (.seq (.reg false [⟨(some 17), none, (.mov (.t 5)), []⟩, ⟨(some 4), none, (.mov (.t 17)), []⟩]) .ret) .skip))))
abbrev l110_0 : Cmd := cnt 0 9 8 7 18 k110_0
def c110 : Cmd := (.seq (.reg false [⟨(some 4), none, (.mov (.c (.int .i64 0))), []⟩]) (.seq (.seq (.reg false [⟨(some 6), none, (.mov (.t 0)), []⟩, ⟨(some 7), none, (.len false (.t 6)), []⟩, ⟨(some 8), none, (.mov (.c (.int .i64 0))), []⟩]) (.block 0 (.loop l110_0))) (.seq (.reg false [⟨(some 4), none, (.mov (.c (.int .i64 (-1)))), []⟩]) .ret)))
theorem h110 : compF Try.prog sh 110 = some (c110, [4], 19) := by kernel_rfl
def k59_0 : Cmd := (.block 3 (.seq (.reg false [⟨(some 29), none, (.iaddr (.t 25) (.t 27) 5), []⟩, ⟨(some 30), none, (.ld (.t 29) (some 5)), []⟩, ⟨(some 9), none, (.alloc [(.int .i64 0), (.str []), (.str []), (.int .i64 0), (.bool false)]), []⟩, ⟨none, none, (.st (.t 9) (.t 30) 5), []⟩]) (.seq (.seq (.reg false [⟨(some 31), none, (.faddr (.t 9) 0), []⟩, ⟨(some 32), none, (.ld (.t 31) none), []⟩, ⟨(some 33), none, (.bin .neq (.t 32) (.c (.int .i64 6))), []⟩]) (.cond (.t 33) (.exit 3) .skip)) (.seq (.reg false [⟨(some 34), none, (.mov (.t 0)), []⟩, ⟨(some 35), none, (.faddr (.t 9) 1), []⟩, ⟨(some 36), none, (.ld (.t 35) none), []⟩, ⟨(some 37), none, (.call 54 [(.t 34), (.t 36)]), []⟩, ⟨(some 10), none, (.mov (.t 37)), []⟩]) (.seq (.reg false [⟨(some 38), none, (.mov (.t 5)), []⟩, ⟨(some 39), none, (.mov (.t 10)), []⟩, ⟨(some 40), none, (.call 43 [(.t 38), (.t 39)]), []⟩, ⟨(some 41), none, (.un .not (.t 40)), []⟩]) (.cond (.t 41) (.reg false [⟨(some 42), none, (.mov (.t 5)), []⟩, ⟨(some 43), none, (.mov (.t 10)), []⟩, ⟨(some 44), none, (.bs 1 1 [(.int .i64 0)] [(0, (.t 43))]), []⟩, ⟨(some 45), none, (.app 1 8 (.t 42) (.t 44)), []⟩, ⟨(some 46), none, (.mov (.t 6)), []⟩, ⟨(some 47), none, (.mov (.t 10)), []⟩, ⟨(some 48), none, (.bs 1 1 [(.int .i64 0)] [(0, (.t 47))]), []⟩, ⟨(some 49), none, (.app 1 8 (.t 46) (.t 48)), []⟩, ⟨(some 5), none, (.mov (.t 45)), []⟩, ⟨(some 6), none, (.mov (.t 49)), []⟩]) .skip))))))
abbrev l59_0 : Cmd := cnt 2 28 27 26 50 k59_0
def l59_1 : Cmd := (.seq (.seq (.reg false [⟨(some 13), none, (.mov (.t 6)), []⟩, ⟨(some 14), none, (.len false (.t 13)), []⟩, ⟨(some 15), none, (.bin .gtr (.t 14) (.c (.int .i64 0))), []⟩]) (.cond (.t 15) .skip (.exit 0))) (.block 1 (.seq (.reg false [⟨(some 16), none, (.mov (.t 0)), []⟩, ⟨(some 17), none, (.mov (.t 6)), []⟩, ⟨(some 18), none, (.iaddr (.t 17) (.c (.int .i64 0)) 1), []⟩, ⟨(some 19), none, (.ld (.t 18) none), []⟩, ⟨(some 20), none, (.iaddr (.t 16) (.t 19) 2), []⟩, ⟨(some 21), none, (.ld (.t 20) (some 2)), []⟩, ⟨(some 7), none, (.alloc [(.str []), .ns]), []⟩, ⟨none, none, (.st (.t 7) (.t 21) 2), []⟩]) (.seq (.reg false [⟨(some 22), none, (.mov (.t 6)), []⟩, ⟨(some 23), none, (.slc false (.t 22) (some (.c (.int .i64 1))) none 1), []⟩, ⟨(some 6), none, (.mov (.t 23)), []⟩]) (.seq (.reg false [⟨(some 24), none, (.faddr (.t 7) 1), []⟩, ⟨(some 25), none, (.ld (.t 24) none), []⟩, ⟨(some 26), none, (.len false (.t 25)), []⟩, ⟨(some 27), none, (.mov (.c (.int .i64 0))), []⟩]) (.block 2 (.loop l59_0)))))))
def c59 : Cmd := (.seq (.reg false [⟨(some 4), none, (.mov (.c .ns)), []⟩]) (.seq (.reg false [⟨(some 5), none, (.mov (.c .ns)), []⟩]) (.seq (.reg false [⟨(some 11), none, (.mov (.t 1)), []⟩, ⟨(some 12), none, (.bs 1 1 [(.int .i64 0)] [(0, (.t 11))]), []⟩, ⟨(some 6), none, (.mov (.t 12)), []⟩]) (.seq (.block 0 (.loop l59_1)) (.seq (.reg false [⟨(some 51), none, (.mov (.t 5)), []⟩, ⟨(some 4), none, (.mov (.t 51)), []⟩]) .ret)))))
theorem h59 : compF Try.prog sh 59 = some (c59, [4], 52) := by kernel_rfl
def c43 : Cmd := (.seq (.reg false [⟨(some 4), none, (.mov (.c (.bool false))), []⟩]) (.seq (.reg false [⟨(some 5), none, (.mov (.t 0)), []⟩, ⟨(some 6), none, (.mov (.t 1)), []⟩, ⟨(some 7), none, (.call 97 [(.t 5), (.t 6)]), []⟩, ⟨(some 8), none, (.bin .geq (.t 7) (.c (.int .i64 0))), []⟩, ⟨(some 4), none, (.mov (.t 8)), []⟩]) .ret))
theorem h43 : compF Try.prog sh 43 = some (c43, [4], 9) := by kernel_rfl
def k97_0 : Cmd := (.block 1 (.seq (.reg false [⟨(some 10), none, (.mov (.t 8)), []⟩, ⟨(some 5), none, (.mov (.t 10)), []⟩]) (.seq (.reg false [⟨(some 11), none, (.mov (.t 1)), []⟩, ⟨(some 12), none, (.mov (.t 0)), []⟩, ⟨(some 13), none, (.mov (.t 5)), []⟩, ⟨(some 14), none, (.iaddr (.t 12) (.t 13) 1), []⟩, ⟨(some 15), none, (.ld (.t 14) none), []⟩, ⟨(some 16), none, (.bin .eql (.t 11) (.t 15)), []⟩]) (.cond (.t 16) (.seq (.reg false [⟨(some 17), none, (.mov (.t 5)), []⟩, ⟨(some 4), none, (.mov (.t 17)), []⟩]) .ret) .skip))))
abbrev l97_0 : Cmd := cnt 0 9 8 7 18 k97_0
def c97 : Cmd := (.seq (.reg false [⟨(some 4), none, (.mov (.c (.int .i64 0))), []⟩]) (.seq (.seq (.reg false [⟨(some 6), none, (.mov (.t 0)), []⟩, ⟨(some 7), none, (.len false (.t 6)), []⟩, ⟨(some 8), none, (.mov (.c (.int .i64 0))), []⟩]) (.block 0 (.loop l97_0))) (.seq (.reg false [⟨(some 4), none, (.mov (.c (.int .i64 (-1)))), []⟩]) .ret)))
theorem h97 : compF Try.prog sh 97 = some (c97, [4], 19) := by kernel_rfl
def c18 : Cmd := (.seq (.reg false [⟨(some 4), none, (.mov (.c .ns)), []⟩, ⟨(some 5), none, (.mov (.c (.int .i64 0))), []⟩]) (.seq (.seq (.reg false [⟨(some 7), none, (.mov (.t 0)), []⟩, ⟨(some 8), none, (.call 20 [(.t 7)]), []⟩, ⟨(some 6), none, (.mov (.t 8)), []⟩]) (.seq (.reg false [⟨(some 9), none, (.mov (.t 6)), []⟩, ⟨(some 10), none, (.bin .neq (.t 9) (.c (.int .i64 0))), []⟩]) (.cond (.t 10) (.seq (.reg false [⟨(some 11), none, (.mov (.t 6)), []⟩, ⟨(some 4), none, (.mov (.c .ns)), []⟩, ⟨(some 5), none, (.mov (.t 11)), []⟩]) .ret) .skip))) (.seq (.seq (.reg false [⟨(some 12), none, (.mov (.t 0)), []⟩, ⟨(some 13), none, (.mov (.t 1)), []⟩, ⟨(some 14), none, (.call 55 [(.t 12), (.t 13)]), []⟩, ⟨(some 15), none, (.bin .lss (.t 14) (.c (.int .i64 0))), []⟩]) (.cond (.t 15) (.seq (.reg false [⟨(some 4), none, (.mov (.c .ns)), []⟩, ⟨(some 5), none, (.mov (.c (.int .i64 9))), []⟩]) .ret) .skip)) (.seq (.reg false [⟨(some 16), none, (.mov (.t 1)), []⟩, ⟨(some 17), none, (.bld [(.str []), (.int .i64 0), (.int .i64 0)] [(0, (1, (.t 16))), (2, (1, (.c (.int .i64 (-1)))))]), []⟩, ⟨(some 18), none, (.bs 1 3 [(.str []), (.int .i64 0), (.int .i64 0)] [(0, (.t 17))]), []⟩, ⟨(some 4), none, (.mov (.t 18)), []⟩, ⟨(some 5), none, (.mov (.c (.int .i64 0))), []⟩]) .ret))))
theorem h18 : compF Try.prog sh 18 = some (c18, [4, 5], 19) := by kernel_rfl
def l20_0 : Cmd := (.seq (.seq (.reg false [⟨(some 33), none, (.mov (.t 4)), []⟩, ⟨(some 34), none, (.mov (.t 0)), []⟩, ⟨(some 35), none, (.mov (.t 3)), []⟩, ⟨(some 36), none, (.iaddr (.t 34) (.t 35) 2), []⟩, ⟨(some 37), none, (.faddr (.t 36) 1), []⟩, ⟨(some 38), none, (.ld (.t 37) none), []⟩, ⟨(some 39), none, (.len false (.t 38)), []⟩, ⟨(some 40), none, (.bin .lss (.t 33) (.t 39)), []⟩]) (.cond (.t 40) .skip (.exit 2))) (.seq (.block 3 (.seq (.reg false [⟨(some 43), none, (.mov (.t 0)), []⟩, ⟨(some 44), none, (.mov (.t 3)), []⟩, ⟨(some 45), none, (.iaddr (.t 43) (.t 44) 2), []⟩, ⟨(some 46), none, (.ld (.t 45) (some 2)), []⟩, ⟨(some 47), none, (.mov (.t 4)), []⟩, ⟨(some 48), none, (.call 61 [(.t 46), (.t 47)]), []⟩, ⟨(some 5), none, (.mov (.t 48)), []⟩]) (.seq (.reg false [⟨(some 49), none, (.mov (.t 5)), []⟩, ⟨(some 50), none, (.bin .neq (.t 49) (.c (.int .i64 0))), []⟩]) (.cond (.t 50) (.seq (.reg false [⟨(some 51), none, (.mov (.t 5)), []⟩, ⟨(some 2), none, (.mov (.t 51)), []⟩]) .ret) .skip)))) (.reg false [⟨(some 41), none, (.mov (.t 4)), []⟩, ⟨(some 42), none, (.bin .add (.t 41) (.c (.int .i64 1))), []⟩, ⟨(some 4), none, (.mov (.t 42)), []⟩])))
def l20_1 : Cmd := (.seq (.seq (.reg false [⟨(some 13), none, (.mov (.t 3)), []⟩, ⟨(some 14), none, (.mov (.t 0)), []⟩, ⟨(some 15), none, (.len false (.t 14)), []⟩, ⟨(some 16), none, (.bin .lss (.t 13) (.t 15)), []⟩]) (.cond (.t 16) .skip (.exit 0))) (.seq (.block 1 (.seq (.seq (.reg false [⟨(some 19), none, (.mov (.t 0)), []⟩, ⟨(some 20), none, (.mov (.t 3)), []⟩, ⟨(some 21), none, (.iaddr (.t 19) (.t 20) 2), []⟩, ⟨(some 22), none, (.faddr (.t 21) 0), []⟩, ⟨(some 23), none, (.ld (.t 22) none), []⟩, ⟨(some 24), none, (.call 60 [(.t 23)]), []⟩, ⟨(some 25), none, (.un .not (.t 24)), []⟩]) (.cond (.t 25) (.seq (.reg false [⟨(some 2), none, (.mov (.c (.int .i64 5))), []⟩]) .ret) .skip)) (.seq (.seq (.reg false [⟨(some 26), none, (.mov (.t 0)), []⟩, ⟨(some 27), none, (.mov (.t 3)), []⟩, ⟨(some 28), none, (.iaddr (.t 26) (.t 27) 2), []⟩, ⟨(some 29), none, (.faddr (.t 28) 1), []⟩, ⟨(some 30), none, (.ld (.t 29) none), []⟩, ⟨(some 31), none, (.len false (.t 30)), []⟩, ⟨(some 32), none, (.bin .gtr (.t 31) (.c (.int .i64 200))), []⟩]) (.cond (.t 32) (.seq (.reg false [⟨(some 2), none, (.mov (.c (.int .i64 2))), []⟩]) .ret) .skip)) (.seq (.seq (.reg false [⟨(some 4), none, (.mov (.c (.int .i64 0))), []⟩]) (.block 2 (.loop l20_0))) (.seq (.reg true [⟨(some 52), none, (.mov (.t 3)), []⟩, ⟨(some 53), none, (.bin .gtr (.t 52) (.c (.int .i64 0))), []⟩, ⟨(some 54), none, (.mov (.t 53)), []⟩, ⟨(some 55), (some (54, true)), (.mov (.t 0)), []⟩, ⟨(some 56), (some (54, true)), (.mov (.t 3)), []⟩, ⟨(some 57), (some (54, true)), (.iaddr (.t 55) (.t 56) 2), []⟩, ⟨(some 58), (some (54, true)), (.faddr (.t 57) 0), []⟩, ⟨(some 59), (some (54, true)), (.ld (.t 58) none), []⟩, ⟨(some 60), (some (54, true)), (.mov (.t 0)), []⟩, ⟨(some 61), (some (54, true)), (.mov (.t 3)), []⟩, ⟨(some 62), (some (54, true)), (.bin .sub (.t 61) (.c (.int .i64 1))), []⟩, ⟨(some 63), (some (54, true)), (.iaddr (.t 60) (.t 62) 2), []⟩, ⟨(some 64), (some (54, true)), (.faddr (.t 63) 0), []⟩, ⟨(some 65), (some (54, true)), (.ld (.t 64) none), []⟩, ⟨(some 66), (some (54, true)), (.bin .leq (.t 59) (.t 65)), []⟩, ⟨(some 67), none, (.pick (.t 54) (.t 66) (.c (.bool false))), []⟩]) (.cond (.t 67) (.seq (.reg false [⟨(some 2), none, (.mov (.c (.int .i64 8))), []⟩]) .ret) .skip)))))) (.reg false [⟨(some 17), none, (.mov (.t 3)), []⟩, ⟨(some 18), none, (.bin .add (.t 17) (.c (.int .i64 1))), []⟩, ⟨(some 3), none, (.mov (.t 18)), []⟩])))
def l20_2 : Cmd := (.seq (.seq (.reg false [⟨(some 74), none, (.mov (.t 7)), []⟩, ⟨(some 75), none, (.mov (.t 0)), []⟩, ⟨(some 76), none, (.mov (.t 6)), []⟩, ⟨(some 77), none, (.iaddr (.t 75) (.t 76) 2), []⟩, ⟨(some 78), none, (.faddr (.t 77) 1), []⟩, ⟨(some 79), none, (.ld (.t 78) none), []⟩, ⟨(some 80), none, (.len false (.t 79)), []⟩, ⟨(some 81), none, (.bin .lss (.t 74) (.t 80)), []⟩]) (.cond (.t 81) .skip (.exit 6))) (.seq (.block 7 (.seq (.reg false [⟨(some 84), none, (.mov (.t 0)), []⟩, ⟨(some 85), none, (.mov (.t 6)), []⟩, ⟨(some 86), none, (.iaddr (.t 84) (.t 85) 2), []⟩, ⟨(some 87), none, (.faddr (.t 86) 1), []⟩, ⟨(some 88), none, (.ld (.t 87) none), []⟩, ⟨(some 89), none, (.mov (.t 7)), []⟩, ⟨(some 90), none, (.iaddr (.t 88) (.t 89) 5), []⟩, ⟨(some 91), none, (.ld (.t 90) (some 5)), []⟩, ⟨(some 8), none, (.alloc [(.int .i64 0), (.str []), (.str []), (.int .i64 0), (.bool false)]), []⟩, ⟨none, none, (.st (.t 8) (.t 91) 5), []⟩]) (.seq (.reg true [⟨(some 92), none, (.faddr (.t 8) 0), []⟩, ⟨(some 93), none, (.ld (.t 92) none), []⟩, ⟨(some 94), none, (.bin .eql (.t 93) (.c (.int .i64 6))), []⟩, ⟨(some 95), none, (.mov (.t 94)), []⟩, ⟨(some 96), (some (95, true)), (.mov (.t 0)), []⟩, ⟨(some 97), (some (95, true)), (.faddr (.t 8) 1), []⟩, ⟨(some 98), (some (95, true)), (.ld (.t 97) none), []⟩, ⟨(some 99), (some (95, true)), (.call 55 [(.t 96), (.t 98)]), []⟩, ⟨(some 100), (some (95, true)), (.bin .lss (.t 99) (.c (.int .i64 0))), []⟩, ⟨(some 101), none, (.pick (.t 95) (.t 100) (.c (.bool false))), []⟩, ⟨(some 102), none, (.mov (.t 101)), []⟩, ⟨(some 103), (some (102, false)), (.faddr (.t 8) 0), []⟩, ⟨(some 104), (some (102, false)), (.ld (.t 103) none), []⟩, ⟨(some 105), (some (102, false)), (.bin .neq (.t 104) (.c (.int .i64 6))), []⟩, ⟨(some 106), (some (102, false)), (.mov (.t 105)), []⟩, ⟨(some 107), (some (106, true)), (.faddr (.t 8) 2), []⟩, ⟨(some 108), (some (106, true)), (.ld (.t 107) none), []⟩, ⟨(some 109), (some (106, true)), (.bin .neq (.t 108) (.c (.str []))), []⟩, ⟨(some 110), (some (102, false)), (.pick (.t 106) (.t 109) (.c (.bool false))), []⟩, ⟨(some 111), (some (102, false)), (.mov (.t 110)), []⟩, ⟨(some 112), (some (111, true)), (.mov (.t 0)), []⟩, ⟨(some 113), (some (111, true)), (.mov (.t 6)), []⟩, ⟨(some 114), (some (111, true)), (.iaddr (.t 112) (.t 113) 2), []⟩, ⟨(some 115), (some (111, true)), (.ld (.t 114) (some 2)), []⟩, ⟨(some 116), (some (111, true)), (.faddr (.t 8) 2), []⟩, ⟨(some 117), (some (111, true)), (.ld (.t 116) none), []⟩, ⟨(some 118), (some (111, true)), (.call 62 [(.t 115), (.t 117)]), []⟩, ⟨(some 119), (some (111, true)), (.bin .lss (.t 118) (.c (.int .i64 0))), []⟩, ⟨(some 120), (some (102, false)), (.pick (.t 111) (.t 119) (.c (.bool false))), []⟩, ⟨(some 121), none, (.pick (.t 102) (.c (.bool true)) (.t 120)), []⟩]) (.cond (.t 121) (.seq (.reg false [⟨(some 2), none, (.mov (.c (.int .i64 9))), []⟩]) .ret) .skip)))) (.reg false [⟨(some 82), none, (.mov (.t 7)), []⟩, ⟨(some 83), none, (.bin .add (.t 82) (.c (.int .i64 1))), []⟩, ⟨(some 7), none, (.mov (.t 83)), []⟩])))
def l20_3 : Cmd := (.seq (.seq (.reg false [⟨(some 68), none, (.mov (.t 6)), []⟩, ⟨(some 69), none, (.mov (.t 0)), []⟩, ⟨(some 70), none, (.len false (.t 69)), []⟩, ⟨(some 71), none, (.bin .lss (.t 68) (.t 70)), []⟩]) (.cond (.t 71) .skip (.exit 4))) (.seq (.block 5 (.seq (.reg false [⟨(some 7), none, (.mov (.c (.int .i64 0))), []⟩]) (.block 6 (.loop l20_2)))) (.reg false [⟨(some 72), none, (.mov (.t 6)), []⟩, ⟨(some 73), none, (.bin .add (.t 72) (.c (.int .i64 1))), []⟩, ⟨(some 6), none, (.mov (.t 73)), []⟩])))
def l20_4 : Cmd := (.seq (.seq (.reg false [⟨(some 122), none, (.mov (.t 9)), []⟩, ⟨(some 123), none, (.mov (.t 0)), []⟩, ⟨(some 124), none, (.len false (.t 123)), []⟩, ⟨(some 125), none, (.bin .lss (.t 122) (.t 124)), []⟩]) (.cond (.t 125) .skip (.exit 8))) (.seq (.block 9 (.seq (.reg true [⟨(some 128), none, (.mov (.t 0)), []⟩, ⟨(some 129), none, (.mov (.t 0)), []⟩, ⟨(some 130), none, (.mov (.t 9)), []⟩, ⟨(some 131), none, (.iaddr (.t 129) (.t 130) 2), []⟩, ⟨(some 132), none, (.faddr (.t 131) 0), []⟩, ⟨(some 133), none, (.ld (.t 132) none), []⟩, ⟨(some 134), none, (.mov (.t 0)), []⟩, ⟨(some 135), none, (.mov (.t 9)), []⟩, ⟨(some 136), none, (.iaddr (.t 134) (.t 135) 2), []⟩, ⟨(some 137), none, (.faddr (.t 136) 0), []⟩, ⟨(some 138), none, (.ld (.t 137) none), []⟩, ⟨(some 139), none, (.call 63 [(.t 128), (.t 133), (.t 138)]), []⟩]) (.cond (.t 139) (.seq (.reg false [⟨(some 2), none, (.mov (.c (.int .i64 17))), []⟩]) .ret) .skip))) (.reg false [⟨(some 126), none, (.mov (.t 9)), []⟩, ⟨(some 127), none, (.bin .add (.t 126) (.c (.int .i64 1))), []⟩, ⟨(some 9), none, (.mov (.t 127)), []⟩])))
def c20 : Cmd := (.seq (.reg false [⟨(some 2), none, (.mov (.c (.int .i64 0))), []⟩]) (.seq (.seq (.reg false [⟨(some 10), none, (.mov (.t 0)), []⟩, ⟨(some 11), none, (.len false (.t 10)), []⟩, ⟨(some 12), none, (.bin .gtr (.t 11) (.c (.int .i64 50))), []⟩]) (.cond (.t 12) (.seq (.reg false [⟨(some 2), none, (.mov (.c (.int .i64 2))), []⟩]) .ret) .skip)) (.seq (.seq (.reg false [⟨(some 3), none, (.mov (.c (.int .i64 0))), []⟩]) (.block 0 (.loop l20_1))) (.seq (.seq (.reg false [⟨(some 6), none, (.mov (.c (.int .i64 0))), []⟩]) (.block 4 (.loop l20_3))) (.seq (.seq (.reg false [⟨(some 9), none, (.mov (.c (.int .i64 0))), []⟩]) (.block 8 (.loop l20_4))) (.seq (.reg false [⟨(some 2), none, (.mov (.c (.int .i64 0))), []⟩]) .ret))))))
theorem h20 : compF Try.prog sh 20 = some (c20, [2], 140) := by kernel_rfl
def c61 : Cmd := (.seq (.reg false [⟨(some 2), none, (.box (.t 0)), []⟩, ⟨(some 4), none, (.mov (.c (.int .i64 0))), []⟩]) (.seq (.reg false [⟨(some 9), none, (.faddr (.t 2) 1), []⟩, ⟨(some 10), none, (.ld (.t 9) none), []⟩, ⟨(some 11), none, (.mov (.t 1)), []⟩, ⟨(some 12), none, (.iaddr (.t 10) (.t 11) 5), []⟩, ⟨(some 13), none, (.ld (.t 12) (some 5)), []⟩, ⟨(some 5), none, (.alloc [(.int .i64 0), (.str []), (.str []), (.int .i64 0), (.bool false)]), []⟩, ⟨none, none, (.st (.t 5) (.t 13) 5), []⟩]) (.seq (.seq (.reg false [⟨(some 14), none, (.faddr (.t 5) 0), []⟩, ⟨(some 15), none, (.ld (.t 14) none), []⟩, ⟨(some 16), none, (.call 65 [(.t 15), (.c (.int .i64 1)), (.c (.int .i64 8))]), []⟩, ⟨(some 17), none, (.un .not (.t 16)), []⟩]) (.cond (.t 17) (.seq (.reg false [⟨(some 4), none, (.mov (.c (.int .i64 4))), []⟩]) .ret) .skip)) (.seq (.reg false [⟨(some 19), none, (.faddr (.t 5) 0), []⟩, ⟨(some 20), none, (.ld (.t 19) none), []⟩, ⟨(some 21), none, (.call 115 [(.t 20)]), []⟩, ⟨(some 18), none, (.mov (.t 21)), []⟩, ⟨(some 22), none, (.ext (.t 18) 0), []⟩, ⟨(some 23), none, (.ext (.t 18) 1), []⟩, ⟨(some 24), none, (.ext (.t 18) 2), []⟩, ⟨(some 6), none, (.mov (.t 22)), []⟩, ⟨(some 7), none, (.mov (.t 23)), []⟩, ⟨(some 8), none, (.mov (.t 24)), []⟩]) (.seq (.seq (.reg false [⟨(some 25), none, (.mov (.t 6)), []⟩, ⟨(some 26), none, (.un .not (.t 25)), []⟩, ⟨(some 27), none, (.mov (.t 26)), []⟩, ⟨(some 28), (some (27, true)), (.faddr (.t 5) 1), []⟩, ⟨(some 29), (some (27, true)), (.ld (.t 28) none), []⟩, ⟨(some 30), (some (27, true)), (.bin .neq (.t 29) (.c (.str []))), []⟩, ⟨(some 31), none, (.pick (.t 27) (.t 30) (.c (.bool false))), []⟩, ⟨(some 32), none, (.mov (.t 31)), []⟩, ⟨(some 33), (some (32, false)), (.mov (.t 7)), []⟩, ⟨(some 34), (some (32, false)), (.un .not (.t 33)), []⟩, ⟨(some 35), (some (32, false)), (.mov (.t 34)), []⟩, ⟨(some 36), (some (35, true)), (.faddr (.t 5) 3), []⟩, ⟨(some 37), (some (35, true)), (.ld (.t 36) none), []⟩, ⟨(some 38), (some (35, true)), (.bin .neq (.t 37) (.c (.int .i64 0))), []⟩, ⟨(some 39), (some (32, false)), (.pick (.t 35) (.t 38) (.c (.bool false))), []⟩, ⟨(some 40), none, (.pick (.t 32) (.c (.bool true)) (.t 39)), []⟩, ⟨(some 41), none, (.mov (.t 40)), []⟩, ⟨(some 42), (some (41, false)), (.mov (.t 8)), []⟩, ⟨(some 43), (some (41, false)), (.un .not (.t 42)), []⟩, ⟨(some 44), (some (41, false)), (.mov (.t 43)), []⟩, ⟨(some 45), (some (44, true)), (.faddr (.t 5) 2), []⟩, ⟨(some 46), (some (44, true)), (.ld (.t 45) none), []⟩, ⟨(some 47), (some (44, true)), (.bin .neq (.t 46) (.c (.str []))), []⟩, ⟨(some 48), (some (41, false)), (.pick (.t 44) (.t 47) (.c (.bool false))), []⟩, ⟨(some 49), none, (.pick (.t 41) (.c (.bool true)) (.t 48)), []⟩, ⟨(some 50), none, (.mov (.t 49)), []⟩, ⟨(some 51), (some (50, false)), (.faddr (.t 5) 4), []⟩, ⟨(some 52), (some (50, false)), (.ld (.t 51) none), []⟩, ⟨(some 53), (some (50, false)), (.mov (.t 52)), []⟩, ⟨(some 54), (some (53, true)), (.faddr (.t 5) 0), []⟩, ⟨(some 55), (some (53, true)), (.ld (.t 54) none), []⟩, ⟨(some 56), (some (53, true)), (.bin .neq (.t 55) (.c (.int .i64 4))), []⟩, ⟨(some 57), (some (50, false)), (.pick (.t 53) (.t 56) (.c (.bool false))), []⟩, ⟨(some 58), none, (.pick (.t 50) (.c (.bool true)) (.t 57)), []⟩]) (.cond (.t 58) (.seq (.reg false [⟨(some 4), none, (.mov (.c (.int .i64 3))), []⟩]) .ret) .skip)) (.seq (.seq (.reg false [⟨(some 59), none, (.faddr (.t 5) 0), []⟩, ⟨(some 60), none, (.ld (.t 59) none), []⟩, ⟨(some 61), none, (.bin .eql (.t 60) (.c (.int .i64 1))), []⟩, ⟨(some 62), none, (.mov (.t 61)), []⟩, ⟨(some 63), (some (62, true)), (.faddr (.t 5) 1), []⟩, ⟨(some 64), (some (62, true)), (.ld (.t 63) none), []⟩, ⟨(some 65), (some (62, true)), (.call 116 [(.t 64)]), []⟩, ⟨(some 66), (some (62, true)), (.un .not (.t 65)), []⟩, ⟨(some 67), none, (.pick (.t 62) (.t 66) (.c (.bool false))), []⟩]) (.cond (.t 67) (.seq (.reg false [⟨(some 4), none, (.mov (.c (.int .i64 3))), []⟩]) .ret) .skip)) (.seq (.seq (.reg false [⟨(some 68), none, (.mov (.t 6)), []⟩, ⟨(some 69), none, (.mov (.t 68)), []⟩, ⟨(some 70), (some (69, true)), (.faddr (.t 5) 0), []⟩, ⟨(some 71), (some (69, true)), (.ld (.t 70) none), []⟩, ⟨(some 72), (some (69, true)), (.bin .neq (.t 71) (.c (.int .i64 1))), []⟩, ⟨(some 73), none, (.pick (.t 69) (.t 72) (.c (.bool false))), []⟩, ⟨(some 74), none, (.mov (.t 73)), []⟩, ⟨(some 75), (some (74, true)), (.faddr (.t 5) 1), []⟩, ⟨(some 76), (some (74, true)), (.ld (.t 75) none), []⟩, ⟨(some 77), (some (74, true)), (.call 60 [(.t 76)]), []⟩, ⟨(some 78), (some (74, true)), (.un .not (.t 77)), []⟩, ⟨(some 79), none, (.pick (.t 74) (.t 78) (.c (.bool false))), []⟩]) (.cond (.t 79) (.seq (.reg false [⟨(some 4), none, (.mov (.c (.int .i64 5))), []⟩]) .ret) .skip)) (.seq (.seq (.reg false [⟨(some 80), none, (.mov (.t 7)), []⟩, ⟨(some 81), none, (.mov (.t 80)), []⟩, ⟨(some 82), (some (81, true)), (.faddr (.t 5) 3), []⟩, ⟨(some 83), (some (81, true)), (.ld (.t 82) none), []⟩, ⟨(some 84), (some (81, true)), (.call 65 [(.t 83), (.c (.int .i64 1)), (.c (.int .i64 1000000000))]), []⟩, ⟨(some 85), (some (81, true)), (.un .not (.t 84)), []⟩, ⟨(some 86), none, (.pick (.t 81) (.t 85) (.c (.bool false))), []⟩]) (.cond (.t 86) (.seq (.reg false [⟨(some 4), none, (.mov (.c (.int .i64 1))), []⟩]) .ret) .skip)) (.seq (.seq (.reg false [⟨(some 87), none, (.mov (.t 8)), []⟩, ⟨(some 88), none, (.mov (.t 87)), []⟩, ⟨(some 89), (some (88, true)), (.faddr (.t 5) 2), []⟩, ⟨(some 90), (some (88, true)), (.ld (.t 89) none), []⟩, ⟨(some 91), (some (88, true)), (.call 60 [(.t 90)]), []⟩, ⟨(some 92), (some (88, true)), (.un .not (.t 91)), []⟩, ⟨(some 93), none, (.pick (.t 88) (.t 92) (.c (.bool false))), []⟩]) (.cond (.t 93) (.seq (.reg false [⟨(some 4), none, (.mov (.c (.int .i64 5))), []⟩]) .ret) .skip)) (.seq (.seq (.reg false [⟨(some 94), none, (.faddr (.t 5) 0), []⟩, ⟨(some 95), none, (.ld (.t 94) none), []⟩, ⟨(some 96), none, (.bin .eql (.t 95) (.c (.int .i64 8))), []⟩, ⟨(some 97), none, (.mov (.t 96)), []⟩, ⟨(some 98), (some (97, true)), (.ld (.t 2) (some 2)), []⟩, ⟨(some 99), (some (97, true)), (.faddr (.t 5) 2), []⟩, ⟨(some 100), (some (97, true)), (.ld (.t 99) none), []⟩, ⟨(some 101), (some (97, true)), (.call 62 [(.t 98), (.t 100)]), []⟩, ⟨(some 102), (some (97, true)), (.mov (.t 1)), []⟩, ⟨(some 103), (some (97, true)), (.bin .lss (.t 101) (.t 102)), []⟩, ⟨(some 104), none, (.pick (.t 97) (.t 103) (.c (.bool false))), []⟩]) (.cond (.t 104) (.seq (.reg false [⟨(some 4), none, (.mov (.c (.int .i64 7))), []⟩]) .ret) .skip)) (.seq (.reg false [⟨(some 4), none, (.mov (.c (.int .i64 0))), []⟩]) .ret)))))))))))
theorem h61 : compF Try.prog sh 61 = some (c61, [4], 105) := by kernel_rfl
def c115 : Cmd := (.seq (.reg false [⟨(some 2), none, (.mov (.c (.bool false))), []⟩, ⟨(some 3), none, (.mov (.c (.bool false))), []⟩, ⟨(some 4), none, (.mov (.c (.bool false))), []⟩]) (.seq (.seq (.reg false [⟨(some 5), none, (.mov (.t 0)), []⟩]) (.block 0 (.seq (.seq (.reg false [⟨(some 7), none, (.bin .eql (.t 5) (.c (.int .i64 1))), []⟩, ⟨(some 6), none, (.mov (.t 7)), []⟩]) (.cond (.t 6) .skip (.reg false [⟨(some 8), none, (.bin .eql (.t 5) (.c (.int .i64 6))), []⟩, ⟨(some 6), none, (.mov (.t 8)), []⟩]))) (.cond (.t 6) (.seq (.reg false [⟨(some 2), none, (.mov (.c (.bool true))), []⟩, ⟨(some 3), none, (.mov (.c (.bool false))), []⟩, ⟨(some 4), none, (.mov (.c (.bool false))), []⟩]) .ret) (.seq (.reg false [⟨(some 10), none, (.bin .eql (.t 5) (.c (.int .i64 2))), []⟩, ⟨(some 9), none, (.mov (.t 10)), []⟩]) (.cond (.t 9) (.seq (.reg false [⟨(some 2), none, (.mov (.c (.bool false))), []⟩, ⟨(some 3), none, (.mov (.c (.bool true))), []⟩, ⟨(some 4), none, (.mov (.c (.bool false))), []⟩]) .ret) (.seq (.reg false [⟨(some 12), none, (.bin .eql (.t 5) (.c (.int .i64 3))), []⟩, ⟨(some 11), none, (.mov (.t 12)), []⟩]) (.cond (.t 11) (.seq (.reg false [⟨(some 2), none, (.mov (.c (.bool true))), []⟩, ⟨(some 3), none, (.mov (.c (.bool true))), []⟩, ⟨(some 4), none, (.mov (.c (.bool true))), []⟩]) .ret) (.seq (.reg false [⟨(some 14), none, (.bin .eql (.t 5) (.c (.int .i64 4))), []⟩, ⟨(some 13), none, (.mov (.t 14)), []⟩]) (.cond (.t 13) (.seq (.reg false [⟨(some 2), none, (.mov (.c (.bool true))), []⟩, ⟨(some 3), none, (.mov (.c (.bool false))), []⟩, ⟨(some 4), none, (.mov (.c (.bool true))), []⟩]) .ret) (.seq (.seq (.reg false [⟨(some 16), none, (.bin .eql (.t 5) (.c (.int .i64 5))), []⟩, ⟨(some 15), none, (.mov (.t 16)), []⟩]) (.cond (.t 15) .skip (.reg false [⟨(some 17), none, (.bin .eql (.t 5) (.c (.int .i64 8))), []⟩, ⟨(some 15), none, (.mov (.t 17)), []⟩]))) (.cond (.t 15) (.seq (.reg false [⟨(some 2), none, (.mov (.c (.bool false))), []⟩, ⟨(some 3), none, (.mov (.c (.bool false))), []⟩, ⟨(some 4), none, (.mov (.c (.bool true))), []⟩]) .ret) .skip)))))))))))) (.seq (.reg false [⟨(some 2), none, (.mov (.c (.bool false))), []⟩, ⟨(some 3), none, (.mov (.c (.bool false))), []⟩, ⟨(some 4), none, (.mov (.c (.bool false))), []⟩]) .ret)))
theorem h115 : compF Try.prog sh 115 = some (c115, [2, 3, 4], 18) := by kernel_rfl
def l62_0 : Cmd := (.seq (.seq (.reg false [⟨(some 6), none, (.mov (.t 5)), []⟩, ⟨(some 7), none, (.faddr (.t 2) 1), []⟩, ⟨(some 8), none, (.ld (.t 7) none), []⟩, ⟨(some 9), none, (.len false (.t 8)), []⟩, ⟨(some 10), none, (.bin .lss (.t 6) (.t 9)), []⟩]) (.cond (.t 10) .skip (.exit 0))) (.seq (.block 1 (.seq (.reg false [⟨(some 13), none, (.faddr (.t 2) 1), []⟩, ⟨(some 14), none, (.ld (.t 13) none), []⟩, ⟨(some 15), none, (.mov (.t 5)), []⟩, ⟨(some 16), none, (.iaddr (.t 14) (.t 15) 5), []⟩, ⟨(some 17), none, (.faddr (.t 16) 0), []⟩, ⟨(some 18), none, (.ld (.t 17) none), []⟩, ⟨(some 19), none, (.bin .eql (.t 18) (.c (.int .i64 8))), []⟩, ⟨(some 20), none, (.mov (.t 19)), []⟩, ⟨(some 21), (some (20, true)), (.faddr (.t 2) 1), []⟩, ⟨(some 22), (some (20, true)), (.ld (.t 21) none), []⟩, ⟨(some 23), (some (20, true)), (.mov (.t 5)), []⟩, ⟨(some 24), (some (20, true)), (.iaddr (.t 22) (.t 23) 5), []⟩, ⟨(some 25), (some (20, true)), (.faddr (.t 24) 2), []⟩, ⟨(some 26), (some (20, true)), (.ld (.t 25) none), []⟩, ⟨(some 27), (some (20, true)), (.mov (.t 1)), []⟩, ⟨(some 28), (some (20, true)), (.bin .eql (.t 26) (.t 27)), []⟩, ⟨(some 29), none, (.pick (.t 20) (.t 28) (.c (.bool false))), []⟩]) (.cond (.t 29) (.seq (.reg false [⟨(some 30), none, (.mov (.t 5)), []⟩, ⟨(some 4), none, (.mov (.t 30)), []⟩]) .ret) .skip))) (.reg false [⟨(some 11), none, (.mov (.t 5)), []⟩, ⟨(some 12), none, (.bin .add (.t 11) (.c (.int .i64 1))), []⟩, ⟨(some 5), none, (.mov (.t 12)), []⟩])))
def c62 : Cmd := (.seq (.reg false [⟨(some 2), none, (.box (.t 0)), []⟩, ⟨(some 4), none, (.mov (.c (.int .i64 0))), []⟩]) (.seq (.seq (.reg false [⟨(some 5), none, (.mov (.c (.int .i64 0))), []⟩]) (.block 0 (.loop l62_0))) (.seq (.reg false [⟨(some 4), none, (.mov (.c (.int .i64 (-1)))), []⟩]) .ret)))
theorem h62 : compF Try.prog sh 62 = some (c62, [4], 31) := by kernel_rfl
def l55_0 : Cmd := (.seq (.seq (.reg false [⟨(some 6), none, (.mov (.t 5)), []⟩, ⟨(some 7), none, (.mov (.t 0)), []⟩, ⟨(some 8), none, (.len false (.t 7)), []⟩, ⟨(some 9), none, (.bin .lss (.t 6) (.t 8)), []⟩]) (.cond (.t 9) .skip (.exit 0))) (.seq (.block 1 (.seq (.reg false [⟨(some 12), none, (.mov (.t 0)), []⟩, ⟨(some 13), none, (.mov (.t 5)), []⟩, ⟨(some 14), none, (.iaddr (.t 12) (.t 13) 2), []⟩, ⟨(some 15), none, (.faddr (.t 14) 0), []⟩, ⟨(some 16), none, (.ld (.t 15) none), []⟩, ⟨(some 17), none, (.mov (.t 1)), []⟩, ⟨(some 18), none, (.bin .eql (.t 16) (.t 17)), []⟩]) (.cond (.t 18) (.seq (.reg false [⟨(some 19), none, (.mov (.t 5)), []⟩, ⟨(some 4), none, (.mov (.t 19)), []⟩]) .ret) .skip))) (.reg false [⟨(some 10), none, (.mov (.t 5)), []⟩, ⟨(some 11), none, (.bin .add (.t 10) (.c (.int .i64 1))), []⟩, ⟨(some 5), none, (.mov (.t 11)), []⟩])))
def c55 : Cmd := (.seq (.reg false [⟨(some 4), none, (.mov (.c (.int .i64 0))), []⟩]) (.seq (.seq (.reg false [⟨(some 5), none, (.mov (.c (.int .i64 0))), []⟩]) (.block 0 (.loop l55_0))) (.seq (.reg false [⟨(some 4), none, (.mov (.c (.int .i64 (-1)))), []⟩]) .ret)))
theorem h55 : compF Try.prog sh 55 = some (c55, [4], 20) := by kernel_rfl
def l63_0 : Cmd := (.seq (.seq (.reg false [⟨(some 31), none, (.mov (.t 11)), []⟩, ⟨(some 32), none, (.faddr (.t 10) 1), []⟩, ⟨(some 33), none, (.ld (.t 32) none), []⟩, ⟨(some 34), none, (.len false (.t 33)), []⟩, ⟨(some 35), none, (.bin .lss (.t 31) (.t 34)), []⟩]) (.cond (.t 35) .skip (.exit 2))) (.seq (.block 3 (.seq (.reg false [⟨(some 38), none, (.faddr (.t 10) 1), []⟩, ⟨(some 39), none, (.ld (.t 38) none), []⟩, ⟨(some 40), none, (.mov (.t 11)), []⟩, ⟨(some 41), none, (.iaddr (.t 39) (.t 40) 5), []⟩, ⟨(some 42), none, (.ld (.t 41) (some 5)), []⟩, ⟨(some 12), none, (.alloc [(.int .i64 0), (.str []), (.str []), (.int .i64 0), (.bool false)]), []⟩, ⟨none, none, (.st (.t 12) (.t 42) 5), []⟩]) (.seq (.seq (.reg false [⟨(some 43), none, (.faddr (.t 12) 0), []⟩, ⟨(some 44), none, (.ld (.t 43) none), []⟩, ⟨(some 45), none, (.bin .neq (.t 44) (.c (.int .i64 6))), []⟩, ⟨(some 46), none, (.mov (.t 45)), []⟩, ⟨(some 47), (some (46, false)), (.mov (.t 7)), []⟩, ⟨(some 48), (some (46, false)), (.faddr (.t 12) 1), []⟩, ⟨(some 49), (some (46, false)), (.ld (.t 48) none), []⟩, ⟨(some 50), (some (46, false)), (.call 117 [(.t 47), (.t 49)]), []⟩, ⟨(some 51), none, (.pick (.t 46) (.c (.bool true)) (.t 50)), []⟩]) (.cond (.t 51) (.exit 3) .skip)) (.seq (.seq (.reg false [⟨(some 52), none, (.faddr (.t 12) 1), []⟩, ⟨(some 53), none, (.ld (.t 52) none), []⟩, ⟨(some 54), none, (.mov (.t 2)), []⟩, ⟨(some 55), none, (.bin .eql (.t 53) (.t 54)), []⟩]) (.cond (.t 55) (.seq (.reg false [⟨(some 6), none, (.mov (.c (.bool true))), []⟩]) .ret) .skip)) (.seq (.reg false [⟨(some 56), none, (.mov (.t 7)), []⟩, ⟨(some 57), none, (.faddr (.t 12) 1), []⟩, ⟨(some 58), none, (.ld (.t 57) none), []⟩, ⟨(some 59), none, (.bs 1 1 [(.str [])] [(0, (.t 58))]), []⟩, ⟨(some 60), none, (.app 1 16 (.t 56) (.t 59)), []⟩, ⟨(some 7), none, (.mov (.t 60)), []⟩]) (.reg false [⟨(some 61), none, (.mov (.t 8)), []⟩, ⟨(some 62), none, (.faddr (.t 12) 1), []⟩, ⟨(some 63), none, (.ld (.t 62) none), []⟩, ⟨(some 64), none, (.bs 1 1 [(.str [])] [(0, (.t 63))]), []⟩, ⟨(some 65), none, (.app 1 16 (.t 61) (.t 64)), []⟩, ⟨(some 8), none, (.mov (.t 65)), []⟩])))))) (.reg false [⟨(some 36), none, (.mov (.t 11)), []⟩, ⟨(some 37), none, (.bin .add (.t 36) (.c (.int .i64 1))), []⟩, ⟨(some 11), none, (.mov (.t 37)), []⟩])))
def l63_1 : Cmd := (.seq (.seq (.reg false [⟨(some 16), none, (.mov (.t 9)), []⟩, ⟨(some 17), none, (.mov (.t 8)), []⟩, ⟨(some 18), none, (.len false (.t 17)), []⟩, ⟨(some 19), none, (.bin .lss (.t 16) (.t 18)), []⟩]) (.cond (.t 19) .skip (.exit 0))) (.seq (.block 1 (.seq (.reg false [⟨(some 22), none, (.mov (.t 0)), []⟩, ⟨(some 23), none, (.mov (.t 0)), []⟩, ⟨(some 24), none, (.mov (.t 8)), []⟩, ⟨(some 25), none, (.mov (.t 9)), []⟩, ⟨(some 26), none, (.iaddr (.t 24) (.t 25) 1), []⟩, ⟨(some 27), none, (.ld (.t 26) none), []⟩, ⟨(some 28), none, (.call 55 [(.t 23), (.t 27)]), []⟩, ⟨(some 29), none, (.iaddr (.t 22) (.t 28) 2), []⟩, ⟨(some 30), none, (.ld (.t 29) (some 2)), []⟩, ⟨(some 10), none, (.alloc [(.str []), .ns]), []⟩, ⟨none, none, (.st (.t 10) (.t 30) 2), []⟩]) (.seq (.reg false [⟨(some 11), none, (.mov (.c (.int .i64 0))), []⟩]) (.block 2 (.loop l63_0))))) (.reg false [⟨(some 20), none, (.mov (.t 9)), []⟩, ⟨(some 21), none, (.bin .add (.t 20) (.c (.int .i64 1))), []⟩, ⟨(some 9), none, (.mov (.t 21)), []⟩])))
def c63 : Cmd := (.seq (.reg false [⟨(some 6), none, (.mov (.c (.bool false))), []⟩]) (.seq (.reg false [⟨(some 13), none, (.bs 0 1 [(.str [])] []), []⟩, ⟨(some 7), none, (.mov (.t 13)), []⟩]) (.seq (.reg false [⟨(some 14), none, (.mov (.t 1)), []⟩, ⟨(some 15), none, (.bs 1 1 [(.str [])] [(0, (.t 14))]), []⟩, ⟨(some 8), none, (.mov (.t 15)), []⟩]) (.seq (.seq (.reg false [⟨(some 9), none, (.mov (.c (.int .i64 0))), []⟩]) (.block 0 (.loop l63_1))) (.seq (.reg false [⟨(some 6), none, (.mov (.c (.bool false))), []⟩]) .ret)))))
theorem h63 : compF Try.prog sh 63 = some (c63, [6], 66) := by kernel_rfl
def l117_0 : Cmd := (.seq (.seq (.reg false [⟨(some 6), none, (.mov (.t 5)), []⟩, ⟨(some 7), none, (.mov (.t 0)), []⟩, ⟨(some 8), none, (.len false (.t 7)), []⟩, ⟨(some 9), none, (.bin .lss (.t 6) (.t 8)), []⟩]) (.cond (.t 9) .skip (.exit 0))) (.seq (.block 1 (.seq (.reg false [⟨(some 12), none, (.mov (.t 0)), []⟩, ⟨(some 13), none, (.mov (.t 5)), []⟩, ⟨(some 14), none, (.iaddr (.t 12) (.t 13) 1), []⟩, ⟨(some 15), none, (.ld (.t 14) none), []⟩, ⟨(some 16), none, (.mov (.t 1)), []⟩, ⟨(some 17), none, (.bin .eql (.t 15) (.t 16)), []⟩]) (.cond (.t 17) (.seq (.reg false [⟨(some 4), none, (.mov (.c (.bool true))), []⟩]) .ret) .skip))) (.reg false [⟨(some 10), none, (.mov (.t 5)), []⟩, ⟨(some 11), none, (.bin .add (.t 10) (.c (.int .i64 1))), []⟩, ⟨(some 5), none, (.mov (.t 11)), []⟩])))
def c117 : Cmd := (.seq (.reg false [⟨(some 4), none, (.mov (.c (.bool false))), []⟩]) (.seq (.seq (.reg false [⟨(some 5), none, (.mov (.c (.int .i64 0))), []⟩]) (.block 0 (.loop l117_0))) (.seq (.reg false [⟨(some 4), none, (.mov (.c (.bool false))), []⟩]) .ret)))
theorem h117 : compF Try.prog sh 117 = some (c117, [4], 18) := by kernel_rfl
def k21_0 : Cmd := (.block 1 (.seq (.reg false [⟨(some 15), none, (.mov (.t 13)), []⟩, ⟨(some 5), none, (.mov (.t 15)), []⟩]) (.seq (.reg true [⟨(some 16), none, (.mov (.t 0)), []⟩, ⟨(some 17), none, (.mov (.t 5)), []⟩, ⟨(some 18), none, (.iaddr (.t 16) (.t 17) 3), []⟩, ⟨(some 19), none, (.ld (.t 18) (some 3)), []⟩, ⟨(some 20), none, (.mov (.t 1)), []⟩, ⟨(some 21), none, (.mov (.t 5)), []⟩, ⟨(some 22), none, (.iaddr (.t 20) (.t 21) 3), []⟩, ⟨(some 23), none, (.ld (.t 22) (some 3)), []⟩, ⟨(some 24), none, (.seq true [2, 0, 0] (.t 19) (.t 23)), []⟩]) (.cond (.t 24) (.seq (.reg false [⟨(some 4), none, (.mov (.c (.bool false))), []⟩]) .ret) .skip))))
abbrev l21_0 : Cmd := cnt 0 14 13 12 25 k21_0
def c21 : Cmd := (.seq (.reg false [⟨(some 4), none, (.mov (.c (.bool false))), []⟩]) (.seq (.seq (.reg false [⟨(some 6), none, (.mov (.t 0)), []⟩, ⟨(some 7), none, (.len false (.t 6)), []⟩, ⟨(some 8), none, (.mov (.t 1)), []⟩, ⟨(some 9), none, (.len false (.t 8)), []⟩, ⟨(some 10), none, (.bin .neq (.t 7) (.t 9)), []⟩]) (.cond (.t 10) (.seq (.reg false [⟨(some 4), none, (.mov (.c (.bool false))), []⟩]) .ret) .skip)) (.seq (.seq (.reg false [⟨(some 11), none, (.mov (.t 0)), []⟩, ⟨(some 12), none, (.len false (.t 11)), []⟩, ⟨(some 13), none, (.mov (.c (.int .i64 0))), []⟩]) (.block 0 (.loop l21_0))) (.seq (.reg false [⟨(some 4), none, (.mov (.c (.bool true))), []⟩]) .ret))))
theorem h21 : compF Try.prog sh 21 = some (c21, [4], 26) := by kernel_rfl
def k22_0 : Cmd := (.block 1 (.seq (.reg false [⟨(some 23), none, (.mov (.t 21)), []⟩, ⟨(some 24), none, (.iaddr (.t 19) (.t 21) 3), []⟩, ⟨(some 25), none, (.ld (.t 24) (some 3)), []⟩, ⟨(some 7), none, (.alloc [(.str []), (.int .i64 0), (.int .i64 0)]), []⟩, ⟨(some 6), none, (.mov (.t 23)), []⟩, ⟨none, none, (.st (.t 7) (.t 25) 3), []⟩]) (.seq (.reg false [⟨(some 26), none, (.mov (.t 0)), []⟩, ⟨(some 27), none, (.faddr (.t 7) 0), []⟩, ⟨(some 28), none, (.ld (.t 27) none), []⟩, ⟨(some 29), none, (.call 54 [(.t 26), (.t 28)]), []⟩, ⟨(some 8), none, (.mov (.t 29)), []⟩]) (.seq (.seq (.reg false [⟨(some 30), none, (.mov (.t 8)), []⟩, ⟨(some 31), none, (.bin .lss (.t 30) (.c (.int .i64 0))), []⟩]) (.cond (.t 31) (.seq (.reg false [⟨(some 4), none, (.mov (.c (.int .i64 9))), []⟩]) .ret) .skip)) (.seq (.reg false [⟨(some 32), none, (.mov (.t 0)), []⟩, ⟨(some 33), none, (.mov (.t 8)), []⟩, ⟨(some 34), none, (.iaddr (.t 32) (.t 33) 2), []⟩, ⟨(some 35), none, (.faddr (.t 34) 1), []⟩, ⟨(some 36), none, (.ld (.t 35) none), []⟩, ⟨(some 9), none, (.mov (.t 36)), []⟩]) (.seq (.seq (.reg false [⟨(some 37), none, (.faddr (.t 7) 1), []⟩, ⟨(some 38), none, (.ld (.t 37) none), []⟩, ⟨(some 39), none, (.mov (.t 9)), []⟩, ⟨(some 40), none, (.len false (.t 39)), []⟩, ⟨(some 41), none, (.call 64 [(.t 38), (.c (.int .i64 0)), (.t 40)]), []⟩, ⟨(some 42), none, (.un .not (.t 41)), []⟩, ⟨(some 43), none, (.mov (.t 42)), []⟩, ⟨(some 44), (some (43, false)), (.faddr (.t 7) 2), []⟩, ⟨(some 45), (some (43, false)), (.ld (.t 44) none), []⟩, ⟨(some 46), (some (43, false)), (.call 64 [(.t 45), (.c (.int .i64 (-1))), (.c (.int .i64 1001000000000))]), []⟩, ⟨(some 47), (some (43, false)), (.un .not (.t 46)), []⟩, ⟨(some 48), none, (.pick (.t 43) (.c (.bool true)) (.t 47)), []⟩]) (.cond (.t 48) (.seq (.reg false [⟨(some 4), none, (.mov (.c (.int .i64 1))), []⟩]) .ret) .skip)) (.seq (.reg false [⟨(some 49), none, (.mov (.t 6)), []⟩, ⟨(some 50), none, (.mov (.t 1)), []⟩, ⟨(some 51), none, (.len false (.t 50)), []⟩, ⟨(some 52), none, (.bin .sub (.t 51) (.c (.int .i64 1))), []⟩, ⟨(some 53), none, (.bin .eql (.t 49) (.t 52)), []⟩, ⟨(some 10), none, (.mov (.t 53)), []⟩]) (.seq (.seq (.reg false [⟨(some 54), none, (.faddr (.t 7) 2), []⟩, ⟨(some 55), none, (.ld (.t 54) none), []⟩, ⟨(some 56), none, (.bin .geq (.t 55) (.c (.int .i64 0))), []⟩, ⟨(some 57), none, (.mov (.t 56)), []⟩, ⟨(some 58), (some (57, true)), (.mov (.t 10)), []⟩, ⟨(some 59), (some (57, true)), (.un .not (.t 58)), []⟩, ⟨(some 60), (some (57, true)), (.mov (.t 59)), []⟩, ⟨(some 61), (some (60, false)), (.faddr (.t 7) 1), []⟩, ⟨(some 62), (some (60, false)), (.ld (.t 61) none), []⟩, ⟨(some 63), (some (60, false)), (.mov (.t 9)), []⟩, ⟨(some 64), (some (60, false)), (.len false (.t 63)), []⟩, ⟨(some 65), (some (60, false)), (.bin .eql (.t 62) (.t 64)), []⟩, ⟨(some 66), (some (57, true)), (.pick (.t 60) (.c (.bool true)) (.t 65)), []⟩, ⟨(some 67), (some (57, true)), (.mov (.t 66)), []⟩, ⟨(some 68), (some (67, false)), (.mov (.t 9)), []⟩, ⟨(some 69), (some (67, false)), (.faddr (.t 7) 1), []⟩, ⟨(some 70), (some (67, false)), (.ld (.t 69) none), []⟩, ⟨(some 71), (some (67, false)), (.iaddr (.t 68) (.t 70) 5), []⟩, ⟨(some 72), (some (67, false)), (.faddr (.t 71) 0), []⟩, ⟨(some 73), (some (67, false)), (.ld (.t 72) none), []⟩, ⟨(some 74), (some (67, false)), (.bin .neq (.t 73) (.c (.int .i64 2))), []⟩, ⟨(some 75), (some (67, false)), (.mov (.t 74)), []⟩, ⟨(some 76), (some (75, true)), (.mov (.t 9)), []⟩, ⟨(some 77), (some (75, true)), (.faddr (.t 7) 1), []⟩, ⟨(some 78), (some (75, true)), (.ld (.t 77) none), []⟩, ⟨(some 79), (some (75, true)), (.iaddr (.t 76) (.t 78) 5), []⟩, ⟨(some 80), (some (75, true)), (.faddr (.t 79) 0), []⟩, ⟨(some 81), (some (75, true)), (.ld (.t 80) none), []⟩, ⟨(some 82), (some (75, true)), (.bin .neq (.t 81) (.c (.int .i64 3))), []⟩, ⟨(some 83), (some (67, false)), (.pick (.t 75) (.t 82) (.c (.bool false))), []⟩, ⟨(some 84), (some (57, true)), (.pick (.t 67) (.c (.bool true)) (.t 83)), []⟩, ⟨(some 85), none, (.pick (.t 57) (.t 84) (.c (.bool false))), []⟩]) (.cond (.t 85) (.seq (.reg false [⟨(some 4), none, (.mov (.c (.int .i64 11))), []⟩]) .ret) .skip)) (.seq (.reg true [⟨(some 86), none, (.mov (.t 10)), []⟩, ⟨(some 87), none, (.un .not (.t 86)), []⟩, ⟨(some 88), none, (.mov (.t 87)), []⟩, ⟨(some 89), (some (88, true)), (.faddr (.t 7) 1), []⟩, ⟨(some 90), (some (88, true)), (.ld (.t 89) none), []⟩, ⟨(some 91), (some (88, true)), (.bin .eql (.t 90) (.c (.int .i64 0))), []⟩, ⟨(some 92), (some (88, true)), (.mov (.t 91)), []⟩, ⟨(some 93), (some (92, false)), (.mov (.t 9)), []⟩, ⟨(some 94), (some (92, false)), (.faddr (.t 7) 1), []⟩, ⟨(some 95), (some (92, false)), (.ld (.t 94) none), []⟩, ⟨(some 96), (some (92, false)), (.bin .sub (.t 95) (.c (.int .i64 1))), []⟩, ⟨(some 97), (some (92, false)), (.iaddr (.t 93) (.t 96) 5), []⟩, ⟨(some 98), (some (92, false)), (.faddr (.t 97) 0), []⟩, ⟨(some 99), (some (92, false)), (.ld (.t 98) none), []⟩, ⟨(some 100), (some (92, false)), (.bin .neq (.t 99) (.c (.int .i64 6))), []⟩, ⟨(some 101), (some (88, true)), (.pick (.t 92) (.c (.bool true)) (.t 100)), []⟩, ⟨(some 102), (some (88, true)), (.mov (.t 101)), []⟩, ⟨(some 103), (some (102, false)), (.mov (.t 9)), []⟩, ⟨(some 104), (some (102, false)), (.faddr (.t 7) 1), []⟩, ⟨(some 105), (some (102, false)), (.ld (.t 104) none), []⟩, ⟨(some 106), (some (102, false)), (.bin .sub (.t 105) (.c (.int .i64 1))), []⟩, ⟨(some 107), (some (102, false)), (.iaddr (.t 103) (.t 106) 5), []⟩, ⟨(some 108), (some (102, false)), (.faddr (.t 107) 1), []⟩, ⟨(some 109), (some (102, false)), (.ld (.t 108) none), []⟩, ⟨(some 110), (some (102, false)), (.mov (.t 1)), []⟩, ⟨(some 111), (some (102, false)), (.mov (.t 6)), []⟩, ⟨(some 112), (some (102, false)), (.bin .add (.t 111) (.c (.int .i64 1))), []⟩, ⟨(some 113), (some (102, false)), (.iaddr (.t 110) (.t 112) 3), []⟩, ⟨(some 114), (some (102, false)), (.faddr (.t 113) 0), []⟩, ⟨(some 115), (some (102, false)), (.ld (.t 114) none), []⟩, ⟨(some 116), (some (102, false)), (.bin .neq (.t 109) (.t 115)), []⟩, ⟨(some 117), (some (88, true)), (.pick (.t 102) (.c (.bool true)) (.t 116)), []⟩, ⟨(some 118), none, (.pick (.t 88) (.t 117) (.c (.bool false))), []⟩]) (.cond (.t 118) (.seq (.reg false [⟨(some 4), none, (.mov (.c (.int .i64 11))), []⟩]) .ret) .skip))))))))))
abbrev l22_0 : Cmd := cnt 0 22 21 20 119 k22_0
def c22 : Cmd := (.seq (.reg false [⟨(some 4), none, (.mov (.c (.int .i64 0))), []⟩]) (.seq (.seq (.reg false [⟨(some 11), none, (.mov (.t 0)), []⟩, ⟨(some 12), none, (.call 19 [(.t 11)]), []⟩, ⟨(some 5), none, (.mov (.t 12)), []⟩]) (.seq (.reg false [⟨(some 13), none, (.mov (.t 5)), []⟩, ⟨(some 14), none, (.bin .neq (.t 13) (.c (.int .i64 0))), []⟩]) (.cond (.t 14) (.seq (.reg false [⟨(some 15), none, (.mov (.t 5)), []⟩, ⟨(some 4), none, (.mov (.t 15)), []⟩]) .ret) .skip))) (.seq (.seq (.reg false [⟨(some 16), none, (.mov (.t 1)), []⟩, ⟨(some 17), none, (.len false (.t 16)), []⟩, ⟨(some 18), none, (.bin .gtr (.t 17) (.c (.int .i64 50))), []⟩]) (.cond (.t 18) (.seq (.reg false [⟨(some 4), none, (.mov (.c (.int .i64 2))), []⟩]) .ret) .skip)) (.seq (.seq (.reg false [⟨(some 19), none, (.mov (.t 1)), []⟩, ⟨(some 20), none, (.len false (.t 19)), []⟩, ⟨(some 21), none, (.mov (.c (.int .i64 0))), []⟩]) (.block 0 (.loop l22_0))) (.seq (.reg false [⟨(some 4), none, (.mov (.c (.int .i64 0))), []⟩]) .ret)))))
theorem h22 : compF Try.prog sh 22 = some (c22, [4], 120) := by kernel_rfl
def l23_0 : Cmd := (.seq (.seq (.reg false [⟨(some 19), none, (.mov (.t 6)), []⟩, ⟨(some 20), none, (.mov (.t 1)), []⟩, ⟨(some 21), none, (.len false (.t 20)), []⟩, ⟨(some 22), none, (.bin .lss (.t 19) (.t 21)), []⟩]) (.cond (.t 22) .skip (.exit 0))) (.seq (.block 1 (.seq (.reg false [⟨(some 25), none, (.mov (.t 0)), []⟩, ⟨(some 26), none, (.mov (.t 1)), []⟩, ⟨(some 27), none, (.mov (.t 6)), []⟩, ⟨(some 28), none, (.iaddr (.t 26) (.t 27) 3), []⟩, ⟨(some 29), none, (.faddr (.t 28) 0), []⟩, ⟨(some 30), none, (.ld (.t 29) none), []⟩, ⟨(some 31), none, (.call 55 [(.t 25), (.t 30)]), []⟩, ⟨(some 7), none, (.mov (.t 31)), []⟩]) (.seq (.seq (.reg false [⟨(some 32), none, (.mov (.t 7)), []⟩, ⟨(some 33), none, (.bin .lss (.t 32) (.c (.int .i64 0))), []⟩]) (.cond (.t 33) (.seq (.reg false [⟨(some 4), none, (.mov (.c (.int .i64 9))), []⟩]) .ret) .skip)) (.seq (.reg false [⟨(some 34), none, (.mov (.t 0)), []⟩, ⟨(some 35), none, (.mov (.t 7)), []⟩, ⟨(some 36), none, (.iaddr (.t 34) (.t 35) 2), []⟩, ⟨(some 37), none, (.faddr (.t 36) 1), []⟩, ⟨(some 38), none, (.ld (.t 37) none), []⟩, ⟨(some 8), none, (.mov (.t 38)), []⟩]) (.seq (.seq (.reg false [⟨(some 39), none, (.mov (.t 1)), []⟩, ⟨(some 40), none, (.mov (.t 6)), []⟩, ⟨(some 41), none, (.iaddr (.t 39) (.t 40) 3), []⟩, ⟨(some 42), none, (.faddr (.t 41) 1), []⟩, ⟨(some 43), none, (.ld (.t 42) none), []⟩, ⟨(some 44), none, (.mov (.t 8)), []⟩, ⟨(some 45), none, (.len false (.t 44)), []⟩, ⟨(some 46), none, (.call 65 [(.t 43), (.c (.int .i64 0)), (.t 45)]), []⟩, ⟨(some 47), none, (.un .not (.t 46)), []⟩, ⟨(some 48), none, (.mov (.t 47)), []⟩, ⟨(some 49), (some (48, false)), (.mov (.t 1)), []⟩, ⟨(some 50), (some (48, false)), (.mov (.t 6)), []⟩, ⟨(some 51), (some (48, false)), (.iaddr (.t 49) (.t 50) 3), []⟩, ⟨(some 52), (some (48, false)), (.faddr (.t 51) 2), []⟩, ⟨(some 53), (some (48, false)), (.ld (.t 52) none), []⟩, ⟨(some 54), (some (48, false)), (.call 65 [(.t 53), (.c (.int .i64 (-1))), (.c (.int .i64 1001000000000))]), []⟩, ⟨(some 55), (some (48, false)), (.un .not (.t 54)), []⟩, ⟨(some 56), none, (.pick (.t 48) (.c (.bool true)) (.t 55)), []⟩]) (.cond (.t 56) (.seq (.reg false [⟨(some 4), none, (.mov (.c (.int .i64 1))), []⟩]) .ret) .skip)) (.seq (.reg false [⟨(some 57), none, (.mov (.t 6)), []⟩, ⟨(some 58), none, (.mov (.t 1)), []⟩, ⟨(some 59), none, (.len false (.t 58)), []⟩, ⟨(some 60), none, (.bin .sub (.t 59) (.c (.int .i64 1))), []⟩, ⟨(some 61), none, (.bin .eql (.t 57) (.t 60)), []⟩, ⟨(some 9), none, (.mov (.t 61)), []⟩]) (.seq (.reg false [⟨(some 62), none, (.mov (.t 1)), []⟩, ⟨(some 63), none, (.mov (.t 6)), []⟩, ⟨(some 64), none, (.iaddr (.t 62) (.t 63) 3), []⟩, ⟨(some 65), none, (.faddr (.t 64) 1), []⟩, ⟨(some 66), none, (.ld (.t 65) none), []⟩, ⟨(some 67), none, (.mov (.t 8)), []⟩, ⟨(some 68), none, (.len false (.t 67)), []⟩, ⟨(some 69), none, (.bin .lss (.t 66) (.t 68)), []⟩, ⟨(some 70), none, (.mov (.t 69)), []⟩, ⟨(some 71), (some (70, true)), (.mov (.t 8)), []⟩, ⟨(some 72), (some (70, true)), (.mov (.t 1)), []⟩, ⟨(some 73), (some (70, true)), (.mov (.t 6)), []⟩, ⟨(some 74), (some (70, true)), (.iaddr (.t 72) (.t 73) 3), []⟩, ⟨(some 75), (some (70, true)), (.faddr (.t 74) 1), []⟩, ⟨(some 76), (some (70, true)), (.ld (.t 75) none), []⟩, ⟨(some 77), (some (70, true)), (.iaddr (.t 71) (.t 76) 5), []⟩, ⟨(some 78), (some (70, true)), (.faddr (.t 77) 0), []⟩, ⟨(some 79), (some (70, true)), (.ld (.t 78) none), []⟩, ⟨(some 80), (some (70, true)), (.bin .eql (.t 79) (.c (.int .i64 2))), []⟩, ⟨(some 81), (some (70, true)), (.mov (.t 80)), []⟩, ⟨(some 82), (some (81, false)), (.mov (.t 8)), []⟩, ⟨(some 83), (some (81, false)), (.mov (.t 1)), []⟩, ⟨(some 84), (some (81, false)), (.mov (.t 6)), []⟩, ⟨(some 85), (some (81, false)), (.iaddr (.t 83) (.t 84) 3), []⟩, ⟨(some 86), (some (81, false)), (.faddr (.t 85) 1), []⟩, ⟨(some 87), (some (81, false)), (.ld (.t 86) none), []⟩, ⟨(some 88), (some (81, false)), (.iaddr (.t 82) (.t 87) 5), []⟩, ⟨(some 89), (some (81, false)), (.faddr (.t 88) 0), []⟩, ⟨(some 90), (some (81, false)), (.ld (.t 89) none), []⟩, ⟨(some 91), (some (81, false)), (.bin .eql (.t 90) (.c (.int .i64 3))), []⟩, ⟨(some 92), (some (70, true)), (.pick (.t 81) (.c (.bool true)) (.t 91)), []⟩, ⟨(some 93), none, (.pick (.t 70) (.t 92) (.c (.bool false))), []⟩, ⟨(some 10), none, (.mov (.t 93)), []⟩]) (.seq (.seq (.reg false [⟨(some 94), none, (.mov (.t 1)), []⟩, ⟨(some 95), none, (.mov (.t 6)), []⟩, ⟨(some 96), none, (.iaddr (.t 94) (.t 95) 3), []⟩, ⟨(some 97), none, (.faddr (.t 96) 2), []⟩, ⟨(some 98), none, (.ld (.t 97) none), []⟩, ⟨(some 99), none, (.bin .neq (.t 98) (.c (.int .i64 (-1)))), []⟩, ⟨(some 100), none, (.mov (.t 99)), []⟩, ⟨(some 101), (some (100, true)), (.mov (.t 9)), []⟩, ⟨(some 102), (some (100, true)), (.mov (.t 101)), []⟩, ⟨(some 103), (some (102, true)), (.mov (.t 10)), []⟩, ⟨(some 104), (some (100, true)), (.pick (.t 102) (.t 103) (.c (.bool false))), []⟩, ⟨(some 105), (some (100, true)), (.un .not (.t 104)), []⟩, ⟨(some 106), none, (.pick (.t 100) (.t 105) (.c (.bool false))), []⟩]) (.cond (.t 106) (.seq (.reg false [⟨(some 4), none, (.mov (.c (.int .i64 11))), []⟩]) .ret) .skip)) (.seq (.reg true [⟨(some 107), none, (.mov (.t 9)), []⟩, ⟨(some 108), none, (.un .not (.t 107)), []⟩, ⟨(some 109), none, (.mov (.t 108)), []⟩, ⟨(some 110), (some (109, true)), (.mov (.t 1)), []⟩, ⟨(some 111), (some (109, true)), (.mov (.t 6)), []⟩, ⟨(some 112), (some (109, true)), (.iaddr (.t 110) (.t 111) 3), []⟩, ⟨(some 113), (some (109, true)), (.faddr (.t 112) 1), []⟩, ⟨(some 114), (some (109, true)), (.ld (.t 113) none), []⟩, ⟨(some 115), (some (109, true)), (.bin .eql (.t 114) (.c (.int .i64 0))), []⟩, ⟨(some 116), (some (109, true)), (.mov (.t 115)), []⟩, ⟨(some 117), (some (116, false)), (.mov (.t 8)), []⟩, ⟨(some 118), (some (116, false)), (.mov (.t 1)), []⟩, ⟨(some 119), (some (116, false)), (.mov (.t 6)), []⟩, ⟨(some 120), (some (116, false)), (.iaddr (.t 118) (.t 119) 3), []⟩, ⟨(some 121), (some (116, false)), (.faddr (.t 120) 1), []⟩, ⟨(some 122), (some (116, false)), (.ld (.t 121) none), []⟩, ⟨(some 123), (some (116, false)), (.bin .sub (.t 122) (.c (.int .i64 1))), []⟩, ⟨(some 124), (some (116, false)), (.iaddr (.t 117) (.t 123) 5), []⟩, ⟨(some 125), (some (116, false)), (.faddr (.t 124) 0), []⟩, ⟨(some 126), (some (116, false)), (.ld (.t 125) none), []⟩, ⟨(some 127), (some (116, false)), (.bin .neq (.t 126) (.c (.int .i64 6))), []⟩, ⟨(some 128), (some (109, true)), (.pick (.t 116) (.c (.bool true)) (.t 127)), []⟩, ⟨(some 129), (some (109, true)), (.mov (.t 128)), []⟩, ⟨(some 130), (some (129, false)), (.mov (.t 8)), []⟩, ⟨(some 131), (some (129, false)), (.mov (.t 1)), []⟩, ⟨(some 132), (some (129, false)), (.mov (.t 6)), []⟩, ⟨(some 133), (some (129, false)), (.iaddr (.t 131) (.t 132) 3), []⟩, ⟨(some 134), (some (129, false)), (.faddr (.t 133) 1), []⟩, ⟨(some 135), (some (129, false)), (.ld (.t 134) none), []⟩, ⟨(some 136), (some (129, false)), (.bin .sub (.t 135) (.c (.int .i64 1))), []⟩, ⟨(some 137), (some (129, false)), (.iaddr (.t 130) (.t 136) 5), []⟩, ⟨(some 138), (some (129, false)), (.faddr (.t 137) 1), []⟩, ⟨(some 139), (some (129, false)), (.ld (.t 138) none), []⟩, ⟨(some 140), (some (129, false)), (.mov (.t 1)), []⟩, ⟨(some 141), (some (129, false)), (.mov (.t 6)), []⟩, ⟨(some 142), (some (129, false)), (.bin .add (.t 141) (.c (.int .i64 1))), []⟩, ⟨(some 143), (some (129, false)), (.iaddr (.t 140) (.t 142) 3), []⟩, ⟨(some 144), (some (129, false)), (.faddr (.t 143) 0), []⟩, ⟨(some 145), (some (129, false)), (.ld (.t 144) none), []⟩, ⟨(some 146), (some (129, false)), (.bin .neq (.t 139) (.t 145)), []⟩, ⟨(some 147), (some (109, true)), (.pick (.t 129) (.c (.bool true)) (.t 146)), []⟩, ⟨(some 148), none, (.pick (.t 109) (.t 147) (.c (.bool false))), []⟩]) (.cond (.t 148) (.seq (.reg false [⟨(some 4), none, (.mov (.c (.int .i64 11))), []⟩]) .ret) .skip)))))))))) (.reg false [⟨(some 23), none, (.mov (.t 6)), []⟩, ⟨(some 24), none, (.bin .add (.t 23) (.c (.int .i64 1))), []⟩, ⟨(some 6), none, (.mov (.t 24)), []⟩])))
def c23 : Cmd := (.seq (.reg false [⟨(some 4), none, (.mov (.c (.int .i64 0))), []⟩]) (.seq (.seq (.reg false [⟨(some 11), none, (.mov (.t 0)), []⟩, ⟨(some 12), none, (.call 20 [(.t 11)]), []⟩, ⟨(some 5), none, (.mov (.t 12)), []⟩]) (.seq (.reg false [⟨(some 13), none, (.mov (.t 5)), []⟩, ⟨(some 14), none, (.bin .neq (.t 13) (.c (.int .i64 0))), []⟩]) (.cond (.t 14) (.seq (.reg false [⟨(some 15), none, (.mov (.t 5)), []⟩, ⟨(some 4), none, (.mov (.t 15)), []⟩]) .ret) .skip))) (.seq (.seq (.reg false [⟨(some 16), none, (.mov (.t 1)), []⟩, ⟨(some 17), none, (.len false (.t 16)), []⟩, ⟨(some 18), none, (.bin .gtr (.t 17) (.c (.int .i64 50))), []⟩]) (.cond (.t 18) (.seq (.reg false [⟨(some 4), none, (.mov (.c (.int .i64 2))), []⟩]) .ret) .skip)) (.seq (.seq (.reg false [⟨(some 6), none, (.mov (.c (.int .i64 0))), []⟩]) (.block 0 (.loop l23_0))) (.seq (.reg false [⟨(some 4), none, (.mov (.c (.int .i64 0))), []⟩]) .ret)))))
theorem h23 : compF Try.prog sh 23 = some (c23, [4], 149) := by kernel_rfl
end Go.Proofs.P6
end
section
set_option linter.unusedVariables false
set_option linter.unusedSimpArgs false
set_option maxRecDepth 10000
set_option maxHeartbeats 4000000
namespace Go.Proofs.P6
open Go.Ex
/-- Kind, Text, Label, N, Not. -/
abbrev Step := Int × List UInt8 × List UInt8 × Int × Bool
abbrev Prc := List UInt8 × List Step
def stepCd : Cd Step := .pair (.int .i64) (.pair .str (.pair .str (.pair (.int .i64) .bool)))
def procCd : Cd Prc := .pair .str (.slice stepCd)
def stepV (x : Step) : List V := [.int .i64 x.1, .str x.2.1, .str x.2.2.1, .int .i64 x.2.2.2.1, .bool x.2.2.2.2]
theorem step_cells (x : Step) : stepCd.cells x = stepV x := rfl
section
variable {h : Hp} {k : Nat} {kk : IntKind} {K : V → List Nat → Prop}
theorem step_ia {l : List Step} {a : Step} (e : l[k]? = some a) : iaddrK h (.ro l.length (fl stepCd l)) (.int kk k) 5 K ⟨⟩ = K (.rp (fl stepCd l) (k * 5)) [] := iaddr_fl rfl (by decide) e
theorem step_ld {l : List Step} {a : Step} (e : l[k]? = some a) : ldA h (.rp (fl stepCd l) (k * 5)) (some 5) = some (.agg (stepV a)) := ld_fls (n := 5) rfl e
theorem step_l0 {l : List Step} {a : Step} (e : l[k]? = some a) : ldA h (.rp (fl stepCd l) (k * 5)) none = some (.int .i64 a.1) := ld_fl0 (n := 5) rfl (by decide) e
theorem step_l1 {l : List Step} {a : Step} (e : l[k]? = some a) : ldA h (.rp (fl stepCd l) (k * 5 + 1)) none = some (.str a.2.1) := ld_fl (n := 5) rfl (by decide) e
theorem step_l2 {l : List Step} {a : Step} (e : l[k]? = some a) : ldA h (.rp (fl stepCd l) (k * 5 + 2)) none = some (.str a.2.2.1) := ld_fl (n := 5) rfl (by decide) e
theorem proc_ia {l : List Prc} {a : Prc} (e : l[k]? = some a) : iaddrK h (.ro l.length (fl procCd l)) (.int kk k) 2 K ⟨⟩ = K (.rp (fl procCd l) (k * 2)) [] := iaddr_fl rfl (by decide) e
theorem proc_ld {l : List Prc} {a : Prc} (e : l[k]? = some a) : ldA h (.rp (fl procCd l) (k * 2)) (some 2) = some (.agg [.str a.1, .ro a.2.length (fl stepCd a.2)]) := ld_fls (n := 2) rfl e
theorem proc_l0 {l : List Prc} {a : Prc} (e : l[k]? = some a) : ldA h (.rp (fl procCd l) (k * 2)) none = some (.str a.1) := ld_fl0 (n := 2) rfl (by decide) e
theorem proc_l1 {l : List Prc} {a : Prc} (e : l[k]? = some a) : ldA h (.rp (fl procCd l) (k * 2 + 1)) none = some (.ro a.2.length (fl stepCd a.2)) := ld_fl (n := 2) rfl (by decide) e
end
def goB (k : Int) : Bool := decide (k = 3) || decide (k = 4) || decide (k = 5)
theorem goesTo_ok (x : Step) : OkF Try.prog 57 [.agg (stepV x)] (.bool (goB x.1), []) := by
  refine OkF.W0 hm h57 (of_decide_eq_true rfl) ?_
  unfold c57
  simp -dsimp [stepV]
  repeat' (first
    | (refine condK_of ?_ ?_ <;> intro q <;> simp -dsimp [q])
    | (refine wantT_of ?_ ?_ <;> intro q <;> simp -dsimp [q])
    | (refine wantF_of ?_ ?_ <;> intro q <;> simp -dsimp [q]))
  all_goals simp_all [goB]
theorem labelled_ok (x : Step) : OkF Try.prog 157 [.agg (stepV x)] (.bool (goB x.1 || decide (x.1 = 8)), []) := by
  refine OkF.W0 hm h157 (of_decide_eq_true rfl) ?_
  unfold c157
  simp -dsimp [stepV]
  refine call_bool (goesTo_ok x) ?_
  simp -dsimp
  repeat' (first
    | (refine condK_of ?_ ?_ <;> intro q <;> simp -dsimp [q])
    | (refine wantT_of ?_ ?_ <;> intro q <;> simp -dsimp [q])
    | (refine wantF_of ?_ ?_ <;> intro q <;> simp -dsimp [q]))
  all_goals simp_all
/-- A label. -/
def isLab (s : List UInt8) (x : Step) : Bool := decide (x.1 = 8) && decide (x.2.2.1 = s)
theorem isLab_ok (s : List UInt8) (x : Step) {h : Hp} {nx b : Nat} (hb : b < nx) (hh : h b = some ⟨0, 0, [.str s], none⟩) : SEx Try.prog 114 [.agg (stepV x), .pt b 0 0] h nx (Quiet (.bool (isLab s x)) h nx) := by
  have hne : b ≠ nx := by omega
  refine SEx.of hm h114 (of_decide_eq_true rfl) ?_
  unfold c114
  simp -dsimp [stepV]
  repeat' (first
    | (refine condK_of ?_ ?_ <;> intro q <;> simp -dsimp [q, hne, hh])
    | (refine wantT_of ?_ ?_ <;> intro q <;> simp -dsimp [q, hne, hh])
    | (refine wantF_of ?_ ?_ <;> intro q <;> simp -dsimp [q, hne, hh]))
  all_goals
    refine ⟨by simp_all [isLab], by simp, fun j hj => ?_⟩
    have : j ≠ nx := by omega
    simp [this]
theorem labelAt_ok (l : List Step) (s : List UInt8) (hl : l.length < 2 ^ 62) : OkF Try.prog 58 [.ro l.length (fl stepCd l), .str s] (.int .i64 (ixI (isLab s) l), []) := by
  refine OkF.W0 hm h58 (of_decide_eq_true rfl) ?_
  unfold c58
  simp -dsimp
  refine shr_ex (indexFunc_ok (d := stepCd) hm h113 rfl (by decide) l hl (isLab s) (by kernel_rfl) fun a ha h' nx' h1 h2 => isLab_ok s a (by omega) (by rw [h2 0 (by omega)]; simp)) ?_
  rintro v h' nx' ⟨rfl, q1, q2⟩
  simp -dsimp
theorem isProc_ok (s : List UInt8) (x : Prc) {h : Hp} {nx b : Nat} (hb : b < nx) (hh : h b = some ⟨0, 0, [.str s], none⟩) : SEx Try.prog 111 [.agg (procCd.cells x), .pt b 0 0] h nx (Quiet (.bool (decide (x.1 = s))) h nx) := by
  have hne : b ≠ nx := by omega
  have e : procCd.cells x = [.str x.1, .ro x.2.length (fl stepCd x.2)] := rfl
  rw [e]
  refine SEx.of hm h111 (of_decide_eq_true rfl) ?_
  unfold c111
  simp -dsimp [hne, hh]
  refine ⟨rfl, by simp, fun j hj => ?_⟩
  have : j ≠ nx := by omega
  simp [this]
/-- The place of a procedure. -/
def prI (l : List Prc) (s : List UInt8) : Int := ixI (fun x => decide (x.1 = s)) l
theorem procAt_ok (l : List Prc) (s : List UInt8) (hl : l.length < 2 ^ 62) : OkF Try.prog 54 [.ro l.length (fl procCd l), .str s] (.int .i64 (prI l s), []) := by
  refine OkF.W0 hm h54 (of_decide_eq_true rfl) ?_
  unfold c54
  simp -dsimp
  refine shr_ex (indexFunc_ok (d := procCd) hm h110 rfl (by decide) l hl (fun x => decide (x.1 = s)) (by kernel_rfl) fun a ha h' nx' h1 h2 => isProc_ok s a (by omega) (by rw [h2 0 (by omega)]; simp)) ?_
  rintro v h' nx' ⟨rfl, q1, q2⟩
  simp -dsimp [prI]
theorem procOf_ok (l : List Prc) (s : List UInt8) (hl : l.length < 2 ^ 62) : OkF Try.prog 55 [.ro l.length (fl procCd l), .str s] (.int .i64 (prI l s), []) := by
  have e62 := Go.Ex.e62
  refine OkF.W0 hm h55 (of_decide_eq_true rfl) ?_
  unfold c55
  simp -dsimp
  refine loop_to 5 l.length (fun k t => t.t 5 = .int .i64 k ∧ t.t 0 = .ro l.length (fl procCd l) ∧ t.t 1 = .str s ∧ Not' (fun x => decide (x.1 = s)) l k) (fun k t h => h.1) (by simp -dsimp [Not'.zero]) (fun k t hk hI => ?_)
  obtain ⟨i5, i0, i1, iu⟩ := hI
  unfold l55_0
  by_cases hlt : k < l.length
  · have hlt' : (k : Int) < (l.length : Int) := by omega
    have hw : IntKind.i64.wrap ((k : Int) + 1) = (k : Int) + 1 := IntWalk.i64_in _ (by omega)
    have hg : l[k]? = some l[k] := List.getElem?_eq_getElem hlt
    generalize l[k] = x at hg
    simp -dsimp [i5, i1, i0, hlt', proc_ia hg, proc_l0 hg]
    refine condK_of ?_ ?_ <;> intro q <;> simp -dsimp [q, i5, i1, i0, hw, hlt]
    · simp [prI, ixI_stop iu hg q]
    · exact iu.succ hg q
  · have hkl : k = l.length := by omega
    subst hkl
    simp -dsimp [i5, i0, prI, ixI_none iu]
theorem labelOf_ok (n : List UInt8) (l : List Step) (s : List UInt8) (hl : l.length < 2 ^ 62) : OkF Try.prog 62 [.agg [.str n, .ro l.length (fl stepCd l)], .str s] (.int .i64 (ixI (isLab s) l), []) := by
  have e62 := Go.Ex.e62
  refine OkF.W0 hm h62 (of_decide_eq_true rfl) ?_
  unfold c62
  simp -dsimp
  refine loop_to 5 l.length (fun k t => t.t 5 = .int .i64 k ∧ t.t 2 = .pt 0 0 0 ∧ t.h 0 = some ⟨0, 0, [.str n, .ro l.length (fl stepCd l)], none⟩ ∧ t.t 1 = .str s ∧ Not' (isLab s) l k) (fun k t h => h.1) (by simp -dsimp [Not'.zero]) (fun k t hk hI => ?_)
  obtain ⟨i5, i2, ih, i1, iu⟩ := hI
  unfold l62_0
  by_cases hlt : k < l.length
  · have hlt' : (k : Int) < (l.length : Int) := by omega
    have hw : IntKind.i64.wrap ((k : Int) + 1) = (k : Int) + 1 := IntWalk.i64_in _ (by omega)
    have hg : l[k]? = some l[k] := List.getElem?_eq_getElem hlt
    generalize l[k] = x at hg
    simp -dsimp [i5, i1, i2, ih, hlt', step_ia hg, step_l0 hg]
    repeat' (first
      | (refine condK_of ?_ ?_ <;> intro q <;> simp -dsimp [q, i5, i1, i2, ih, hw, hlt, step_ia hg, step_l0 hg, step_l2 hg])
      | (refine wantT_of ?_ ?_ <;> intro q <;> simp -dsimp [q, i5, i1, i2, ih, hw, hlt, step_ia hg, step_l0 hg, step_l2 hg])
      | (refine wantF_of ?_ ?_ <;> intro q <;> simp -dsimp [q, i5, i1, i2, ih, hw, hlt, step_ia hg, step_l0 hg, step_l2 hg]))
    all_goals first
      | (have hp : isLab s x = true := by simp_all [isLab]
         simp [ixI_stop iu hg hp]; done)
      | (have hp : isLab s x = false := by simp_all [isLab]
         exact iu.succ hg hp)
  · have hkl : k = l.length := by omega
    subst hkl
    simp -dsimp [i5, i2, ih, ixI_none iu]
end Go.Proofs.P6
end
section
set_option linter.unusedVariables false
set_option linter.unusedSimpArgs false
set_option maxRecDepth 10000
set_option maxHeartbeats 8000000
namespace Go.Proofs.P6
open Go.Ex
def txB (k : Int) : Bool := decide (k = 1) || decide (k = 6) || decide (k = 3) || decide (k = 4)
def nB (k : Int) : Bool := decide (k = 2) || decide (k = 3)
def laB (k : Int) : Bool := decide (k = 3) || decide (k = 4) || decide (k = 5) || decide (k = 8)
def formB (x : Step) : Bool := (txB x.1 || decide (x.2.1 = [])) && (nB x.1 || decide (x.2.2.2.1 = 0)) && (laB x.1 || decide (x.2.2.1 = [])) && (!x.2.2.2.2 || decide (x.1 = 4))
def stepE (x : Step) : Int := if !inB x.1 1 8 then 4 else if !formB x || decide (x.1 = 1) && !cmd x.2.1 then 3 else if txB x.1 && !decide (x.1 = 1) && !nm x.2.1 then 5 else if nB x.1 && !inB x.2.2.2.1 1 1000000000 then 1 else if laB x.1 && !nm x.2.2.1 then 5 else 0
def stepOk (x : Step) : Prop := x.2.1.length < 2 ^ 62 ∧ x.2.2.1.length < 2 ^ 62
theorem kinds8 (k : Int) : k = 1 ∨ k = 2 ∨ k = 3 ∨ k = 4 ∨ k = 5 ∨ k = 6 ∨ k = 7 ∨ k = 8 ∨ (¬ k = 1 ∧ ¬ k = 2 ∧ ¬ k = 3 ∧ ¬ k = 4 ∧ ¬ k = 5 ∧ ¬ k = 6 ∧ ¬ k = 7 ∧ ¬ k = 8 ∧ inB k 1 8 = false) := by
  have : inB k 1 8 = false ∨ (1 ≤ k ∧ k ≤ 8) := by
    by_cases h : 1 ≤ k ∧ k ≤ 8
    · exact .inr h
    · left; unfold inB; simp; omega
  rcases this with h | h
  · have : ¬ (1 ≤ k ∧ k ≤ 8) := by unfold inB at h; simp at h; omega
    exact .inr (.inr (.inr (.inr (.inr (.inr (.inr (.inr ⟨by omega, by omega, by omega, by omega, by omega, by omega, by omega, by omega, h⟩)))))))
  · omega
theorem i81 : inB 1 1 8 = true := rfl
theorem i82 : inB 2 1 8 = true := rfl
theorem i83 : inB 3 1 8 = true := rfl
theorem i84 : inB 4 1 8 = true := rfl
theorem i85 : inB 5 1 8 = true := rfl
theorem i86 : inB 6 1 8 = true := rfl
theorem i87 : inB 7 1 8 = true := rfl
theorem i88 : inB 8 1 8 = true := rfl
theorem labelled_ok' (k : Int) (t la : List UInt8) (n : Int) (nt : Bool) : OkF Try.prog 157 [.agg [.int .i64 k, .str t, .str la, .int .i64 n, .bool nt]] (.bool (goB k || decide (k = 8)), []) := labelled_ok (k, t, la, n, nt)
theorem checkStep_ok (x : Step) (hx : stepOk x) : OkF Try.prog 112 [.agg (stepV x)] (.int .i64 (stepE x), []) := by
  obtain ⟨k, t, la, n, nt⟩ := x
  obtain ⟨ht, hl⟩ := hx
  simp only at ht hl
  refine OkF.W0 hm h112 (of_decide_eq_true rfl) ?_
  unfold c112
  rcases kinds8 k with rfl | rfl | rfl | rfl | rfl | rfl | rfl | rfl | ⟨h1, h2, h3, h4, h5, h6, h7, h8, h9⟩
  all_goals
    simp -dsimp [stepV, seqA, eqCells, tagOf, fillS, disj, idOf, *]
    repeat' (first
      | (refine condK_of ?_ ?_ <;> intro q <;> simp -dsimp [q, *, seqA, eqCells, tagOf, fillS, disj, idOf])
      | (refine wantT_of ?_ ?_ <;> intro q <;> simp -dsimp [q, *, seqA, eqCells, tagOf, fillS, disj, idOf])
      | (refine wantF_of ?_ ?_ <;> intro q <;> simp -dsimp [q, *, seqA, eqCells, tagOf, fillS, disj, idOf])
      | (refine call_bool (command_ok _ ht) ?_; simp -dsimp [*, seqA, eqCells, tagOf, fillS, disj, idOf])
      | (refine call_bool (name_ok _) ?_; simp -dsimp [*, seqA, eqCells, tagOf, fillS, disj, idOf])
      | (refine call_bool (inB_ok _ _ _) ?_; simp -dsimp [*, seqA, eqCells, tagOf, fillS, disj, idOf])
      | (refine call_bool (labelled_ok' _ _ _ _ _) ?_; simp -dsimp [goB, *]))
  all_goals (simp_all [stepE, formB, txB, nB, laB, goB, i81, i82, i83, i84, i85, i86, i87, i88] <;> (intros; simp_all))
theorem has_ok (k : Int) : OkF Try.prog 115 [.int .i64 k] (.tup [.bool (txB k), .bool (nB k), .bool (laB k)], []) := by
  refine OkF.W0 hm h115 (of_decide_eq_true rfl) ?_
  unfold c115
  rcases kinds8 k with rfl | rfl | rfl | rfl | rfl | rfl | rfl | rfl | ⟨h1, h2, h3, h4, h5, h6, h7, h8, h9⟩
  all_goals
    simp -dsimp [*]
  all_goals (simp_all [txB, nB, laB])
theorem lab_dup {l : List Step} {i : Nat} {x : Step} {s : List UInt8} (hg : l[i]? = some x) (hs : isLab s x = true) : decide (ixI (isLab s) l < i) = decide (0 ≤ ixI (isLab s) (l.take i)) := by
  have hi := (List.getElem?_eq_some_iff.1 hg).1
  rw [Bool.eq_iff_iff, decide_eq_true_eq, decide_eq_true_eq]
  rcases ixI_cases (isLab s) (l.take i) with ⟨h1, h2⟩ | ⟨k, a, h1, h2, h3, h4⟩
  · rw [h1]
    have : ixI (isLab s) l = i := ixI_stop (fun j b hj hb => h2 b (List.mem_of_getElem? (by rw [List.getElem?_take, if_pos hj]; exact hb))) hg hs
    omega
  · rw [h1]
    have hk := (List.getElem?_eq_some_iff.1 h2).1
    simp at hk
    have hka : l[k]? = some a := by rw [← h2, List.getElem?_take, if_pos (by omega)]
    have : ixI (isLab s) l = k := ixI_stop (fun j b hj hb => h4 j b hj (by rw [List.getElem?_take, if_pos (by omega)]; exact hb)) hka h3
    omega
def stE (l : List Step) (k : Nat) : Int := match l[k]? with
  | none => 0
  | some x => if stepE x ≠ 0 then stepE x else if decide (x.1 = 8) && decide (0 ≤ ixI (isLab x.2.2.1) (l.take k)) then 7 else 0
theorem checkStepRef_ok (nam : List UInt8) (l : List Step) (i : Nat) (x : Step) (hg : l[i]? = some x) (hx : stepOk x) (hl : l.length < 2 ^ 62) : OkF Try.prog 61 [.agg [.str nam, .ro l.length (fl stepCd l)], .int .i64 i] (.int .i64 (stE l i), []) := by
  have hE : stE l i = if stepE x ≠ 0 then stepE x else if decide (x.1 = 8) && decide (0 ≤ ixI (isLab x.2.2.1) (l.take i)) then 7 else 0 := by unfold stE; rw [hg]
  have hdup : x.1 = 8 → decide (ixI (isLab x.2.2.1) l < i) = decide (0 ≤ ixI (isLab x.2.2.1) (l.take i)) := fun h => lab_dup hg (by simp [isLab, h])
  have hlo := labelOf_ok nam l x.2.2.1 hl
  rw [hE]
  obtain ⟨k, t, la, n, nt⟩ := x
  obtain ⟨ht, hla⟩ := hx
  simp only at ht hla hdup hlo
  refine OkF.W0 hm h61 (of_decide_eq_true rfl) ?_
  unfold c61
  simp -dsimp [step_ia hg, step_ld hg, stepV]
  refine call_bool (inBR_ok _ _ _) ?_
  simp -dsimp
  refine condK_of ?_ ?_ <;> intro q <;> simp -dsimp
  · simp_all [stepE]
  refine call_one (has_ok k) rfl ?_
  simp -dsimp
  rcases kinds8 k with rfl | rfl | rfl | rfl | rfl | rfl | rfl | rfl | ⟨h1, h2, h3, h4, h5, h6, h7, h8, h9⟩
  all_goals
    simp -dsimp [*, txB, nB, laB]
    repeat' (first
      | (refine condK_of ?_ ?_ <;> intro q <;> simp -dsimp [q, *, disj, idOf])
      | (refine wantT_of ?_ ?_ <;> intro q <;> simp -dsimp [q, *, disj, idOf])
      | (refine wantF_of ?_ ?_ <;> intro q <;> simp -dsimp [q, *, disj, idOf])
      | (refine call_bool (isCommand_ok _ ht) ?_; simp -dsimp [*, disj, idOf])
      | (refine call_bool (isName_ok _ ht) ?_; simp -dsimp [*, disj, idOf])
      | (refine call_bool (isName_ok _ hla) ?_; simp -dsimp [*, disj, idOf])
      | (refine call_bool (inBR_ok _ _ _) ?_; simp -dsimp [*, disj, idOf])
      | (refine call_int (hlo) ?_; simp -dsimp [*, disj, idOf]))
  all_goals (simp_all [stepE, formB, txB, nB, laB, i81, i82, i83, i84, i85, i86, i87, i88] <;> (intros; simp_all))
def procE (p : Prc) : Int := if !nm p.1 then 5 else if 200 < p.2.length then 2 else fe (stE p.2) p.2.length
theorem checkProc_ok (nam : List UInt8) (l : List Step) (hok : ∀ x ∈ l, stepOk x) : OkF Try.prog 56 [.agg [.str nam, .ro l.length (fl stepCd l)]] (.int .i64 (procE (nam, l)), []) := by
  refine OkF.W0 hm h56 (of_decide_eq_true rfl) ?_
  unfold c56
  simp -dsimp
  refine call_bool (name_ok _) ?_
  simp -dsimp
  refine condK_of ?_ ?_ <;> intro q <;> simp -dsimp
  · simp_all [procE]
  refine condK_of ?_ ?_ <;> intro q1 <;> simp -dsimp
  · have : 200 < l.length := by simp at q1; omega
    simp_all [procE]
  have hl : l.length ≤ 200 := by simp at q1; omega
  have hE : procE (nam, l) = fe (stE l) l.length := by
    unfold procE
    simp at q
    rw [if_neg (by simp [q]), if_neg (by simp; omega)]
  refine for_lt l.length (fun k t => t.t 1 = .pt 0 0 0 ∧ 0 < t.nx ∧ t.h 0 = some ⟨0, 0, [.str nam, .ro l.length (fl stepCd l)], none⟩ ∧ t.t 17 = .ro l.length (fl stepCd l) ∧ fe (stE l) k = 0) rfl (by omega) (by simp -dsimp [fe]) (by simp -dsimp) (by simp -dsimp) (fun k t hk hI hi hn => ?_) (fun t hI hi hn => ?_)
  · obtain ⟨i1, inx, ih, i17, iu⟩ := hI
    have hg : l[k]? = some l[k] := List.getElem?_eq_getElem hk
    have hmem := List.getElem_mem hk
    generalize l[k] = x at hg hmem
    have hch : stE l k = if stepE x ≠ 0 then stepE x else if decide (x.1 = 8) && decide (0 ≤ ixI (isLab x.2.2.1) (l.take k)) then 7 else 0 := by unfold stE; rw [hg]
    have bad : ∀ v, stE l k = v → v ≠ 0 → procE (nam, l) = v := fun v h1 h2 => by rw [hE, fe_stop iu (by rw [h1]; exact h2) hk, h1]
    have hne : (0 : Nat) ≠ t.nx := by omega
    have hla := labelAt_ok (l.take k) x.2.2.1 (by rw [List.length_take]; omega)
    rw [List.length_take] at hla
    unfold k56_0
    simp -dsimp [i1, i17, hi, hn, step_ia hg, step_ld hg, stepV]
    refine call_int (checkStep_ok x (hok x hmem)) ?_
    simp -dsimp
    refine condK_of ?_ ?_ <;> intro a1 <;> simp -dsimp [i1, hne, ih]
    · simp at a1
      rw [bad (stepE x) (by rw [hch, if_pos a1]) a1]
    simp at a1
    refine wantT_of ?_ ?_ <;> intro a2 <;> simp -dsimp [i1, hne, ih, a2, hi, hn, i17, inx]
    · rw [slcK_ro (slc_ro_hi (d := stepCd) (esz := 5) rfl (Nat.le_of_lt hk))]
      simp -dsimp [disj, idOf, i1, hne, ih]
      refine call_int hla ?_
      simp -dsimp [disj, idOf]
      refine condK_of ?_ ?_ <;> intro a3 <;> simp -dsimp [i1, hne, ih, a2, hi, hn, i17, inx]
      · rw [bad 7 (by rw [hch]; simp_all) (by decide)]
      · have hx := fe_step iu (by rw [hch]; simp_all)
        first | exact hx | exact ⟨by omega, hx⟩
    · have hx := fe_step iu (by rw [hch]; simp_all)
      first | exact hx | exact ⟨by omega, hx⟩
  · simp -dsimp [hE, hI.2.2.2.2]
end Go.Proofs.P6
end
section
set_option linter.unusedVariables false
set_option linter.unusedSimpArgs false
set_option maxRecDepth 10000
set_option maxHeartbeats 8000000
namespace Go.Proofs.P6
open Go.Ex
/-- Reached in one step or more. -/
inductive Tc {α : Type} (R : α → α → Prop) (a : α) : α → Prop where
  | one {b} : R a b → Tc R a b
  | more {b c} : Tc R a b → R b c → Tc R a c
theorem length_le {α : Type} [BEq α] [LawfulBEq α] : ∀ (l r : List α), l.Nodup → (∀ x ∈ l, x ∈ r) → l.length ≤ r.length
  | [], r, _, _ => by simp
  | x :: l, r, hn, hs => by
    rw [List.nodup_cons] at hn
    have hx := hs x (by simp)
    have := length_le l (r.erase x) hn.2 fun y hy => (List.mem_erase_of_ne (fun e => hn.1 (by rw [← e]; exact hy))).2 (hs y (by simp [hy]))
    rw [List.length_erase_of_mem hx] at this
    have := List.length_pos_of_mem hx
    simp
    omega
theorem nodup_le {l : List Int} {n : Nat} (hn : l.Nodup) (h : ∀ k ∈ l, 0 ≤ k ∧ k < n) : l.length ≤ n := by
  have := length_le l ((List.range n).map fun (i : Nat) => (i : Int)) hn fun x hx => by
    obtain ⟨h1, h2⟩ := h x hx
    rw [List.mem_map]
    exact ⟨x.toNat, by rw [List.mem_range]; omega, by omega⟩
  simpa using this
theorem prI_lt (p : List Prc) (s : List UInt8) : prI p s < p.length := by
  unfold prI
  rcases ixI_cases (fun x : Prc => decide (x.1 = s)) p with ⟨h1, _⟩ | ⟨k, a, h1, h2, _⟩
  · rw [h1]; omega
  · rw [h1]
    have := (List.getElem?_eq_some_iff.1 h2).1
    omega
/-- The procedure a has a step that calls b. -/
def cl (p : List Prc) (a b : Int) : Prop := ∃ x s, p[a.toNat]? = some x ∧ s ∈ x.2 ∧ s.1 = 6 ∧ prI p s.2.1 = b
def CG (p : List Prc) (i : Nat) (out todo : List Int) (proc : Int → Prop) : Prop := (out.Nodup ∧ todo.length ≤ out.length + 1) ∧ (∀ k ∈ out, 0 ≤ k ∧ k < p.length ∧ Tc (cl p) i k) ∧ (∀ k ∈ todo, k = i ∨ k ∈ out) ∧ (∀ a, (a = (i : Int) ∨ a ∈ out) → a ∈ todo ∨ proc a)
/-- Two rows that grow, apart. -/
def TwoAcc (t : St) (a b : Nat) (out todo : List Int) : Prop := Acc (Cd.int .i64) t.h t.nx (t.t a) out ∧ Acc (Cd.int .i64) t.h t.nx (t.t b) todo ∧ (∀ j, ownOf (t.t a) = some j → ownOf (t.t b) ≠ some j)
def CI (p : List Prc) (i m : Nat) (t : St) : Prop := ∃ out todo, t.t 0 = .ro p.length (fl procCd p) ∧ TwoAcc t 5 6 out todo ∧ CG p i out todo (fun a => ∀ b, cl p a b → b ∈ out) ∧ m + 2 * out.length = 2 * p.length + todo.length
def CJ (p : List Prc) (x : Prc) (i cn m j : Nat) (s : St) : Prop := ∃ out' todo', s.t 0 = .ro p.length (fl procCd p) ∧ s.t 25 = .ro x.2.length (fl stepCd x.2) ∧ TwoAcc s 5 6 out' todo' ∧
          CG p i out' todo' (fun a => a = cn ∨ ∀ b, cl p a b → b ∈ out') ∧ (cn = i ∨ (cn : Int) ∈ out') ∧ (∀ j' s, j' < j → x.2[j']? = some s → s.1 = 6 → prI p s.2.1 ∈ out') ∧ todo'.length + 2 * p.length + 1 ≤ m + 2 * out'.length
theorem calls_ok (p : List Prc) (i : Nat) (hi : i < p.length) (hp : p.length ≤ 50) (hst : ∀ x ∈ p, x.2.length ≤ 200) (hres : ∀ x ∈ p, ∀ s ∈ x.2, s.1 = 6 → 0 ≤ prI p s.2.1) :
    ∃ out : List Int, (out.length ≤ 50 ∧ ∀ k, k ∈ out ↔ Tc (cl p) i k) ∧ OkF Try.prog 59 [.ro p.length (fl procCd p), .int .i64 i] (.ro out.length (fl (Cd.int .i64) out), []) := by
  have key : ∃ v, (∃ out : List Int, (out.length ≤ 50 ∧ ∀ k, k ∈ out ↔ Tc (cl p) i k) ∧ v = .ro out.length (fl (Cd.int .i64) out)) ∧ OkF Try.prog 59 [.ro p.length (fl procCd p), .int .i64 i] (v, []) := by
    refine OkF.ex0 hm h59 (of_decide_eq_true rfl) ?_
    unfold c59
    simp -dsimp [fillA]
    have hout : ∀ out todo proc, CG p i out todo proc → out.length ≤ p.length := fun out todo proc hG => nodup_le hG.1.1 fun k hk => ⟨(hG.2.1 k hk).1, (hG.2.1 k hk).2.1⟩
    refine loop_dec (CI p i) (2 * p.length + 1) ?_ (fun m t hI => ?_)
    · refine ⟨[], [(i : Int)], by simp -dsimp, ⟨by simp -dsimp; exact .nil _ _, ?_, ?_⟩, ⟨⟨by simp, by simp⟩, by simp, by simp, by simp⟩, by simp⟩
      · simp -dsimp
        exact Acc.mk (d := Cd.int .i64) (l := [(i : Int)]) (by simp) (by simp [fl])
      · simp -dsimp [ownOf]
    · obtain ⟨out, todo, i0, ⟨ho, ht, hd⟩, hG, hm'⟩ := hI
      have holen := hout _ _ _ hG
      unfold l59_1
      simp -dsimp [i0, ht.len]
      refine condK_of ?_ ?_ <;> intro q <;> simp -dsimp [q]
      · -- a round
        obtain ⟨cur, rest, rfl⟩ : ∃ c r, todo = c :: r := by
          cases todo with
          | nil => simp at q
          | cons c r => exact ⟨c, r, rfl⟩
        have hcur := hG.2.2.1 cur (by simp)
        have hcr : 0 ≤ cur ∧ cur < p.length := by
          rcases hcur with h | h
          · omega
          · exact ⟨(hG.2.1 cur h).1, (hG.2.1 cur h).2.1⟩
        obtain ⟨cn, rfl⟩ : ∃ n : Nat, cur = n := ⟨cur.toNat, by omega⟩
        have hcn : cn < p.length := by omega
        have hg : p[cn]? = some p[cn] := List.getElem?_eq_getElem hcn
        have hmem : p[cn] ∈ p := List.getElem_mem hcn
        generalize p[cn] = x at hg hmem
        obtain ⟨id, ver, off, a1, a2, a3, a4, a5, a6⟩ := ht.at (k := 0) (x := (cn : Int)) rfl (by decide)
        have a3' := fun K => a3 .i64 K
        simp only [Int.natCast_zero] at a3'
        have a6' : ldA t.h (.pt id ver off) none = some (.int .i64 cn) := a6
        have hsz : (Cd.int .i64).sz = 1 := rfl
        rw [hsz] at a3'
        have hne : ∀ j, j < t.nx → j ≠ t.nx := fun j hj => by omega
        simp -dsimp [i0, a3', a6', proc_ia hg, proc_ld hg]
        generalize hh1 : upd (upd t.h t.nx _) t.nx _ = h1
        have hf1 : ∀ j, j < t.nx → h1 j = t.h j := fun j hj => by rw [← hh1]; simp [hne j hj]
        have ht1 := ht.mono (Nat.le_succ t.nx) hf1
        have ho1 := ho.mono (Nat.le_succ t.nx) hf1
        have hx1 : h1 t.nx = some ⟨0, 0, [.str x.1, .ro x.2.length (fl stepCd x.2)], none⟩ := by rw [← hh1]; simp
        obtain ⟨v', id', b1, b2, b3, b4⟩ := ht1.tail (n := 1) (by simp) (by simp)
        have b4' := fun nx' K => b4 .i64 nx' K
        rw [hsz] at b4'
        simp only [Int.natCast_one] at b4'
        simp only [List.drop_succ_cons, List.drop_zero] at b3
        simp -dsimp [b4', hx1]
        have hxs := hst x hmem
        refine for_lt x.2.length (CJ p x i cn m) rfl (by omega) ?_ (by simp -dsimp) (by simp -dsimp) (fun j s hj hJ hji hjn => ?_) (fun s hJ hji hjn => ?_)
        · refine ⟨out, rest, by simp -dsimp [i0], by simp -dsimp, ⟨by simp -dsimp; exact ho1, by simp -dsimp; exact b3, by simp -dsimp; intro j hj; rw [b2]; rw [b1] at hd; exact hd j hj⟩, ?_, hcur.imp (fun h => by omega) (fun h => h), by simp, by simp at hm'; omega⟩
          refine ⟨⟨hG.1.1, by have := hG.1.2; simp at this; omega⟩, hG.2.1, fun k hk => hG.2.2.1 k (by simp [hk]), fun a ha => ?_⟩
          rcases hG.2.2.2 a ha with h | h
          · simp at h
            rcases h with h | h
            · exact .inr (.inl h)
            · exact .inl h
          · exact .inr (.inr h)
        · obtain ⟨out', todo', j0, j25, ⟨jo, jt, jd⟩, jG, jc, jp, jm⟩ := hJ
          have jol := hout _ _ _ jG
          have jtl := jG.1.2
          have hgj : x.2[j]? = some x.2[j] := List.getElem?_eq_getElem hj
          have hmj : x.2[j] ∈ x.2 := List.getElem_mem hj
          generalize x.2[j] = y at hgj hmj
          have hnx : ∀ j, j < s.nx → j ≠ s.nx := fun j hj => by omega
          unfold k59_0
          simp -dsimp [j0, j25, hji, hjn, step_ia hgj, step_ld hgj, stepV]
          generalize hh2 : upd (upd s.h s.nx _) s.nx _ = h2
          have hf2 : ∀ j, j < s.nx → h2 j = s.h j := fun j hj => by rw [← hh2]; simp [hnx j hj]
          have hx2 : h2 s.nx = some ⟨0, 0, [.int .i64 y.1, .str y.2.1, .str y.2.2.1, .int .i64 y.2.2.2.1, .bool y.2.2.2.2], none⟩ := by rw [← hh2]; simp
          have jo2 := jo.mono (Nat.le_succ s.nx) hf2
          have jt2 := jt.mono (Nat.le_succ s.nx) hf2
          refine condK_of ?_ ?_ <;> intro q1 <;> simp -dsimp [j0, j25, hji, hjn, hx2]
          · refine ⟨out', todo', by simp -dsimp [j0], by simp -dsimp [j25], ⟨by simpa -dsimp using jo2, by simpa -dsimp using jt2, by simpa -dsimp using jd⟩, jG, jc, fun j' s' hj' hs' h6 => ?_, jm⟩
            by_cases e : j' = j
            · subst e
              rw [hgj] at hs'
              injection hs' with hs'
              subst hs'
              simp [h6] at q1
            · exact jp j' s' (by omega) hs' h6
          have hy6 : y.1 = 6 := by simpa using q1
          have hpr0 := hres x hmem y hmj hy6
          have hprl := prI_lt p y.2.1
          have hcl : cl p cn (prI p y.2.1) := ⟨x, y, by simpa using hg, hmj, hy6, rfl⟩
          have hTc : Tc (cl p) i (prI p y.2.1) := by
            rcases jc with h | h
            · subst h; exact .one hcl
            · exact .more (jG.2.1 _ h).2.2 hcl
          refine call_int (procAt_ok p _ (by omega)) ?_
          simp -dsimp [jo2.ro]
          refine call_bool (contains_int hm h43 h97 out' (by omega) _) ?_
          simp -dsimp
          refine condK_of ?_ ?_ <;> intro q2 <;> simp -dsimp [j0, j25, hji, hjn]
          · -- a new one
            have hnew : prI p y.2.1 ∉ out' := by simpa using q2
            have hG' : ∀ (todo'' : List Int), todo'' = todo' ++ [prI p y.2.1] → CG p i (out' ++ [prI p y.2.1]) todo'' (fun a => a = cn ∨ ∀ b, cl p a b → b ∈ out' ++ [prI p y.2.1]) := by
              intro todo'' h
              subst h
              refine ⟨?_, ?_, ?_, ?_⟩
              · refine ⟨?_, by have := jG.1.2; simp; omega⟩
                rw [List.nodup_append]
                refine ⟨jG.1.1, by simp, fun a ha b hb => ?_⟩
                simp at hb
                subst hb
                exact fun e => hnew (e ▸ ha)
              · intro k hk
                rw [List.mem_append] at hk
                rcases hk with hk | hk
                · exact jG.2.1 k hk
                · simp at hk; subst hk; exact ⟨hpr0, hprl, hTc⟩
              · intro k hk
                rw [List.mem_append] at hk
                rcases hk with hk | hk
                · rcases jG.2.2.1 k hk with h | h
                  · exact .inl h
                  · exact .inr (List.mem_append_left _ h)
                · exact .inr (List.mem_append_right _ hk)
              · intro a ha
                by_cases e : a = prI p y.2.1
                · exact .inl (List.mem_append_right _ (by simp [e]))
                · have ha' : a = (i : Int) ∨ a ∈ out' := by
                    rcases ha with h | h
                    · exact .inl h
                    · rw [List.mem_append] at h
                      rcases h with h | h
                      · exact .inr h
                      · simp at h; exact absurd h e
                  rcases jG.2.2.2 a ha' with h | h | h
                  · exact .inl (List.mem_append_left _ h)
                  · exact .inr (.inl h)
                  · exact .inr (.inr fun b hb => List.mem_append_left _ (h b hb))
            have hlen : (out' ++ [prI p y.2.1]).length ≤ p.length := hout _ _ _ (hG' _ rfl)
            simp at hlen
            simp -dsimp [fillA]
            generalize hh3 : upd h2 (s.nx + 1) _ = h3
            have hf3 : ∀ j, j < s.nx + 1 → h3 j = h2 j := fun j hj => (by rw [← hh3]; have e : j ≠ s.nx + 1 := (by omega); simp [e])
            have hx3 : h3 (s.nx + 1) = some ⟨0, 1, [.int .i64 (prI p y.2.1)], none⟩ := by rw [← hh3]; simp
            refine app_acc (d := Cd.int .i64) (l' := [prI p y.2.1]) (jo2.mono (Nat.le_succ _) hf3) rfl rfl (by simp; omega) (by simp; omega) fun v1 h4 nx4 c1 c2 c3 c4 => ?_
            simp -dsimp [fillA, j0, j25, hji, hjn]
            generalize hh5 : upd h4 nx4 _ = h5
            have hf5 : ∀ j, j < nx4 → h5 j = h4 j := fun j hj => (by rw [← hh5]; have e : j ≠ nx4 := (by omega); simp [e])
            have hx5 : h5 nx4 = some ⟨0, 1, [.int .i64 (prI p y.2.1)], none⟩ := by rw [← hh5]; simp
            have jt4 : Acc (Cd.int .i64) h4 nx4 (s.t 6) todo' := (jt2.mono (Nat.le_succ _) hf3).keep c2 fun j hj1 hj2 => c3 j hj1 fun e => jd j e hj2
            refine app_acc (d := Cd.int .i64) (l' := [prI p y.2.1]) (jt4.mono (Nat.le_succ _) hf5) rfl rfl (by simp; omega) (by simp; omega) fun v2 h6 nx6 e1 e2 e3 e4 => ?_
            simp -dsimp [j0, j25, hji, hjn]
            have hdis : ∀ j, ownOf v1 = some j → ownOf v2 = some j → False := fun j hj1 hj2 => by
              rcases e4 j hj2 with h | h
              · rcases c4 j hj1 with h' | h'
                · exact jd j h' h
                · have := jt2.own h
                  omega
              · have := c1.own hj1
                omega
            refine ⟨out' ++ [prI p y.2.1], todo' ++ [prI p y.2.1], by simp -dsimp [j0], by simp -dsimp [j25], ⟨by simp -dsimp; exact (c1.mono (Nat.le_succ _) hf5).keep e2 (fun j hj1 hj2 => e3 j hj1 fun e => (c4 j hj2).elim (fun h => jd j h e) (fun h => by have := jt2.own e; omega)), by simpa -dsimp using e1, by simp -dsimp; exact fun j hj1 hj2 => hdis j hj1 hj2⟩, hG' _ rfl, ?_, fun j' s' hj' hs' h6 => ?_, by simp; omega⟩
            · rcases jc with h | h
              · exact .inl h
              · exact .inr (List.mem_append_left _ h)
            · by_cases e : j' = j
              · subst e
                rw [hgj] at hs'
                injection hs' with hs'
                subst hs'
                simp
              · exact List.mem_append_left _ (jp j' s' (by omega) hs' h6)
          · refine ⟨out', todo', by simp -dsimp [j0], by simp -dsimp [j25], ⟨by simpa -dsimp using jo2, by simpa -dsimp using jt2, by simpa -dsimp using jd⟩, jG, jc, fun j' s' hj' hs' h6 => ?_, jm⟩
            by_cases e : j' = j
            · subst e
              rw [hgj] at hs'
              injection hs' with hs'
              subst hs'
              simpa using q2
            · exact jp j' s' (by omega) hs' h6
        · obtain ⟨out', todo', j0, j25, ⟨jo, jt, jd⟩, jG, jc, jp, jm⟩ := hJ
          simp -dsimp [j0]
          refine ⟨todo'.length + 2 * p.length - 2 * out'.length, ?_, out', todo', by simp -dsimp [j0], ⟨by simpa -dsimp using jo, by simpa -dsimp using jt, by simpa -dsimp using jd⟩, ⟨jG.1, jG.2.1, jG.2.2.1, fun a ha => ?_⟩, ?_⟩
          · have := hout _ _ _ jG
            omega
          · rcases jG.2.2.2 a ha with h | h | h
            · exact .inl h
            · refine .inr fun b hb => ?_
              subst h
              obtain ⟨x', s', hx', hs', h6, rfl⟩ := hb
              have : x' = x := by
                have := hx'.symm.trans (by simpa using hg)
                injection this
              subst this
              obtain ⟨j', hj'⟩ := List.getElem?_of_mem hs'
              exact jp j' s' (List.getElem?_eq_some_iff.1 hj').1 hj' h6
            · exact .inr h
          · have := hout _ _ _ jG
            omega
      · -- the end
        have : todo = [] := by
          cases todo with
          | nil => rfl
          | cons c r => simp at q
        subst this
        refine ⟨_, ho.ex, out, ⟨by omega, fun k => ⟨fun hk => (hG.2.1 k hk).2.2, fun hk => ?_⟩⟩, rfl⟩
        induction hk with
        | one h =>
          rcases hG.2.2.2 i (.inl rfl) with h' | h'
          · simp at h'
          · exact h' _ h
        | more h1 h2 ih =>
          rcases hG.2.2.2 _ (.inr ih) with h' | h'
          · simp at h'
          · exact h' _ h2
  obtain ⟨v, ⟨out, ho, rfl⟩, h⟩ := key
  exact ⟨out, ho, h⟩
end Go.Proofs.P6
end
section
set_option linter.unusedVariables false
set_option linter.unusedSimpArgs false
set_option maxRecDepth 10000
set_option maxHeartbeats 8000000
namespace Go.Proofs.P6
open Go.Ex
theorem hasText_ok (l : List (List UInt8)) (s : List UInt8) (hl : l.length < 2 ^ 62) : OkF Try.prog 117 [.ro l.length (fl Cd.str l), .str s] (.bool (decide (s ∈ l)), []) := by
  have e62 := Go.Ex.e62
  refine OkF.W0 hm h117 (of_decide_eq_true rfl) ?_
  unfold c117
  simp -dsimp
  refine loop_to 5 l.length (fun k t => t.t 5 = .int .i64 k ∧ t.t 0 = .ro l.length (fl Cd.str l) ∧ t.t 1 = .str s ∧ Not' (fun x => decide (x = s)) l k) (fun k t h => h.1) (by simp -dsimp [Not'.zero]) (fun k t hk hI => ?_)
  obtain ⟨i5, i0, i1, iu⟩ := hI
  unfold l117_0
  by_cases hlt : k < l.length
  · have hlt' : (k : Int) < (l.length : Int) := by omega
    have hw : IntKind.i64.wrap ((k : Int) + 1) = (k : Int) + 1 := IntWalk.i64_in _ (by omega)
    have hg : l[k]? = some l[k] := List.getElem?_eq_getElem hlt
    generalize l[k] = x at hg
    have e1 : ∀ K, iaddrK t.h (.ro l.length (fl Cd.str l)) (.int .i64 k) 1 K ⟨⟩ = K (.rp (fl Cd.str l) k) [] := fun K => by
      have := iaddr_fl (kk := .i64) (h := t.h) (K := K) (d := Cd.str) (n := 1) rfl (by decide) hg
      rwa [Nat.mul_one] at this
    have e2 : ∀ h, ldA h (.rp (fl Cd.str l) k) none = some (.str x) := fun h => by
      have := ld_fl0 (h := h) (d := Cd.str) (n := 1) rfl (by decide) hg
      rwa [Nat.mul_one] at this
    simp -dsimp [i5, i1, i0, hlt', e1, e2]
    refine condK_of ?_ ?_ <;> intro q <;> simp -dsimp [q, i5, i1, i0, hw, hlt]
    · have hx : x = s := by simpa using q
      have := List.mem_of_getElem? hg
      rw [hx] at this
      simp [this]
    · exact iu.succ hg q
  · have hkl : k = l.length := by omega
    subst hkl
    have : s ∉ l := fun h => by
      obtain ⟨i, hi⟩ := List.getElem?_of_mem h
      have := iu i s (List.getElem?_eq_some_iff.1 hi).1 hi
      simp at this
    simp -dsimp [i5, i0, this]
theorem prI_get {p : List Prc} {s : List UInt8} (h : 0 ≤ prI p s) : ∃ x, p[(prI p s).toNat]? = some x ∧ x.1 = s := by
  unfold prI at h ⊢
  rcases ixI_cases (fun x : Prc => decide (x.1 = s)) p with ⟨h1, _⟩ | ⟨k, a, h1, h2, h3, _⟩
  · omega
  · rw [h1]
    exact ⟨a, by simpa using h2, by simpa using h3⟩
theorem prI_inj {p : List Prc} {s t : List UInt8} (h : 0 ≤ prI p s) (e : prI p s = prI p t) : s = t := by
  obtain ⟨x, h1, h2⟩ := prI_get h
  obtain ⟨y, h3, h4⟩ := prI_get (p := p) (s := t) (by omega)
  rw [← e, h1] at h3
  injection h3 with h3
  rw [← h2, ← h4, h3]
def TwoS (t : St) (a b : Nat) (l m : List (List UInt8)) : Prop := Acc Cd.str t.h t.nx (t.t a) l ∧ Acc Cd.str t.h t.nx (t.t b) m ∧ (∀ j, ownOf (t.t a) = some j → ownOf (t.t b) ≠ some j)
def DG (p : List Prc) (from' to : List UInt8) (seen : List (List UInt8)) : Prop := seen.Nodup ∧ (∀ s ∈ seen, 0 ≤ prI p s ∧ s ≠ to ∧ Tc (cl p) (prI p from') (prI p s))
def DC (p : List Prc) (seen : List (List UInt8)) (a : List UInt8) (n : Nat) : Prop := ∀ x j s, p[(prI p a).toNat]? = some x → j < n → x.2[j]? = some s → s.1 = 6 → s.2.1 ∈ seen
def DI (p : List Prc) (from' to : List UInt8) (m : Nat) (t : St) : Prop := ∃ (at' : Nat) (seen : List (List UInt8)), t.t 0 = .ro p.length (fl procCd p) ∧ t.t 2 = .str to ∧ t.t 9 = .int .i64 at' ∧ TwoS t 7 8 seen (from' :: seen) ∧ DG p from' to seen ∧
  (∀ k a, k < at' → (from' :: seen)[k]? = some a → ∀ n, DC p seen a n) ∧ m + at' = p.length + 1
def DJ (p : List Prc) (x : Prc) (from' to : List UInt8) (at' j : Nat) (c : Nat) (t : St) : Prop := ∃ (seen : List (List UInt8)) (cur : List UInt8), t.t 11 = .int .i64 j ∧ t.t 0 = .ro p.length (fl procCd p) ∧ t.t 2 = .str to ∧ t.t 9 = .int .i64 at' ∧ t.t 10 = .pt c 0 0 ∧ c < t.nx ∧
  t.h c = some ⟨0, 0, [.str x.1, .ro x.2.length (fl stepCd x.2)], none⟩ ∧ (∀ k, ownOf (t.t 7) = some k → k ≠ c) ∧ (∀ k, ownOf (t.t 8) = some k → k ≠ c) ∧ TwoS t 7 8 seen (from' :: seen) ∧ DG p from' to seen ∧
  (∀ k a, k < at' → (from' :: seen)[k]? = some a → ∀ n, DC p seen a n) ∧ (from' :: seen)[at']? = some cur ∧ p[(prI p cur).toNat]? = some x ∧ DC p seen cur j
open Classical in
theorem called_ok (p : List Prc) (from' to : List UInt8) (hfr : 0 ≤ prI p from') (hto : 0 ≤ prI p to) (hp : p.length ≤ 50) (hst : ∀ x ∈ p, x.2.length ≤ 200) (hres : ∀ x ∈ p, ∀ s ∈ x.2, s.1 = 6 → 0 ≤ prI p s.2.1) :
    OkF Try.prog 63 [.ro p.length (fl procCd p), .str from', .str to] (.bool (decide (Tc (cl p) (prI p from') (prI p to))), []) := by
  have hlen : ∀ seen, DG p from' to seen → seen.length ≤ p.length := fun seen hG => by
    have := length_le seen (p.map (·.1)) hG.1 fun s hs => by
      obtain ⟨x, h1, h2⟩ := prI_get (hG.2 s hs).1
      rw [List.mem_map]
      exact ⟨x, List.mem_of_getElem? h1, h2⟩
    simpa using this
  refine OkF.W0 hm h63 (of_decide_eq_true rfl) ?_
  unfold c63
  simp -dsimp [fillA]
  refine loop_dec (DI p from' to) (p.length + 1) ?_ (fun m t hI => ?_)
  · refine ⟨0, [], by simp -dsimp, by simp -dsimp, by simp -dsimp, ⟨?_, ?_, by simp -dsimp [ownOf]⟩, ⟨by simp, by simp⟩, by intro k a h; omega, by simp⟩
    · simp -dsimp
      exact Acc.mk (d := Cd.str) (l := []) (by simp) (by simp [fl])
    · simp -dsimp
      exact Acc.mk (d := Cd.str) (l := [from']) (by simp) (by simp [fl])
  · obtain ⟨at', seen, i0, i2, i9, ⟨h7, h8, hd⟩, hG, hC, hm'⟩ := hI
    have hsl := hlen _ hG
    unfold l63_1
    simp -dsimp [i0, i2, i9, h8.len]
    refine condK_of ?_ ?_ <;> intro q <;> simp -dsimp [q]
    · have hlt : at' < (from' :: seen).length := by simp at q ⊢; omega
      have hm1 : 0 < m ∧ at' ≤ 50 := by simp at hlt; omega
      have hg : (from' :: seen)[at']? = some (from' :: seen)[at'] := List.getElem?_eq_getElem hlt
      have hcm := List.getElem_mem hlt
      generalize (from' :: seen)[at'] = cur at hg hcm
      have hcur : 0 ≤ prI p cur ∧ (cur = from' ∨ Tc (cl p) (prI p from') (prI p cur)) := by
        rw [List.mem_cons] at hcm
        rcases hcm with h | h
        · subst h; exact ⟨hfr, .inl rfl⟩
        · exact ⟨(hG.2 _ h).1, .inr (hG.2 _ h).2.2⟩
      obtain ⟨x, hx, hxn⟩ := prI_get hcur.1
      obtain ⟨id, ver, off, a1, a2, a3, a4, a5, a6⟩ := h8.at hg (by decide)
      have a3' := fun K => a3 .i64 K
      have a6' : ldA t.h (.pt id ver off) none = some (.str cur) := a6
      simp only [str_sz] at a3'
      have hpc : ((prI p cur).toNat : Int) = prI p cur := by omega
      have hia : ∀ h K, iaddrK h (.ro p.length (fl procCd p)) (.int .i64 (prI p cur)) 2 K ⟨⟩ = K (.rp (fl procCd p) ((prI p cur).toNat * 2)) [] := fun h K => by
        have := proc_ia (h := h) (kk := .i64) (K := K) hx
        rw [hpc] at this
        exact this
      simp -dsimp [i0, i2, i9, a3', a6']
      refine call_int (procOf_ok p cur (by omega)) ?_
      have hnx : ∀ j, j < t.nx → j ≠ t.nx := fun j hj => by omega
      simp -dsimp [i0, hia, proc_ld hx]
      generalize hh1 : upd (upd t.h t.nx _) t.nx _ = h1
      have hf1 : ∀ j, j < t.nx → h1 j = t.h j := fun j hj => by rw [← hh1]; simp [hnx j hj]
      have hx1 : h1 t.nx = some ⟨0, 0, [.str x.1, .ro x.2.length (fl stepCd x.2)], none⟩ := by rw [← hh1]; simp
      have hmem := List.mem_of_getElem? hx
      have hxs := hst x hmem
      refine loop_to 11 x.2.length (fun j s => DJ p x from' to at' j t.nx s) (fun k t h => h.choose_spec.choose_spec.1) ?_ (fun j s hj hJ => ?_)
      · refine ⟨seen, cur, by simp -dsimp, by simp -dsimp [i0], by simp -dsimp [i2], by simp -dsimp [i9], by simp -dsimp, by simp -dsimp, by simp -dsimp [hx1], ?_, ?_, ⟨?_, ?_, ?_⟩, hG, hC, hg, hx, fun x' j s hx' hj => by omega⟩
        · simp -dsimp
          exact fun k hk => by have := h7.own hk; omega
        · simp -dsimp
          exact fun k hk => by have := h8.own hk; omega
        · simp -dsimp
          exact h7.mono (Nat.le_succ _) hf1
        · simp -dsimp
          exact h8.mono (Nat.le_succ _) hf1
        · simpa -dsimp using hd
      · obtain ⟨seen, cur', j11, j0, j2, j9, j10, jc, jh, jn7, jn8, ⟨g7, g8, gd⟩, jG, jC, jg, jx, jD⟩ := hJ
        have hsl := hlen _ jG
        unfold l63_0
        by_cases hlt : j < x.2.length
        · have hlt' : (j : Int) < (x.2.length : Int) := by omega
          have hw : IntKind.i64.wrap ((j : Int) + 1) = (j : Int) + 1 := IntWalk.i64_in _ (by omega)
          have hgj : x.2[j]? = some x.2[j] := List.getElem?_eq_getElem hlt
          have hmj : x.2[j] ∈ x.2 := List.getElem_mem hlt
          generalize x.2[j] = y at hgj hmj
          have hnx2 : ∀ j, j < s.nx → j ≠ s.nx := fun j hj => by omega
          have hcn : t.nx ≠ s.nx := by omega
          have hcur' : cur' = from' ∨ Tc (cl p) (prI p from') (prI p cur') := by
            have := List.mem_of_getElem? jg
            rw [List.mem_cons] at this
            rcases this with h | h
            · exact .inl h
            · exact .inr (jG.2 _ h).2.2
          simp -dsimp [j11, j0, j2, j9, j10, jh, hlt', step_ia hgj, step_ld hgj, stepV]
          generalize hh2 : upd (upd s.h s.nx _) s.nx _ = h2
          have hf2 : ∀ j, j < s.nx → h2 j = s.h j := fun j hj => by rw [← hh2]; simp [hnx2 j hj]
          have hx2 : h2 s.nx = some ⟨0, 0, [.int .i64 y.1, .str y.2.1, .str y.2.2.1, .int .i64 y.2.2.2.1, .bool y.2.2.2.2], none⟩ := by rw [← hh2]; simp
          have hc2 : h2 t.nx = some ⟨0, 0, [.str x.1, .ro x.2.length (fl stepCd x.2)], none⟩ := by rw [hf2 _ jc]; exact jh
          have g72 := g7.mono (Nat.le_succ s.nx) hf2
          have g82 := g8.mono (Nat.le_succ s.nx) hf2
          have step : (y.1 = 6 → y.2.1 ∈ seen) → DC p seen cur' (j + 1) := fun h x' j' s' hx' hj' hs' h6 => by
            by_cases e : j' = j
            · subst e
              rw [jx] at hx'
              injection hx' with hx'
              subst hx'
              rw [hgj] at hs'
              injection hs' with hs'
              subst hs'
              exact h h6
            · exact jD x' j' s' hx' (by omega) hs' h6
          refine wantF_of ?_ ?_ <;> intro q1 <;> simp -dsimp [q1, j11, j0, j2, j9, j10, hx2, hw, hlt]
          · have hy6 : y.1 = 6 := by simpa using q1
            have hpr0 := hres x hmem y hmj hy6
            have hcl : cl p (prI p cur') (prI p y.2.1) := ⟨x, y, jx, hmj, hy6, rfl⟩
            have hTc : Tc (cl p) (prI p from') (prI p y.2.1) := by
              rcases hcur' with h | h
              · subst h; exact .one hcl
              · exact .more h hcl
            simp -dsimp [g72.ro]
            refine call_bool (hasText_ok seen _ (by omega)) ?_
            simp -dsimp
            refine condK_of ?_ ?_ <;> intro q2 <;> simp -dsimp [j11, j0, j2, j9, j10, hx2, hw, hlt]
            · exact ⟨seen, cur', by simp -dsimp, by simp -dsimp [j0], by simp -dsimp [j2], by simp -dsimp [j9], by simp -dsimp [j10], by simp -dsimp; omega, by simp -dsimp [hc2], by simpa -dsimp using jn7, by simpa -dsimp using jn8, ⟨by simpa -dsimp using g72, by simpa -dsimp using g82, by simpa -dsimp using gd⟩, jG, jC, jg, jx, step fun _ => by simpa using q2⟩
            refine condK_of ?_ ?_ <;> intro q3 <;> simp -dsimp [j11, j0, j2, j9, j10, hx2, hw, hlt]
            · have : y.2.1 = to := by simpa using q3
              rw [← this]
              exact hTc
            have hyt : y.2.1 ≠ to := by simpa using q3
            have hnew : y.2.1 ∉ seen := by simpa using q2
            have hG' : DG p from' to (seen ++ [y.2.1]) := ⟨by
              rw [List.nodup_append]
              refine ⟨jG.1, by simp, fun a ha b hb => ?_⟩
              simp at hb
              subst hb
              exact fun e => hnew (e ▸ ha), fun s hs => by
              rw [List.mem_append] at hs
              rcases hs with hs | hs
              · exact jG.2 s hs
              · simp at hs; subst hs; exact ⟨hpr0, hyt, hTc⟩⟩
            have hl' := hlen _ hG'
            simp at hl'
            simp -dsimp [fillA, hx2]
            generalize hh3 : upd h2 (s.nx + 1) _ = h3
            have hf3 : ∀ j, j < s.nx + 1 → h3 j = h2 j := fun j hj => (by rw [← hh3]; have e : j ≠ s.nx + 1 := (by omega); simp [e])
            refine app_acc (d := Cd.str) (l' := [y.2.1]) (g72.mono (Nat.le_succ _) hf3) rfl rfl (by simp; omega) (by simp; omega) fun v1 h4 nx4 c1 c2 c3 c4 => ?_
            have own7 : ownOf (s.t 7) ≠ some s.nx := fun e => by have := g7.own e; omega
            have hx4 : h4 s.nx = some ⟨0, 0, [.int .i64 y.1, .str y.2.1, .str y.2.2.1, .int .i64 y.2.2.2.1, .bool y.2.2.2.2], none⟩ := by rw [c3 _ (by omega) own7, hf3 _ (by omega)]; exact hx2
            simp -dsimp [fillA, j11, j0, j2, j9, j10, hx4]
            generalize hh5 : upd h4 nx4 _ = h5
            have hf5 : ∀ j, j < nx4 → h5 j = h4 j := fun j hj => (by rw [← hh5]; have e : j ≠ nx4 := (by omega); simp [e])
            have g84 : Acc Cd.str h4 nx4 (s.t 8) (from' :: seen) := (g82.mono (Nat.le_succ _) hf3).keep c2 fun j hj1 hj2 => c3 j hj1 fun e => gd j e hj2
            refine app_acc (d := Cd.str) (l' := [y.2.1]) (g84.mono (Nat.le_succ _) hf5) rfl rfl (by simp; omega) (by simp; omega) fun v2 h6 nx6 e1 e2 e3 e4 => ?_
            simp -dsimp [j11, j0, j2, j9, j10, hw, hlt]
            have hdis : ∀ j, ownOf v1 = some j → ownOf v2 = some j → False := fun j hj1 hj2 => by
              rcases e4 j hj2 with h | h
              · rcases c4 j hj1 with h' | h'
                · exact gd j h' h
                · have := g82.own h
                  omega
              · have := c1.own hj1
                omega
            have hc6 : h6 t.nx = some ⟨0, 0, [.str x.1, .ro x.2.length (fl stepCd x.2)], none⟩ := by
              rw [e3 _ (by omega) (fun e => jn8 _ e rfl), hf5 _ (by omega), c3 _ (by omega) (fun e => jn7 _ e rfl), hf3 _ (by omega)]
              exact hc2
            refine ⟨seen ++ [y.2.1], cur', by simp -dsimp, by simp -dsimp [j0], by simp -dsimp [j2], by simp -dsimp [j9], by simp -dsimp [j10], by simp -dsimp; omega, by simp -dsimp [hc6], ?_, ?_, ⟨?_, ?_, ?_⟩, hG', ?_, ?_, jx, ?_⟩
            · simp -dsimp
              intro k hk
              rcases c4 k hk with h | h
              · exact jn7 k h
              · omega
            · simp -dsimp
              intro k hk
              rcases e4 k hk with h | h
              · exact jn8 k h
              · omega
            · simp -dsimp
              exact (c1.mono (Nat.le_succ _) hf5).keep e2 (fun j hj1 hj2 => e3 j hj1 fun e => (c4 j hj2).elim (fun h => gd j h e) (fun h => by have := g82.own e; omega))
            · simpa -dsimp using e1
            · simp -dsimp
              exact fun j hj1 hj2 => hdis j hj1 hj2
            · intro k a hk ha n x' j' s' h1 h2 h3 h4
              have hka : (from' :: seen)[k]? = some a := by
                have hkl := (List.getElem?_eq_some_iff.1 jg).1
                rw [← List.cons_append, List.getElem?_append_left (by omega)] at ha
                exact ha
              exact List.mem_append_left _ (jC k a hk hka n x' j' s' h1 h2 h3 h4)
            · have hkl := (List.getElem?_eq_some_iff.1 jg).1
              rw [← List.cons_append, List.getElem?_append_left (by omega)]
              exact jg
            · intro x' j' s' hx' hj' hs' h6
              by_cases e : j' = j
              · subst e
                rw [jx] at hx'
                injection hx' with hx'
                subst hx'
                rw [hgj] at hs'
                injection hs' with hs'
                subst hs'
                simp
              · exact List.mem_append_left _ (jD x' j' s' hx' (by omega) hs' h6)
          · exact ⟨seen, cur', by simp -dsimp, by simp -dsimp [j0], by simp -dsimp [j2], by simp -dsimp [j9], by simp -dsimp [j10], by simp -dsimp; omega, by simp -dsimp [hc2], by simpa -dsimp using jn7, by simpa -dsimp using jn8, ⟨by simpa -dsimp using g72, by simpa -dsimp using g82, by simpa -dsimp using gd⟩, jG, jC, jg, jx, step fun h => by simp [h] at q1⟩
        · have hjl : j = x.2.length := by omega
          subst hjl
          have hw : IntKind.i64.wrap ((at' : Int) + 1) = (at' : Int) + 1 := IntWalk.i64_in _ (by omega)
          simp -dsimp [j11, j0, j2, j9, j10, jh, hw]
          refine ⟨m - 1, by omega, at' + 1, seen, by simp -dsimp [j0], by simp -dsimp [j2], by simp -dsimp, ⟨by simpa -dsimp using g7, by simpa -dsimp using g8, by simpa -dsimp using gd⟩, jG, ?_, by omega⟩
          intro k a hk ha n
          by_cases e : k = at'
          · subst e
            rw [jg] at ha
            injection ha with ha
            subst ha
            intro x' j' s' h1 h2 h3 h4
            rw [jx] at h1
            injection h1 with h1
            subst h1
            exact jD _ j' s' jx (List.getElem?_eq_some_iff.1 h3).1 h3 h4
          · exact jC k a (by omega) ha n
    · have hall : ∀ k, Tc (cl p) (prI p from') k → ∃ s ∈ seen, prI p s = k := by
        have one : ∀ a ∈ from' :: seen, ∀ k, cl p (prI p a) k → ∃ s ∈ seen, prI p s = k := by
          intro a ha k hk
          obtain ⟨i, hi⟩ := List.getElem?_of_mem ha
          obtain ⟨x, s, h1, h2, h3, h4⟩ := hk
          obtain ⟨j, hj⟩ := List.getElem?_of_mem h2
          have hil := (List.getElem?_eq_some_iff.1 hi).1
          exact ⟨s.2.1, hC i a (by simp at q hil; omega) hi (j + 1) x j s h1 (by omega) hj h3, h4⟩
        intro k hk
        induction hk with
        | one h => exact one _ (by simp) _ h
        | more h1 h2 ih =>
          obtain ⟨s, hs, rfl⟩ := ih
          exact one s (by simp [hs]) _ h2
      intro hT
      obtain ⟨s, hs, e⟩ := hall _ hT
      exact (hG.2 s hs).2.1 (prI_inj (hG.2 s hs).1 e)
end Go.Proofs.P6
end
section
set_option linter.unusedVariables false
set_option linter.unusedSimpArgs false
set_option maxRecDepth 10000
set_option maxHeartbeats 8000000
namespace Go.Proofs.P6
open Go.Ex
theorem bl_irrefl : ∀ a : List UInt8, Op.bytesLess a a = false
  | [] => rfl
  | a :: x => by
    unfold Op.bytesLess
    simp [bl_irrefl x]
theorem bl_trans : ∀ a b c : List UInt8, Op.bytesLess a b = true → Op.bytesLess b c = true → Op.bytesLess a c = true
  | _, _, [], _, h => by simp [Op.bytesLess] at h
  | _, [], _ :: _, h, _ => by simp [Op.bytesLess] at h
  | [], _ :: _, _ :: _, _, _ => by simp [Op.bytesLess]
  | a :: x, b :: y, c :: z, h1, h2 => by
    simp only [Op.bytesLess, Bool.or_eq_true, decide_eq_true_eq, Bool.and_eq_true, beq_iff_eq] at h1 h2 ⊢
    rcases h1 with h1 | ⟨rfl, h1⟩
    · rcases h2 with h2 | ⟨rfl, h2⟩
      · exact .inl (by rw [UInt8.lt_iff_toNat_lt] at *; omega)
      · exact .inl h1
    · rcases h2 with h2 | ⟨rfl, h2⟩
      · exact .inl h2
      · exact .inr ⟨rfl, bl_trans x y z h1 h2⟩
theorem bl_total : ∀ a b : List UInt8, Op.bytesLess a b = false → a ≠ b → Op.bytesLess b a = true
  | [], [], _, h => absurd rfl h
  | a :: x, [], _, _ => rfl
  | [], b :: y, h, _ => by simp [Op.bytesLess] at h
  | a :: x, b :: y, h1, h2 => by
    simp only [Op.bytesLess, Bool.or_eq_false_iff, decide_eq_false_iff_not, Bool.and_eq_false_iff, Bool.or_eq_true, decide_eq_true_eq, Bool.and_eq_true, beq_iff_eq, beq_eq_false_iff_ne] at h1 ⊢
    obtain ⟨h1, h3⟩ := h1
    rw [UInt8.lt_iff_toNat_lt] at h1
    by_cases e : a = b
    · subst e
      refine .inr ⟨rfl, bl_total x y (by simpa using h3) fun e => h2 (by rw [e])⟩
    · left
      rw [UInt8.lt_iff_toNat_lt]
      have : a.toNat ≠ b.toNat := fun q => e (UInt8.toNat_inj.1 q)
      omega
def procsE1 (p : List Prc) (k : Nat) : Int := match p[k]? with
  | none => 0
  | some x => if procE x ≠ 0 then procE x else if before p (fun y => leS x.1 y.1) k then 8 else 0
def noStep (p : List Prc) (x : Prc) (s : Step) : Bool := (goB s.1 && decide (ixI (isLab s.2.2.1) x.2 < 0)) || (decide (s.1 = 6) && decide (prI p s.2.1 < 0))
def noProc (p : List Prc) (x : Prc) : Bool := x.2.any (noStep p x)
open Classical in
noncomputable def loopB (p : List Prc) (i : Nat) : Bool := decide (Tc (cl p) i i)
open Classical in
noncomputable def procsE (p : List Prc) : Int := if 50 < p.length then 2 else if fe (procsE1 p) p.length ≠ 0 then fe (procsE1 p) p.length else if p.any (noProc p) then 9 else if ∃ i, i < p.length ∧ loopB p i = true then 17 else 0
def procOk (x : Prc) : Prop := x.1.length < 2 ^ 62 ∧ ∀ s ∈ x.2, stepOk s
/-- What the first round shows. -/
structure Right1 (p : List Prc) : Prop where
  steps : ∀ x ∈ p, x.2.length ≤ 200 ∧ nm x.1 = true ∧ (∀ s ∈ x.2, stepE s = 0)
  order : ∀ (i j : Nat) x y, i < j → p[i]? = some x → p[j]? = some y → Op.bytesLess x.1 y.1 = true
theorem procE_zero {x : Prc} (h : procE x = 0) : x.2.length ≤ 200 ∧ nm x.1 = true ∧ (∀ s ∈ x.2, stepE s = 0) := by
  unfold procE at h
  split at h
  · cases h
  · rename_i h1
    split at h
    · cases h
    · refine ⟨by omega, by simpa using h1, fun s hs => ?_⟩
      obtain ⟨k, hk⟩ := List.getElem?_of_mem hs
      have := fe_zero h k (List.getElem?_eq_some_iff.1 hk).1
      unfold stE at this
      rw [hk] at this
      simp only at this
      split at this
      · rename_i q; exact absurd this q
      · rename_i q; simpa using q
theorem right1 {p : List Prc} (h : fe (procsE1 p) p.length = 0) : Right1 p := by
  have each : ∀ (k : Nat) x, p[k]? = some x → procE x = 0 ∧ before p (fun y => leS x.1 y.1) k = false := by
    intro k x hk
    have := fe_zero h k (List.getElem?_eq_some_iff.1 hk).1
    unfold procsE1 at this
    rw [hk] at this
    simp only at this
    split at this
    · rename_i q; exact absurd this q
    · rename_i q
      split at this
      · cases this
      · rename_i q'; exact ⟨by simpa using q, by simpa using q'⟩
  refine ⟨fun x hx => ?_, ?_⟩
  · obtain ⟨k, hk⟩ := List.getElem?_of_mem hx
    exact procE_zero (each k x hk).1
  · have next : ∀ (i : Nat) x y, p[i]? = some x → p[i + 1]? = some y → Op.bytesLess x.1 y.1 = true := by
      intro i x y hx hy
      have := (each _ _ hy).2
      simp only [before, hx, leS, Bool.or_eq_false_iff, beq_eq_false_iff_ne] at this
      exact bl_total _ _ this.1 this.2
    intro i j x y hij hx hy
    obtain ⟨d, rfl⟩ : ∃ d, j = i + 1 + d := ⟨j - (i + 1), by omega⟩
    clear hij
    induction d generalizing y with
    | zero => exact next i x y hx hy
    | succ d ih =>
      have hl := (List.getElem?_eq_some_iff.1 hy).1
      have hg : p[i + 1 + d]? = some p[i + 1 + d] := List.getElem?_eq_getElem (by omega)
      exact bl_trans _ _ _ (ih _ hg) (next (i + 1 + d) _ y hg hy)
theorem Right1.pr {p : List Prc} (h : Right1 p) {i : Nat} {x : Prc} (hx : p[i]? = some x) : prI p x.1 = i := by
  refine ixI_stop (fun j a hj ha => ?_) hx (by simp)
  have := h.order j i a x hj ha hx
  simp only [decide_eq_false_iff_not]
  intro e
  rw [e, bl_irrefl] at this
  cases this
theorem no_zero {p : List Prc} (h : p.any (noProc p) = false) : ∀ x ∈ p, ∀ s ∈ x.2, noStep p x s = false := by
  intro x hx s hs
  rw [List.any_eq_false] at h
  have := h x hx
  unfold noProc at this
  rw [Bool.not_eq_true, List.any_eq_false] at this
  simpa using this s hs
theorem no_res {p : List Prc} (h : p.any (noProc p) = false) : ∀ x ∈ p, ∀ s ∈ x.2, s.1 = 6 → 0 ≤ prI p s.2.1 := by
  intro x hx s hs h6
  have := no_zero h x hx s hs
  unfold noStep at this
  simp [h6] at this
  exact this.2
open Classical in
theorem procsE_of {p : List Prc} (h50 : p.length ≤ 50) : procsE p = if fe (procsE1 p) p.length ≠ 0 then fe (procsE1 p) p.length else if p.any (noProc p) then 9 else if ∃ i, i < p.length ∧ loopB p i = true then 17 else 0 := by
  unfold procsE
  rw [if_neg (by omega)]
theorem procsE_first {p : List Prc} (h50 : p.length ≤ 50) {k : Nat} {v : Int} (h0 : fe (procsE1 p) k = 0) (hk : k < p.length) (h : procsE1 p k = v) (hv : v ≠ 0) : procsE p = v := by
  have e := fe_stop h0 (by rw [h]; exact hv) hk
  rw [procsE_of h50, if_pos (by rw [e, h]; exact hv), e, h]
theorem procsE_none {p : List Prc} (h50 : p.length ≤ 50) (h0 : fe (procsE1 p) p.length = 0) (h : p.any (noProc p) = true) : procsE p = 9 := by
  rw [procsE_of h50, if_neg (by rw [h0]; simp), if_pos h]
theorem procsE_loop {p : List Prc} (h50 : p.length ≤ 50) (h0 : fe (procsE1 p) p.length = 0) (h1 : p.any (noProc p) = false) {i : Nat} (hi : i < p.length) (h : loopB p i = true) : procsE p = 17 := by
  rw [procsE_of h50, if_neg (by rw [h0]; simp), if_neg (by simp [h1]), if_pos ⟨i, hi, h⟩]
theorem procsE_ok {p : List Prc} (h50 : p.length ≤ 50) (h0 : fe (procsE1 p) p.length = 0) (h1 : p.any (noProc p) = false) (h : ∀ i, i < p.length → loopB p i = false) : procsE p = 0 := by
  rw [procsE_of h50, if_neg (by rw [h0]; simp), if_neg (by simp [h1]), if_neg]
  rintro ⟨i, hi, q⟩
  rw [h i hi] at q
  cases q
def PI2 (p : List Prc) (x : Prc) (k i j : Nat) (n7 : Nat) (t : St) : Prop := t.t 0 = .ro p.length (fl procCd p) ∧ t.t 40 = .ro p.length (fl procCd p) ∧ t.t 41 = .int .i64 p.length ∧ t.t 42 = .int .i64 i ∧ t.t 47 = .ro x.2.length (fl stepCd x.2) ∧ t.t 7 = .pt n7 0 0 ∧ n7 < t.nx ∧ t.h n7 = some ⟨0, 0, [.str x.1, .ro x.2.length (fl stepCd x.2)], none⟩ ∧
  Not' (noStep p x) x.2 j
theorem CheckProcs_ok (p : List Prc) (hok : ∀ x ∈ p, procOk x) : OkF Try.prog 19 [.ro p.length (fl procCd p)] (.int .i64 (procsE p), []) := by
  refine OkF.W0 hm h19 (of_decide_eq_true rfl) ?_
  unfold c19
  simp -dsimp
  refine condK_of ?_ ?_ <;> intro q <;> simp -dsimp
  · have : 50 < p.length := by simp at q; omega
    simp [procsE, this]
  have h50 : p.length ≤ 50 := by simp at q; omega
  refine for_lt p.length (fun k t => t.t 0 = .ro p.length (fl procCd p) ∧ t.t 14 = .ro p.length (fl procCd p) ∧ fe (procsE1 p) k = 0) rfl (by omega) (by simp -dsimp [fe]) (by simp -dsimp) (by simp -dsimp) (fun k t hk hI hi hn => ?_) (fun t hI hi hn => ?_)
  · obtain ⟨i0, i14, iu⟩ := hI
    have hg : p[k]? = some p[k] := List.getElem?_eq_getElem hk
    have hmem := List.getElem_mem hk
    generalize p[k] = x at hg hmem
    obtain ⟨z, hz⟩ := prev_get hg
    have hwj : 0 < k → IntKind.i64.wrap ((k : Int) - 1) = ((k - 1 : Nat) : Int) := fun h => wrap_pred h (by omega)
    have hch : procsE1 p k = if procE x ≠ 0 then procE x else if before p (fun y => leS x.1 y.1) k then 8 else 0 := by unfold procsE1; rw [hg]
    unfold k19_0
    simp -dsimp [i0, i14, hi, hn, proc_ia hg, proc_ld hg]
    refine call_int (checkProc_ok x.1 x.2 (hok x hmem).2) ?_
    have hpe : procE (x.1, x.2) = procE x := rfl
    rw [hpe]
    simp -dsimp
    refine condK_of ?_ ?_ <;> intro a1 <;> simp -dsimp
    · simp at a1
      rw [procsE_first h50 iu hk (by rw [hch, if_pos a1]) a1]
    simp at a1
    refine wantT_of ?_ ?_ <;> intro a2 <;> simp -dsimp [a2, i0, i14, hi, hn]
    · have hp : 0 < k := by simpa using a2
      simp -dsimp [hwj hp, proc_ia (hz hp), proc_l0 (hz hp)]
      refine condK_of ?_ ?_ <;> intro a3 <;> simp -dsimp [i0, i14, hi, hn]
      · rw [procsE_first h50 iu hk (v := 8) (by rw [hch, before_pos hp (hz hp)]; simp_all) (by decide)]
      · exact fe_step iu (by rw [hch, before_pos hp (hz hp)]; simp_all)
    · have hp : ¬ 0 < k := by simpa using a2
      exact fe_step iu (by rw [hch, before_zero hp]; simp_all)
  · obtain ⟨i0, i14, h0⟩ := hI
    have hR := right1 h0
    simp -dsimp [i0]
    refine for_lt p.length (fun k t => t.t 0 = .ro p.length (fl procCd p) ∧ t.t 40 = .ro p.length (fl procCd p) ∧ Not' (noProc p) p k) rfl (by omega) (by simp -dsimp [Not'.zero, i0]) (by simp -dsimp) (by simp -dsimp) (fun k t hk hI hi hn => ?_) (fun t hI hi hn => ?_)
    · obtain ⟨i0, i40, iu⟩ := hI
      have hg : p[k]? = some p[k] := List.getElem?_eq_getElem hk
      have hmem := List.getElem_mem hk
      generalize p[k] = x at hg hmem
      have hxl := (hR.steps x hmem).1
      unfold k19_2
      simp -dsimp [i0, i40, hi, hn, proc_ia hg, proc_ld hg]
      refine for_lt x.2.length (fun j s => PI2 p x k k j t.nx s) rfl (by omega) ⟨by simp -dsimp [i0], by simp -dsimp [i40], by simp -dsimp [hn], by simp -dsimp [hi], by simp -dsimp, by simp -dsimp, by simp -dsimp, by simp -dsimp, Not'.zero _ _⟩ (by simp -dsimp) (by simp -dsimp) (fun j s hj hJ hji hjn => ?_) (fun s hJ hji hjn => ?_)
      · obtain ⟨j0, j40, j41, j42, j47, j7, jc, jh, ju⟩ := hJ
        have hgj : x.2[j]? = some x.2[j] := List.getElem?_eq_getElem hj
        have hmj : x.2[j] ∈ x.2 := List.getElem_mem hj
        generalize x.2[j] = y at hgj hmj
        have hne : t.nx ≠ s.nx := by omega
        have bad : noStep p x y = true → procsE p = 9 := fun h => procsE_none h50 h0 (any_stop hg (any_stop hgj h))
        have good : noStep p x y = false → ∀ s' : St, s'.t 0 = s.t 0 → s'.t 40 = s.t 40 → s'.t 41 = s.t 41 → s'.t 42 = s.t 42 → s'.t 47 = s.t 47 → s'.t 7 = s.t 7 → s.nx ≤ s'.nx → s'.h t.nx = s.h t.nx → PI2 p x k k (j + 1) t.nx s' := fun h s' e0 e1 e2 e3 e4 e5 e6 e7 => ⟨by rw [e0]; exact j0, by rw [e1]; exact j40, by rw [e2]; exact j41, by rw [e3]; exact j42, by rw [e4]; exact j47, by rw [e5]; exact j7, by omega, by rw [e7]; exact jh, ju.succ hgj h⟩
        unfold k19_1
        simp -dsimp [j0, j40, j41, j42, j47, j7, jh, hji, hjn, hne, step_ia hgj, step_ld hgj, stepV]
        refine call_bool (goesTo_ok y) ?_
        simp -dsimp
        repeat' (first
          | (refine condK_of ?_ ?_ <;> intro q <;> simp -dsimp [q, j0, j40, j41, j42, j47, j7, jh, hji, hjn, hne])
          | (refine wantT_of ?_ ?_ <;> intro q <;> simp -dsimp [q, j0, j40, j41, j42, j47, j7, jh, hji, hjn, hne])
          | (refine wantF_of ?_ ?_ <;> intro q <;> simp -dsimp [q, j0, j40, j41, j42, j47, j7, jh, hji, hjn, hne])
          | (refine call_int (labelAt_ok x.2 _ (by omega)) ?_; simp -dsimp [j0, j40, j41, j42, j47, j7, jh, hji, hjn, hne])
          | (refine call_int (procAt_ok p _ (by omega)) ?_; simp -dsimp [j0, j40, j41, j42, j47, j7, jh, hji, hjn, hne]))
        all_goals first
          | (rw [bad (by simp_all [noStep])]; done)
          | (exact good (by simp_all [noStep]) _ (by simp -dsimp) (by simp -dsimp) (by simp -dsimp) (by simp -dsimp) (by simp -dsimp) (by simp -dsimp) (by simp -dsimp) (by simp -dsimp [hne]))
          | (refine ⟨?_, good (by simp_all [noStep]) _ (by simp -dsimp) (by simp -dsimp) (by simp -dsimp) (by simp -dsimp) (by simp -dsimp) (by simp -dsimp) (by simp -dsimp) (by simp -dsimp [hne])⟩; simp_all)
      · obtain ⟨j0, j40, j41, j42, j47, j7, jc, jh, ju⟩ := hJ
        simp -dsimp [j0, j40, j41, j42]
        exact iu.succ hg (any_none ju)
    · obtain ⟨i0, i40, iu⟩ := hI
      have h1 := any_none iu
      have hres := no_res h1
      simp -dsimp [i0]
      refine for_lt p.length (fun k t => t.t 0 = .ro p.length (fl procCd p) ∧ ∀ i, i < k → loopB p i = false) rfl (by omega) (by simp -dsimp [i0]) (by simp -dsimp) (by simp -dsimp) (fun k t hk hI hi hn => ?_) (fun t hI hi hn => ?_)
      · obtain ⟨i0, iu⟩ := hI
        obtain ⟨out, ⟨hol, hout⟩, hcalls⟩ := calls_ok p k hk h50 (fun x hx => (hR.steps x hx).1) hres
        unfold k19_3
        simp -dsimp [i0, hi, hn]
        refine call_one hcalls (okRes_of (by simp)) ?_
        simp -dsimp
        refine call_bool (contains_int hm h43 h97 out (by omega) _) ?_
        simp -dsimp
        refine condK_of ?_ ?_ <;> intro q2 <;> simp -dsimp [i0, hi, hn]
        · have : loopB p k = true := by
            unfold loopB
            simpa using (hout k).1 (by simpa using q2)
          rw [procsE_loop h50 h0 h1 hk this]
        · intro i hik
          by_cases e : i = k
          · subst e
            unfold loopB
            simp only [decide_eq_false_iff_not]
            intro h
            have := (hout i).2 h
            simp [this] at q2
          · exact iu i (by omega)
      · simp -dsimp
        rw [procsE_ok h50 h0 h1 hI.2]
end Go.Proofs.P6
end
section
set_option linter.unusedVariables false
set_option linter.unusedSimpArgs false
set_option maxRecDepth 10000
set_option maxHeartbeats 8000000
namespace Go.Proofs.P6
open Go.Ex
def noStepR (p : List Prc) (x : Prc) (s : Step) : Bool := (decide (s.1 = 6) && decide (prI p s.2.1 < 0)) || (!decide (s.1 = 6) && !decide (s.2.2.1 = []) && decide (ixI (isLab s.2.2.1) x.2 < 0))
theorem nm_ne {s : List UInt8} (h : nm s = true) : s ≠ [] := by
  intro e
  subst e
  cases h
theorem noStep_eq {p : List Prc} {x : Prc} {s : Step} (h : stepE s = 0) (hs : s ∈ x.2) : noStepR p x s = noStep p x s := by
  have h8 : s.1 = 8 → decide (ixI (isLab s.2.2.1) x.2 < 0) = false := fun e => by
    rw [decide_eq_false_iff_not, ixI_neg, List.any_eq_false]
    intro q
    have := q s hs
    simp [isLab, e] at this
  obtain ⟨k, t, la, n, nt⟩ := s
  unfold stepE at h
  simp only at h h8
  split at h
  · cases h
  · rename_i h1
    split at h
    · cases h
    · rename_i h2
      split at h
      · cases h
      · split at h
        · cases h
        · split at h
          · cases h
          · rename_i h5
            have h5' : laB k = true → la ≠ [] := fun e => nm_ne (by simpa [e] using h5)
            unfold formB at h2
            simp only at h2
            rcases kinds8 k with rfl | rfl | rfl | rfl | rfl | rfl | rfl | rfl | ⟨_, _, _, _, _, _, _, _, h9⟩
            all_goals simp_all [noStepR, noStep, goB, laB]
def QI2 (p : List Prc) (x : Prc) (i j : Nat) (t : St) : Prop := t.t 7 = .int .i64 j ∧ t.t 0 = .ro p.length (fl procCd p) ∧ t.t 6 = .int .i64 i ∧ Not' (noStepR p x) x.2 j
theorem CheckProcsRef_ok (p : List Prc) (hok : ∀ x ∈ p, procOk x) : OkF Try.prog 20 [.ro p.length (fl procCd p)] (.int .i64 (procsE p), []) := by
  refine OkF.W0 hm h20 (of_decide_eq_true rfl) ?_
  unfold c20
  simp -dsimp
  refine condK_of ?_ ?_ <;> intro q <;> simp -dsimp
  · have : 50 < p.length := by simp at q; omega
    simp [procsE, this]
  have h50 : p.length ≤ 50 := by simp at q; omega
  refine loop_to 3 p.length (fun k t => t.t 3 = .int .i64 k ∧ t.t 0 = .ro p.length (fl procCd p) ∧ fe (procsE1 p) k = 0) (fun k t h => h.1) (by simp -dsimp [fe]) (fun k t hk hI => ?_)
  obtain ⟨i3, i0, iu⟩ := hI
  unfold l20_1
  by_cases hlt : k < p.length
  · have hlt' : (k : Int) < (p.length : Int) := by omega
    have hw : IntKind.i64.wrap ((k : Int) + 1) = (k : Int) + 1 := IntWalk.i64_in _ (by omega)
    have hg : p[k]? = some p[k] := List.getElem?_eq_getElem hlt
    have hmem := List.getElem_mem hlt
    generalize p[k] = x at hg hmem
    have hxo := hok x hmem
    obtain ⟨z, hz⟩ := prev_get hg
    have hwj : 0 < k → IntKind.i64.wrap ((k : Int) - 1) = ((k - 1 : Nat) : Int) := fun h => wrap_pred h (by omega)
    have hch : procsE1 p k = if procE x ≠ 0 then procE x else if before p (fun y => leS x.1 y.1) k then 8 else 0 := by unfold procsE1; rw [hg]
    have bad : ∀ v, procE x = v → v ≠ 0 → procsE p = v := fun v h h' => procsE_first h50 iu hlt (by rw [hch, h, if_pos h']) h'
    simp -dsimp [i3, i0, hlt', proc_ia hg, proc_l0 hg]
    refine call_bool (isName_ok _ hxo.1) ?_
    simp -dsimp
    refine condK_of ?_ ?_ <;> intro a1 <;> simp -dsimp [i3, i0, proc_ia hg, proc_l1 hg]
    · rw [bad 5 (by unfold procE; simp at a1; simp [a1]) (by decide)]
    refine condK_of ?_ ?_ <;> intro a2 <;> simp -dsimp [i3, i0, proc_ia hg, proc_l1 hg]
    · rw [bad 2 (by unfold procE; simp at a1 a2; simp [a1]; omega) (by decide)]
    have hxl : x.2.length ≤ 200 := by simp at a2; omega
    have hE : procE x = fe (stE x.2) x.2.length := by
      unfold procE
      simp at a1
      rw [if_neg (by simp [a1]), if_neg (by omega)]
    refine loop_to 4 x.2.length (fun j s => s.t 4 = .int .i64 j ∧ s.t 3 = .int .i64 k ∧ s.t 0 = .ro p.length (fl procCd p) ∧ fe (stE x.2) j = 0) (fun k t h => h.1) (by simp -dsimp [fe, i3, i0]) (fun j s hj hJ => ?_)
    obtain ⟨j4, j3, j0, ju⟩ := hJ
    unfold l20_0
    by_cases hjt : j < x.2.length
    · have hjt' : (j : Int) < (x.2.length : Int) := by omega
      have hwj : IntKind.i64.wrap ((j : Int) + 1) = (j : Int) + 1 := IntWalk.i64_in _ (by omega)
      have hgj : x.2[j]? = some x.2[j] := List.getElem?_eq_getElem hjt
      have hmj : x.2[j] ∈ x.2 := List.getElem_mem hjt
      generalize x.2[j] = y at hgj hmj
      simp -dsimp [j4, j3, j0, hjt', proc_ia hg, proc_l1 hg, proc_ld hg]
      refine call_int (checkStepRef_ok x.1 x.2 j y hgj (hxo.2 y hmj) (by omega)) ?_
      simp -dsimp
      refine condK_of ?_ ?_ <;> intro a3 <;> simp -dsimp [j4, j3, j0, hwj, hjt]
      · have a3' : stE x.2 j ≠ 0 := by simpa using a3
        rw [bad (stE x.2 j) (by rw [hE, fe_stop ju a3' hjt]) a3']
      · exact fe_step ju (by simpa using a3)
    · have hjl : j = x.2.length := by omega
      subst hjl
      simp -dsimp [j4, j3, j0, proc_ia hg, proc_l1 hg, proc_l0 hg]
      have hp0 : procE x = 0 := by rw [hE]; exact ju
      refine wantT_of ?_ ?_ <;> intro a4 <;> simp -dsimp [a4, j4, j3, j0, hw, hlt, proc_ia hg, proc_l0 hg]
      · have hp : 0 < k := by simpa using a4
        simp -dsimp [hwj hp, proc_ia (hz hp), proc_l0 (hz hp)]
        refine condK_of ?_ ?_ <;> intro a5 <;> simp -dsimp [j4, j3, j0, hw, hlt]
        · rw [procsE_first h50 iu hlt (v := 8) (by rw [hch, before_pos hp (hz hp)]; simp_all) (by decide)]
        · exact fe_step iu (by rw [hch, before_pos hp (hz hp)]; simp_all)
      · have hp : ¬ 0 < k := by simpa using a4
        exact fe_step iu (by rw [hch, before_zero hp]; simp_all)
  · have hkl : k = p.length := by omega
    subst hkl
    have hR := right1 iu
    have h0 := iu
    have heq : ∀ x ∈ p, x.2.any (noStepR p x) = noProc p x := fun x hx => by
      unfold noProc
      rw [Bool.eq_iff_iff, List.any_eq_true, List.any_eq_true]
      constructor
      · rintro ⟨s, h1, h2⟩
        exact ⟨s, h1, by rw [← noStep_eq ((hR.steps x hx).2.2 s h1) h1]; exact h2⟩
      · rintro ⟨s, h1, h2⟩
        exact ⟨s, h1, by rw [noStep_eq ((hR.steps x hx).2.2 s h1) h1]; exact h2⟩
    simp -dsimp [i3, i0]
    refine loop_to 6 p.length (fun k t => t.t 6 = .int .i64 k ∧ t.t 0 = .ro p.length (fl procCd p) ∧ Not' (noProc p) p k) (fun k t h => h.1) (by simp -dsimp [Not'.zero, i0]) (fun k t hk hI => ?_)
    obtain ⟨i6, i0, iu⟩ := hI
    unfold l20_3
    by_cases hlt : k < p.length
    · have hlt' : (k : Int) < (p.length : Int) := by omega
      have hw : IntKind.i64.wrap ((k : Int) + 1) = (k : Int) + 1 := IntWalk.i64_in _ (by omega)
      have hg : p[k]? = some p[k] := List.getElem?_eq_getElem hlt
      have hmem := List.getElem_mem hlt
      generalize p[k] = x at hg hmem
      have hxl := (hR.steps x hmem).1
      simp -dsimp [i6, i0, hlt', proc_ia hg]
      refine loop_to 7 x.2.length (fun j s => QI2 p x k j s) (fun k t h => h.1) ⟨by simp -dsimp, by simp -dsimp [i0], by simp -dsimp [i6], Not'.zero _ _⟩ (fun j s hj hJ => ?_)
      obtain ⟨j7, j0, j6, ju⟩ := hJ
      unfold l20_2
      by_cases hjt : j < x.2.length
      · have hjt' : (j : Int) < (x.2.length : Int) := by omega
        have hwj : IntKind.i64.wrap ((j : Int) + 1) = (j : Int) + 1 := IntWalk.i64_in _ (by omega)
        have hgj : x.2[j]? = some x.2[j] := List.getElem?_eq_getElem hjt
        have hmj : x.2[j] ∈ x.2 := List.getElem_mem hjt
        generalize x.2[j] = y at hgj hmj
        have bad : noStepR p x y = true → procsE p = 9 := fun h => procsE_none h50 h0 (any_stop hg (by rw [← heq x hmem]; exact any_stop hgj h))
        have good : noStepR p x y = false → ∀ s' : St, s'.t 7 = .int .i64 ((j : Int) + 1) → s'.t 0 = s.t 0 → s'.t 6 = s.t 6 → QI2 p x k (j + 1) s' := fun h s' e0 e1 e2 => ⟨by rw [e0]; simp, by rw [e1]; exact j0, by rw [e2]; exact j6, ju.succ hgj h⟩
        simp -dsimp [j7, j0, j6, hjt', proc_ia hg, proc_l1 hg, proc_ld hg, step_ia hgj, step_ld hgj, stepV]
        repeat' (first
          | (refine condK_of ?_ ?_ <;> intro q <;> simp -dsimp [q, j7, j0, j6, hwj, hjt, proc_ia hg, proc_ld hg, disj, idOf])
          | (refine wantT_of ?_ ?_ <;> intro q <;> simp -dsimp [q, j7, j0, j6, hwj, hjt, proc_ia hg, proc_ld hg, disj, idOf])
          | (refine wantF_of ?_ ?_ <;> intro q <;> simp -dsimp [q, j7, j0, j6, hwj, hjt, proc_ia hg, proc_ld hg, disj, idOf])
          | (refine call_int (labelOf_ok x.1 x.2 _ (by omega)) ?_; simp -dsimp [j7, j0, j6, hwj, hjt, proc_ia hg, proc_ld hg, disj, idOf])
          | (refine call_int (procOf_ok p _ (by omega)) ?_; simp -dsimp [j7, j0, j6, hwj, hjt, proc_ia hg, proc_ld hg, disj, idOf]))
        all_goals first
          | (rw [bad (by simp_all [noStepR])]; done)
          | (exact good (by simp_all [noStepR]) _ (by simp -dsimp) (by simp -dsimp) (by simp -dsimp))
      · have hjl : j = x.2.length := by omega
        subst hjl
        simp -dsimp [j7, j0, j6, hw, hlt, proc_ia hg, proc_l1 hg]
        exact iu.succ hg (by rw [← heq x hmem]; exact any_none ju)
    · have hkl : k = p.length := by omega
      subst hkl
      have h1 := any_none iu
      have hres := no_res h1
      simp -dsimp [i6, i0]
      refine loop_to 9 p.length (fun k t => t.t 9 = .int .i64 k ∧ t.t 0 = .ro p.length (fl procCd p) ∧ ∀ i, i < k → loopB p i = false) (fun k t h => h.1) (by simp -dsimp [i0]) (fun k t hk hI => ?_)
      obtain ⟨i9, i0, iu⟩ := hI
      unfold l20_4
      by_cases hlt : k < p.length
      · have hlt' : (k : Int) < (p.length : Int) := by omega
        have hw : IntKind.i64.wrap ((k : Int) + 1) = (k : Int) + 1 := IntWalk.i64_in _ (by omega)
        have hg : p[k]? = some p[k] := List.getElem?_eq_getElem hlt
        generalize p[k] = x at hg
        have hpr := hR.pr hg
        have hcl : OkF Try.prog 63 [.ro p.length (fl procCd p), .str x.1, .str x.1] (.bool (loopB p k), []) := by
          have := called_ok p x.1 x.1 (by omega) (by omega) h50 (fun x hx => (hR.steps x hx).1) hres
          rw [hpr] at this
          exact this
        simp -dsimp [i9, i0, hlt', proc_ia hg, proc_l0 hg]
        refine call_bool hcl ?_
        simp -dsimp
        refine condK_of ?_ ?_ <;> intro q2 <;> simp -dsimp [i9, i0, hw, hlt]
        · rw [procsE_loop h50 h0 h1 hlt q2]
        · intro i hik
          by_cases e : i = k
          · subst e; exact q2
          · exact iu i (by omega)
      · have hkl : k = p.length := by omega
        subst hkl
        simp -dsimp [i9, i0]
        rw [procsE_ok h50 h0 h1 iu]
end Go.Proofs.P6
end
section
set_option linter.unusedVariables false
set_option linter.unusedSimpArgs false
set_option maxRecDepth 10000
set_option maxHeartbeats 16000000
namespace Go.Proofs.P6
open Go.Ex
/-- Proc, Step, Until. -/
abbrev Place := List UInt8 × Int × Int
def placeCd : Cd Place := .pair .str (.pair (.int .i64) (.int .i64))
def placeV (x : Place) : List V := [.str x.1, .int .i64 x.2.1, .int .i64 x.2.2]
section
variable {h : Hp} {k : Nat} {kk : IntKind} {K : V → List Nat → Prop} {l : List Place} {a : Place}
theorem place_ia (e : l[k]? = some a) : iaddrK h (.ro l.length (fl placeCd l)) (.int kk k) 3 K ⟨⟩ = K (.rp (fl placeCd l) (k * 3)) [] := iaddr_fl rfl (by decide) e
theorem place_ld (e : l[k]? = some a) : ldA h (.rp (fl placeCd l) (k * 3)) (some 3) = some (.agg (placeV a)) := ld_fls (n := 3) rfl e
theorem place_l0 (e : l[k]? = some a) : ldA h (.rp (fl placeCd l) (k * 3)) none = some (.str a.1) := ld_fl0 (n := 3) rfl (by decide) e
theorem place_l1 (e : l[k]? = some a) : ldA h (.rp (fl placeCd l) (k * 3 + 1)) none = some (.int .i64 a.2.1) := ld_fl (n := 3) rfl (by decide) e
theorem place_l2 (e : l[k]? = some a) : ldA h (.rp (fl placeCd l) (k * 3 + 2)) none = some (.int .i64 a.2.2) := ld_fl (n := 3) rfl (by decide) e
end
theorem equalPlace_ok (l m : List Place) (hl : l.length < 2 ^ 62) : OkF Try.prog 21 [.ro l.length (fl placeCd l), .ro m.length (fl placeCd m)] (.bool (decide (l = m)), []) :=
  equal_ok (d := placeCd) (esz := 3) hm h21 rfl (by decide) (fun a b => by
    obtain ⟨a1, a2, a3⟩ := a
    obtain ⟨b1, b2, b3⟩ := b
    show seqA true [2, 0, 0] (.agg [.str a1, .int .i64 a2, .int .i64 a3]) (.agg [.str b1, .int .i64 b2, .int .i64 b3]) = _
    simp [seqA, tagOf, eqCells]
    rw [Bool.eq_iff_iff]
    simp) l m hl
noncomputable def startE (p : List Prc) (s : List UInt8) : List Place × Int := if procsE p ≠ 0 then ([], procsE p) else if prI p s < 0 then ([], 9) else ([(s, 0, -1)], 0)
theorem start_len (p : List Prc) (s : List UInt8) : (startE p s).1.length ≤ 1 := by
  unfold startE
  split
  · simp
  · split <;> simp
theorem Start_ok (p : List Prc) (s : List UInt8) (hok : ∀ x ∈ p, procOk x) (hl : p.length < 2 ^ 62) : OkF Try.prog 17 [.ro p.length (fl procCd p), .str s] (.tup [.ro (startE p s).1.length (fl placeCd (startE p s).1), .int .i64 (startE p s).2], []) := by
  refine OkF.W0 hm h17 (of_decide_eq_true rfl) ?_
  unfold c17
  simp -dsimp
  refine call_int (CheckProcs_ok p hok) ?_
  simp -dsimp
  refine condK_of ?_ ?_ <;> intro q <;> simp -dsimp
  · have : procsE p ≠ 0 := by simpa using q
    simp [startE, this, fl_nil]
  have hz : procsE p = 0 := by simpa using q
  refine call_int (procAt_ok p s hl) ?_
  simp -dsimp
  refine condK_of ?_ ?_ <;> intro q1 <;> simp -dsimp
  · have : prI p s < 0 := by simpa using q1
    simp [startE, hz, this, fl_nil]
  have h1 : ¬ prI p s < 0 := by simpa using q1
  have e : startE p s = ([(s, 0, -1)], 0) := by unfold startE; rw [if_neg (by simp [hz]), if_neg h1]
  rw [e]
  simp -dsimp [fillS, fillA]
  rfl
theorem StartRef_ok (p : List Prc) (s : List UInt8) (hok : ∀ x ∈ p, procOk x) (hl : p.length < 2 ^ 62) : OkF Try.prog 18 [.ro p.length (fl procCd p), .str s] (.tup [.ro (startE p s).1.length (fl placeCd (startE p s).1), .int .i64 (startE p s).2], []) := by
  refine OkF.W0 hm h18 (of_decide_eq_true rfl) ?_
  unfold c18
  simp -dsimp
  refine call_int (CheckProcsRef_ok p hok) ?_
  simp -dsimp
  refine condK_of ?_ ?_ <;> intro q <;> simp -dsimp
  · have : procsE p ≠ 0 := by simpa using q
    simp [startE, this, fl_nil]
  have hz : procsE p = 0 := by simpa using q
  refine call_int (procOf_ok p s hl) ?_
  simp -dsimp
  refine condK_of ?_ ?_ <;> intro q1 <;> simp -dsimp
  · have : prI p s < 0 := by simpa using q1
    simp [startE, hz, this, fl_nil]
  have h1 : ¬ prI p s < 0 := by simpa using q1
  have e : startE p s = ([(s, 0, -1)], 0) := by unfold startE; rw [if_neg (by simp [hz]), if_neg h1]
  rw [e]
  simp -dsimp [fillS, fillA]
  rfl
/-- The kind of a step is so. -/
def kindAt (l : List Step) (n : Nat) (f : Step → Bool) : Bool := match l[n]? with
  | some y => f y
  | none => false
def waitsB (y : Step) : Bool := decide (y.1 = 2) || decide (y.1 = 3)
def nextIs (s : List Place) (k : Nat) (t : List UInt8) : Bool := match s[k + 1]? with
  | some y => decide (t = y.1)
  | none => false
def placeE (p : List Prc) (s : List Place) (k : Nat) : Int := match s[k]? with
  | none => 0
  | some x => match p[(prI p x.1).toNat]? with
    | none => 9
    | some pr => if prI p x.1 < 0 then 9 else if !inB x.2.1 0 pr.2.length || !inB x.2.2 (-1) 1001000000000 then 1
      else if decide (0 ≤ x.2.2) && !(decide (k + 1 = s.length) && kindAt pr.2 x.2.1.toNat waitsB) then 11
      else if !decide (k + 1 = s.length) && !(decide (0 < x.2.1) && kindAt pr.2 (x.2.1.toNat - 1) (fun y => decide (y.1 = 6) && nextIs s k y.2.1)) then 11 else 0
noncomputable def placesE (p : List Prc) (s : List Place) : Int := if procsE p ≠ 0 then procsE p else if 50 < s.length then 2 else fe (placeE p s) s.length
theorem procs_le {p : List Prc} (h : procsE p = 0) : p.length ≤ 50 := by
  unfold procsE at h
  split at h
  · cases h
  · omega
theorem placeE_eq {p : List Prc} {s : List Place} {k : Nat} {pn : List UInt8} {st un : Int} {pr : Prc} (hg : s[k]? = some (pn, st, un)) (hpr : p[(prI p pn).toNat]? = some pr) (h0 : 0 ≤ prI p pn) : placeE p s k = if !inB st 0 pr.2.length || !inB un (-1) 1001000000000 then 1
      else if decide (0 ≤ un) && !(decide (k + 1 = s.length) && kindAt pr.2 st.toNat waitsB) then 11
      else if !decide (k + 1 = s.length) && !(decide (0 < st) && kindAt pr.2 (st.toNat - 1) (fun y => decide (y.1 = 6) && nextIs s k y.2.1)) then 11 else 0 := by
  unfold placeE
  rw [hg]
  simp only
  rw [hpr]
  simp only
  rw [if_neg (by omega)]
theorem placeE_neg {p : List Prc} {s : List Place} {k : Nat} {pn : List UInt8} {st un : Int} (hg : s[k]? = some (pn, st, un)) (h0 : prI p pn < 0) : placeE p s k = 9 := by
  unfold placeE
  rw [hg]
  simp only
  split
  · rfl
  · rw [if_pos h0]
theorem places_proc {p : List Prc} (hz : procsE p = 0) : Right1 p := right1 (by
  have h5 := procs_le hz
  rw [procsE_of h5] at hz
  split at hz
  · rename_i q; exact absurd hz q
  · rename_i q; simpa using q)
theorem CheckPlaces_ok (p : List Prc) (s : List Place) (hok : ∀ x ∈ p, procOk x) (hl : p.length < 2 ^ 62) : OkF Try.prog 22 [.ro p.length (fl procCd p), .ro s.length (fl placeCd s)] (.int .i64 (placesE p s), []) := by
  refine OkF.W0 hm h22 (of_decide_eq_true rfl) ?_
  unfold c22
  simp -dsimp
  refine call_int (CheckProcs_ok p hok) ?_
  simp -dsimp
  refine condK_of ?_ ?_ <;> intro q <;> simp -dsimp
  · have : procsE p ≠ 0 := by simpa using q
    simp [placesE, this]
  have hz : procsE p = 0 := by simpa using q
  have hR := places_proc hz
  refine condK_of ?_ ?_ <;> intro q1 <;> simp -dsimp
  · have : 50 < s.length := by simp at q1; omega
    simp [placesE, hz, this]
  have h50 : s.length ≤ 50 := by simp at q1; omega
  have hE : placesE p s = fe (placeE p s) s.length := by unfold placesE; rw [if_neg (by simp [hz]), if_neg (by omega)]
  refine for_lt s.length (fun k t => t.t 0 = .ro p.length (fl procCd p) ∧ t.t 1 = .ro s.length (fl placeCd s) ∧ t.t 19 = .ro s.length (fl placeCd s) ∧ fe (placeE p s) k = 0) rfl (by omega) (by simp -dsimp [fe]) (by simp -dsimp) (by simp -dsimp) (fun k t hk hI hi hn => ?_) (fun t hI hi hn => ?_)
  · obtain ⟨i0, i1, i19, iu⟩ := hI
    have hg : s[k]? = some s[k] := List.getElem?_eq_getElem hk
    generalize s[k] = x at hg
    obtain ⟨pn, st, un⟩ := x
    have bad : ∀ v, placeE p s k = v → v ≠ 0 → placesE p s = v := fun v h1 h2 => by rw [hE, fe_stop iu (by rw [h1]; exact h2) hk, h1]
    have hw2 : IntKind.i64.wrap ((k : Int) + 1) = ((k + 1 : Nat) : Int) := by rw [IntWalk.i64_in _ (by omega)]; simp
    unfold k22_0
    simp -dsimp [i0, i1, i19, hi, hn, place_ia hg, place_ld hg, placeV]
    refine call_int (procAt_ok p _ hl) ?_
    simp -dsimp
    refine condK_of ?_ ?_ <;> intro a1 <;> simp -dsimp [i0, i1, i19, hi, hn]
    · rw [bad 9 (placeE_neg hg (by simpa using a1)) (by decide)]
    have hp0 : 0 ≤ prI p pn := by simpa using a1
    obtain ⟨pr, hpr, _⟩ := prI_get hp0
    have hch := placeE_eq hg hpr hp0
    have hpc : ((prI p pn).toNat : Int) = prI p pn := by omega
    have hia : ∀ h K, iaddrK h (.ro p.length (fl procCd p)) (.int .i64 (prI p pn)) 2 K ⟨⟩ = K (.rp (fl procCd p) ((prI p pn).toNat * 2)) [] := fun h K => by
      have := proc_ia (h := h) (kk := .i64) (K := K) hpr
      rw [hpc] at this
      exact this
    simp -dsimp [hia, proc_l1 hpr, i0, i1, i19, hi, hn]
    refine call_bool (inB_ok _ _ _) ?_
    simp -dsimp
    by_cases b1 : inB st 0 pr.2.length = true
    · obtain ⟨n, rfl⟩ : ∃ n : Nat, st = n := ⟨st.toNat, by unfold inB at b1; simp at b1; omega⟩
      have hnl : n ≤ pr.2.length := by unfold inB at b1; simp at b1; omega
      have hlen : pr.2.length ≤ 200 := (hR.steps pr (List.mem_of_getElem? hpr)).1
      have hw1 : IntKind.i64.wrap ((s.length : Int) - 1) = (s.length : Int) - 1 := IntWalk.i64_in _ (by omega)
      simp -dsimp [b1, i0, i1, i19, hi, hn]
      refine call_bool (inB_ok _ _ _) ?_
      simp -dsimp [i0, i1, i19, hi, hn, hw1]
      refine condK_of ?_ ?_ <;> intro a2 <;> simp -dsimp [i0, i1, i19, hi, hn, hw1]
      · rw [bad 1 (by rw [hch]; simp at a2; simp [a2]) (by decide)]
      simp at a2
      have hu1 : -1 ≤ un := by unfold inB at a2; simp at a2; omega
      simp only [Int.toNat_natCast, b1, a2, Bool.not_true, Bool.or_self] at hch
      by_cases hL : k + 1 = s.length
      · have hL' : decide ((k : Int) = (s.length : Int) - 1) = true := by simp; omega
        rcases Nat.lt_or_ge n pr.2.length with hlt | hge
        · have hgy : pr.2[n]? = some pr.2[n] := List.getElem?_eq_getElem hlt
          generalize pr.2[n] = y at hgy
          have hne : ¬ (n : Int) = (pr.2.length : Int) := by omega
          have hlt2 : (n : Int) < (pr.2.length : Int) := by omega
          try simp -dsimp [i0, i1, i19, hi, hn, hw1, hL', hne, hlt2, step_ia hgy, step_l0 hgy]
          repeat' (first
            | (refine condK_of ?_ ?_ <;> intro q <;> simp -dsimp [q, i0, i1, i19, hi, hn, hw1, hL', hne, hlt2, step_ia hgy, step_l0 hgy, hw2])
            | (refine wantT_of ?_ ?_ <;> intro q <;> simp -dsimp [q, i0, i1, i19, hi, hn, hw1, hL', hne, hlt2, step_ia hgy, step_l0 hgy, hw2])
            | (refine wantF_of ?_ ?_ <;> intro q <;> simp -dsimp [q, i0, i1, i19, hi, hn, hw1, hL', hne, hlt2, step_ia hgy, step_l0 hgy, hw2]))
          all_goals first
            | (rw [bad 11 (by rw [hch]; simp_all [kindAt, waitsB]; try omega) (by decide)]; done)
            | (refine fe_step iu ?_; rw [hch]; simp_all [kindAt, waitsB]; try omega)
        · have hnl : n = pr.2.length := by omega
          subst hnl
          have hgy : pr.2[pr.2.length]? = none := List.getElem?_eq_none (by omega)
          try simp -dsimp [i0, i1, i19, hi, hn, hw1, hL']
          repeat' (first
            | (refine condK_of ?_ ?_ <;> intro q <;> simp -dsimp [q, i0, i1, i19, hi, hn, hw1, hL', hw2])
            | (refine wantT_of ?_ ?_ <;> intro q <;> simp -dsimp [q, i0, i1, i19, hi, hn, hw1, hL', hw2])
            | (refine wantF_of ?_ ?_ <;> intro q <;> simp -dsimp [q, i0, i1, i19, hi, hn, hw1, hL', hw2]))
          all_goals first
            | (rw [bad 11 (by rw [hch]; simp_all [kindAt, waitsB]; try omega) (by decide)]; done)
            | (refine fe_step iu ?_; rw [hch]; simp_all [kindAt, waitsB]; try omega)
      · have hL' : ¬ (k : Int) = (s.length : Int) - 1 := by omega
        have hgz : s[k + 1]? = some (s[k + 1]'(by omega)) := List.getElem?_eq_getElem (by omega)
        generalize s[k + 1]'(by omega) = z at hgz
        have hzia : ∀ h K, iaddrK h (.ro s.length (fl placeCd s)) (.int .i64 ((k : Int) + 1)) 3 K ⟨⟩ = K (.rp (fl placeCd s) ((k + 1) * 3)) [] := fun h K => by
          have := place_ia (h := h) (kk := .i64) (K := K) hgz
          simpa using this
        skip
        rcases n with _ | n
        · try simp -dsimp [i0, i1, i19, hi, hn, hw1, hL']
          repeat' (first
            | (refine condK_of ?_ ?_ <;> intro q <;> simp -dsimp [q, i0, i1, i19, hi, hn, hw1, hL', hw2,])
            | (refine wantT_of ?_ ?_ <;> intro q <;> simp -dsimp [q, i0, i1, i19, hi, hn, hw1, hL', hw2,])
            | (refine wantF_of ?_ ?_ <;> intro q <;> simp -dsimp [q, i0, i1, i19, hi, hn, hw1, hL', hw2,]))
          all_goals first
            | (rw [bad 11 (by rw [hch]; simp_all [kindAt, waitsB, nextIs]; try omega) (by decide)]; done)
            | (refine fe_step iu ?_; rw [hch]; simp_all [kindAt, waitsB, nextIs]; try omega)
        · have hgp : pr.2[n]? = some pr.2[n] := List.getElem?_eq_getElem (by omega)
          generalize pr.2[n] = y at hgp
          have hwn : IntKind.i64.wrap (((n + 1 : Nat) : Int) - 1) = (n : Int) := by rw [wrap_pred (by omega) (by omega)]; simp
          have hwn' : IntKind.i64.wrap (n : Int) = (n : Int) := IntWalk.i64_in _ (by omega)
          have hn0 : ¬ ((n : Int) + 1 = 0) := by omega
          try simp -dsimp [i0, i1, i19, hi, hn, hw1, hL', hwn, hwn', hn0]
          repeat' (first
            | (refine condK_of ?_ ?_ <;> intro q <;> simp -dsimp [q, i0, i1, i19, hi, hn, hw1, hL', hw2, hwn, hwn', hn0, step_ia hgp, step_l0 hgp, step_l1 hgp, hzia, place_l0 hgz,])
            | (refine wantT_of ?_ ?_ <;> intro q <;> simp -dsimp [q, i0, i1, i19, hi, hn, hw1, hL', hw2, hwn, hwn', hn0, step_ia hgp, step_l0 hgp, step_l1 hgp, hzia, place_l0 hgz,])
            | (refine wantF_of ?_ ?_ <;> intro q <;> simp -dsimp [q, i0, i1, i19, hi, hn, hw1, hL', hw2, hwn, hwn', hn0, step_ia hgp, step_l0 hgp, step_l1 hgp, hzia, place_l0 hgz,]))
          all_goals first
            | (rw [bad 11 (by rw [hch]; simp_all [kindAt, waitsB, nextIs]; try omega) (by decide)]; done)
            | (refine fe_step iu ?_; rw [hch]; simp_all [kindAt, waitsB, nextIs]; try omega)
    · have b1' : inB st 0 pr.2.length = false := by simpa using b1
      simp -dsimp [b1']
      rw [bad 1 (by rw [hch]; simp [b1']) (by decide)]
  · simp -dsimp [hE, hI.2.2.2]
end Go.Proofs.P6
end
section
set_option linter.unusedVariables false
set_option linter.unusedSimpArgs false
set_option maxRecDepth 10000
set_option maxHeartbeats 16000000
namespace Go.Proofs.P6
open Go.Ex
theorem CheckPlacesRef_ok (p : List Prc) (s : List Place) (hok : ∀ x ∈ p, procOk x) (hl : p.length < 2 ^ 62) : OkF Try.prog 23 [.ro p.length (fl procCd p), .ro s.length (fl placeCd s)] (.int .i64 (placesE p s), []) := by
  refine OkF.W0 hm h23 (of_decide_eq_true rfl) ?_
  unfold c23
  simp -dsimp
  refine call_int (CheckProcsRef_ok p hok) ?_
  simp -dsimp
  refine condK_of ?_ ?_ <;> intro q <;> simp -dsimp
  · have : procsE p ≠ 0 := by simpa using q
    simp [placesE, this]
  have hz : procsE p = 0 := by simpa using q
  have hR := places_proc hz
  refine condK_of ?_ ?_ <;> intro q1 <;> simp -dsimp
  · have : 50 < s.length := by simp at q1; omega
    simp [placesE, hz, this]
  have h50 : s.length ≤ 50 := by simp at q1; omega
  have hE : placesE p s = fe (placeE p s) s.length := by unfold placesE; rw [if_neg (by simp [hz]), if_neg (by omega)]
  refine loop_to 6 s.length (fun k t => t.t 6 = .int .i64 k ∧ t.t 0 = .ro p.length (fl procCd p) ∧ t.t 1 = .ro s.length (fl placeCd s) ∧ fe (placeE p s) k = 0) (fun k t h => h.1) (by simp -dsimp [fe]) (fun k t hkl hI => ?_)
  obtain ⟨i6, i0, i1, iu⟩ := hI
  by_cases hk : k < s.length
  · have hlt' : (k : Int) < (s.length : Int) := by omega
    have hg : s[k]? = some s[k] := List.getElem?_eq_getElem hk
    generalize s[k] = x at hg
    obtain ⟨pn, st, un⟩ := x
    have hw2' : IntKind.i64.wrap ((k : Int) + 1) = (k : Int) + 1 := IntWalk.i64_in _ (by omega)
    have bad : ∀ v, placeE p s k = v → v ≠ 0 → placesE p s = v := fun v h1 h2 => by rw [hE, fe_stop iu (by rw [h1]; exact h2) hk, h1]
    have hw2 : IntKind.i64.wrap ((k : Int) + 1) = ((k + 1 : Nat) : Int) := by rw [IntWalk.i64_in _ (by omega)]; simp
    unfold l23_0
    simp -dsimp [i6, i0, i1, hk, hlt', place_ia hg, place_l0 hg, place_l1 hg, place_l2 hg, hk]
    refine call_int (procOf_ok p _ hl) ?_
    simp -dsimp
    refine condK_of ?_ ?_ <;> intro a1 <;> simp -dsimp [i6, i0, i1, hk, hlt', place_ia hg, place_l0 hg, place_l1 hg, place_l2 hg]
    · rw [bad 9 (placeE_neg hg (by simpa using a1)) (by decide)]
    have hp0 : 0 ≤ prI p pn := by simpa using a1
    obtain ⟨pr, hpr, _⟩ := prI_get hp0
    have hch := placeE_eq hg hpr hp0
    have hpc : ((prI p pn).toNat : Int) = prI p pn := by omega
    have hia : ∀ h K, iaddrK h (.ro p.length (fl procCd p)) (.int .i64 (prI p pn)) 2 K ⟨⟩ = K (.rp (fl procCd p) ((prI p pn).toNat * 2)) [] := fun h K => by
      have := proc_ia (h := h) (kk := .i64) (K := K) hpr
      rw [hpc] at this
      exact this
    simp -dsimp [hia, proc_l1 hpr, i6, i0, i1, hk, hlt', place_ia hg, place_l0 hg, place_l1 hg, place_l2 hg]
    refine call_bool (inBR_ok _ _ _) ?_
    simp -dsimp
    by_cases b1 : inB st 0 pr.2.length = true
    · obtain ⟨n, rfl⟩ : ∃ n : Nat, st = n := ⟨st.toNat, by unfold inB at b1; simp at b1; omega⟩
      have hnl : n ≤ pr.2.length := by unfold inB at b1; simp at b1; omega
      have hlen : pr.2.length ≤ 200 := (hR.steps pr (List.mem_of_getElem? hpr)).1
      have hw1 : IntKind.i64.wrap ((s.length : Int) - 1) = (s.length : Int) - 1 := IntWalk.i64_in _ (by omega)
      simp -dsimp [b1, i6, i0, i1, hk, hlt', place_ia hg, place_l0 hg, place_l1 hg, place_l2 hg]
      refine call_bool (inBR_ok _ _ _) ?_
      simp -dsimp [i6, i0, i1, hk, hlt', place_ia hg, place_l0 hg, place_l1 hg, place_l2 hg, hw1]
      refine condK_of ?_ ?_ <;> intro a2 <;> simp -dsimp [i6, i0, i1, hk, hlt', place_ia hg, place_l0 hg, place_l1 hg, place_l2 hg, hw1]
      · rw [bad 1 (by rw [hch]; simp at a2; simp [a2]) (by decide)]
      simp at a2
      have hu1 : -1 ≤ un := by unfold inB at a2; simp at a2; omega
      simp only [Int.toNat_natCast, b1, a2, Bool.not_true, Bool.or_self] at hch
      by_cases hL : k + 1 = s.length
      · have hL' : decide ((k : Int) = (s.length : Int) - 1) = true := by simp; omega
        rcases Nat.lt_or_ge n pr.2.length with hlt | hge
        · have hgy : pr.2[n]? = some pr.2[n] := List.getElem?_eq_getElem hlt
          generalize pr.2[n] = y at hgy
          have hne : ¬ (n : Int) = (pr.2.length : Int) := by omega
          have hlt2 : (n : Int) < (pr.2.length : Int) := by omega
          try simp -dsimp [i6, i0, i1, hk, hlt', place_ia hg, place_l0 hg, place_l1 hg, place_l2 hg, hw1, hL', hne, hlt2, step_ia hgy, step_l0 hgy]
          repeat' (first
            | (refine condK_of ?_ ?_ <;> intro q <;> simp -dsimp [q, i6, i0, i1, hk, hlt', place_ia hg, place_l0 hg, place_l1 hg, place_l2 hg, hw1, hL', hne, hlt2, step_ia hgy, step_l0 hgy, hw2])
            | (refine wantT_of ?_ ?_ <;> intro q <;> simp -dsimp [q, i6, i0, i1, hk, hlt', place_ia hg, place_l0 hg, place_l1 hg, place_l2 hg, hw1, hL', hne, hlt2, step_ia hgy, step_l0 hgy, hw2])
            | (refine wantF_of ?_ ?_ <;> intro q <;> simp -dsimp [q, i6, i0, i1, hk, hlt', place_ia hg, place_l0 hg, place_l1 hg, place_l2 hg, hw1, hL', hne, hlt2, step_ia hgy, step_l0 hgy, hw2]))
          all_goals first
            | (rw [bad 11 (by rw [hch]; simp_all [kindAt, waitsB]; try omega) (by decide)]; done)
            | (refine fe_step iu ?_; rw [hch]; simp_all [kindAt, waitsB]; try omega)
        · have hnl : n = pr.2.length := by omega
          subst hnl
          have hgy : pr.2[pr.2.length]? = none := List.getElem?_eq_none (by omega)
          try simp -dsimp [i6, i0, i1, hk, hlt', place_ia hg, place_l0 hg, place_l1 hg, place_l2 hg, hw1, hL']
          repeat' (first
            | (refine condK_of ?_ ?_ <;> intro q <;> simp -dsimp [q, i6, i0, i1, hk, hlt', place_ia hg, place_l0 hg, place_l1 hg, place_l2 hg, hw1, hL', hw2])
            | (refine wantT_of ?_ ?_ <;> intro q <;> simp -dsimp [q, i6, i0, i1, hk, hlt', place_ia hg, place_l0 hg, place_l1 hg, place_l2 hg, hw1, hL', hw2])
            | (refine wantF_of ?_ ?_ <;> intro q <;> simp -dsimp [q, i6, i0, i1, hk, hlt', place_ia hg, place_l0 hg, place_l1 hg, place_l2 hg, hw1, hL', hw2]))
          all_goals first
            | (rw [bad 11 (by rw [hch]; simp_all [kindAt, waitsB]; try omega) (by decide)]; done)
            | (refine fe_step iu ?_; rw [hch]; simp_all [kindAt, waitsB]; try omega)
      · have hL' : ¬ (k : Int) = (s.length : Int) - 1 := by omega
        have hgz : s[k + 1]? = some (s[k + 1]'(by omega)) := List.getElem?_eq_getElem (by omega)
        generalize s[k + 1]'(by omega) = z at hgz
        have hzia : ∀ h K, iaddrK h (.ro s.length (fl placeCd s)) (.int .i64 ((k : Int) + 1)) 3 K ⟨⟩ = K (.rp (fl placeCd s) ((k + 1) * 3)) [] := fun h K => by
          have := place_ia (h := h) (kk := .i64) (K := K) hgz
          simpa using this
        have hch' : placeE p s k = if 0 ≤ un then 11 else if !(decide (0 < n) && kindAt pr.2 (n - 1) (fun y => decide (y.1 = 6) && nextIs s k y.2.1)) then 11 else 0 := by
          rw [hch]; simp [hL]
        clear hch
        have hch := hch'
        rcases Nat.lt_or_ge n pr.2.length with hlt | hge
        · have hgy : pr.2[n]? = some pr.2[n] := List.getElem?_eq_getElem hlt
          generalize pr.2[n] = y0 at hgy
          have hlt2 : (n : Int) < (pr.2.length : Int) := by omega
          by_cases h0 : n = 0
          · have hd0 : decide (n = 0) = true := by simp [h0]
            repeat' (first
              | (refine condK_of ?_ ?_ <;> intro q <;> simp -dsimp [q, i6, i0, i1, hk, hlt', place_ia hg, place_l0 hg, place_l1 hg, place_l2 hg, hw1, hL', hw2, hd0, hlt2, step_ia hgy, step_l0 hgy])
              | (refine wantT_of ?_ ?_ <;> intro q <;> simp -dsimp [q, i6, i0, i1, hk, hlt', place_ia hg, place_l0 hg, place_l1 hg, place_l2 hg, hw1, hL', hw2, hd0, hlt2, step_ia hgy, step_l0 hgy])
              | (refine wantF_of ?_ ?_ <;> intro q <;> simp -dsimp [q, i6, i0, i1, hk, hlt', place_ia hg, place_l0 hg, place_l1 hg, place_l2 hg, hw1, hL', hw2, hd0, hlt2, step_ia hgy, step_l0 hgy]))
            all_goals first
              | (rw [bad 11 (by rw [hch]; simp_all [kindAt, waitsB, nextIs]; try omega) (by decide)]; done)
              | (refine fe_step iu ?_; rw [hch]; simp_all [kindAt, waitsB, nextIs]; try omega)
              | (exfalso; simp_all; done)
              | (exfalso; simp at q; omega)
          · have hd0 : decide (n = 0) = false := by simp [h0]
            have hgp : pr.2[n - 1]? = some (pr.2[n - 1]'(by omega)) := List.getElem?_eq_getElem (by omega)
            generalize pr.2[n - 1]'(by omega) = y at hgp
            have hwn : IntKind.i64.wrap ((n : Int) - 1) = ((n - 1 : Nat) : Int) := wrap_pred (by omega) (by omega)
            have hn1 : 0 < n := by omega
            repeat' (first
              | (refine condK_of ?_ ?_ <;> intro q <;> simp -dsimp [q, i6, i0, i1, hk, hlt', place_ia hg, place_l0 hg, place_l1 hg, place_l2 hg, hw1, hL', hw2, hd0, hlt2, step_ia hgy, step_l0 hgy, hwn, step_ia hgp, step_l0 hgp, step_l1 hgp, hzia, place_l0 hgz])
              | (refine wantT_of ?_ ?_ <;> intro q <;> simp -dsimp [q, i6, i0, i1, hk, hlt', place_ia hg, place_l0 hg, place_l1 hg, place_l2 hg, hw1, hL', hw2, hd0, hlt2, step_ia hgy, step_l0 hgy, hwn, step_ia hgp, step_l0 hgp, step_l1 hgp, hzia, place_l0 hgz])
              | (refine wantF_of ?_ ?_ <;> intro q <;> simp -dsimp [q, i6, i0, i1, hk, hlt', place_ia hg, place_l0 hg, place_l1 hg, place_l2 hg, hw1, hL', hw2, hd0, hlt2, step_ia hgy, step_l0 hgy, hwn, step_ia hgp, step_l0 hgp, step_l1 hgp, hzia, place_l0 hgz]))
            all_goals first
              | (rw [bad 11 (by rw [hch]; simp_all [kindAt, waitsB, nextIs]; try omega) (by decide)]; done)
              | (refine fe_step iu ?_; rw [hch]; simp_all [kindAt, waitsB, nextIs]; try omega)
              | (exfalso; simp_all; done)
              | (exfalso; simp at q; omega)
        · have hlt2 : ¬ (n : Int) < (pr.2.length : Int) := by omega
          by_cases h0 : n = 0
          · have hd0 : decide (n = 0) = true := by simp [h0]
            repeat' (first
              | (refine condK_of ?_ ?_ <;> intro q <;> simp -dsimp [q, i6, i0, i1, hk, hlt', place_ia hg, place_l0 hg, place_l1 hg, place_l2 hg, hw1, hL', hw2, hd0, hlt2])
              | (refine wantT_of ?_ ?_ <;> intro q <;> simp -dsimp [q, i6, i0, i1, hk, hlt', place_ia hg, place_l0 hg, place_l1 hg, place_l2 hg, hw1, hL', hw2, hd0, hlt2])
              | (refine wantF_of ?_ ?_ <;> intro q <;> simp -dsimp [q, i6, i0, i1, hk, hlt', place_ia hg, place_l0 hg, place_l1 hg, place_l2 hg, hw1, hL', hw2, hd0, hlt2]))
            all_goals first
              | (rw [bad 11 (by rw [hch]; simp_all [kindAt, waitsB, nextIs]; try omega) (by decide)]; done)
              | (refine fe_step iu ?_; rw [hch]; simp_all [kindAt, waitsB, nextIs]; try omega)
              | (exfalso; simp_all; done)
              | (exfalso; simp at q; omega)
          · have hd0 : decide (n = 0) = false := by simp [h0]
            have hgp : pr.2[n - 1]? = some (pr.2[n - 1]'(by omega)) := List.getElem?_eq_getElem (by omega)
            generalize pr.2[n - 1]'(by omega) = y at hgp
            have hwn : IntKind.i64.wrap ((n : Int) - 1) = ((n - 1 : Nat) : Int) := wrap_pred (by omega) (by omega)
            have hn1 : 0 < n := by omega
            repeat' (first
              | (refine condK_of ?_ ?_ <;> intro q <;> simp -dsimp [q, i6, i0, i1, hk, hlt', place_ia hg, place_l0 hg, place_l1 hg, place_l2 hg, hw1, hL', hw2, hd0, hlt2, hwn, step_ia hgp, step_l0 hgp, step_l1 hgp, hzia, place_l0 hgz])
              | (refine wantT_of ?_ ?_ <;> intro q <;> simp -dsimp [q, i6, i0, i1, hk, hlt', place_ia hg, place_l0 hg, place_l1 hg, place_l2 hg, hw1, hL', hw2, hd0, hlt2, hwn, step_ia hgp, step_l0 hgp, step_l1 hgp, hzia, place_l0 hgz])
              | (refine wantF_of ?_ ?_ <;> intro q <;> simp -dsimp [q, i6, i0, i1, hk, hlt', place_ia hg, place_l0 hg, place_l1 hg, place_l2 hg, hw1, hL', hw2, hd0, hlt2, hwn, step_ia hgp, step_l0 hgp, step_l1 hgp, hzia, place_l0 hgz]))
            all_goals first
              | (rw [bad 11 (by rw [hch]; simp_all [kindAt, waitsB, nextIs]; try omega) (by decide)]; done)
              | (refine fe_step iu ?_; rw [hch]; simp_all [kindAt, waitsB, nextIs]; try omega)
              | (exfalso; simp_all; done)
              | (exfalso; simp at q; omega)
    · have b1' : inB st 0 pr.2.length = false := by simpa using b1
      simp -dsimp [b1']
      rw [bad 1 (by rw [hch]; simp [b1']) (by decide)]
  · have hkl : k = s.length := by omega
    subst hkl
    unfold l23_0
    simp -dsimp [i6, i0, i1, hE, iu]
end Go.Proofs.P6
end
section
set_option linter.unusedVariables false
set_option linter.unusedSimpArgs false
set_option maxRecDepth 10000
set_option maxHeartbeats 4000000
namespace Go.Proofs.P6
open Go.Ex
theorem awake_ok : OkF Try.prog 24 [] (.bool true, []) := by
  refine OkF.W0 hm h24 (of_decide_eq_true rfl) ?_
  unfold c24
  simp -dsimp [fillS, fillA]
  have e : toRO (upd (upd none0 0 (some ⟨0, 2, [.int .i64 1, .int .i64 3], none⟩)) 1 (some ⟨0, 2, [.str [97], .sl 0 0 0 1 (some 1)], none⟩)) 8 (.sl 1 0 0 1 (some 1)) = some (.ro 1 [.str [97], .ro 1 [.int .i64 1, .int .i64 3]]) := rfl
  have hi := Is_ok [([97], [(1, 3)])] [97] 2
  have hr : isR [([97], [(1, 3)])] [97] 2 = (true, 0) := by decide
  rw [hr] at hi
  simp -dsimp [e]
  refine call_one hi rfl ?_
  simp -dsimp
theorem ProcsMatchSpec (p : List Prc) (s : List UInt8) (l : List Place) (hok : ∀ x ∈ p, procOk x) (hl : p.length < 2 ^ 62) :
    OkF Try.prog 3 [.ro p.length (fl procCd p), .str s, .ro l.length (fl placeCd l)] (.bool true, []) := by
  have hs := start_len p s
  have e62 := Go.Ex.e62
  refine OkF.W0 hm h3 (of_decide_eq_true rfl) ?_
  unfold c3
  simp -dsimp
  refine call_one (Start_ok p s hok hl) (okRes_of (by simp)) ?_
  simp -dsimp
  refine call_one (StartRef_ok p s hok hl) (okRes_of (by simp)) ?_
  simp -dsimp
  refine call_int (CheckProcs_ok p hok) ?_
  simp -dsimp
  refine call_int (CheckProcsRef_ok p hok) ?_
  simp -dsimp
  refine call_bool (equalPlace_ok _ _ (by omega)) ?_
  simp -dsimp
  refine call_int (CheckPlaces_ok p l hok hl) ?_
  simp -dsimp
  refine call_int (CheckPlacesRef_ok p l hok hl) ?_
  simp -dsimp
  refine call_bool awake_ok ?_
  simp -dsimp
end Go.Proofs.P6
end
