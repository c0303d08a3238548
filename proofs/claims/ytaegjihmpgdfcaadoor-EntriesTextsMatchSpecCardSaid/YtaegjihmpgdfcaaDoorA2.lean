/- The small commands of procedures; Procedures: steps, labels, names; Steps and procedures alone are right; What procedures call, over others; The reference's: what procedures call; Procedures are right: both sides; The reference's: procedures are right. -/
import Derived.Test.YtaegjihmpgdfcaaDoorA1
import Derived.Test.YtaegjihmpgdfcaaDoorExU
section
set_option linter.unusedVariables false
set_option linter.unusedSimpArgs false
namespace Go.Proofs.P4
open Go.Ex
def k15_0 : Cmd := (.block 1 (.seq (.reg false [⟨(some 18), none, (.mov (.t 16)), []⟩, ⟨(some 19), none, (.iaddr (.t 14) (.t 16) 2), []⟩, ⟨(some 20), none, (.ld (.t 19) (some 2)), []⟩, ⟨(some 4), none, (.alloc [(.str []), .ns]), []⟩, ⟨(some 3), none, (.mov (.t 18)), []⟩, ⟨none, none, (.st (.t 4) (.t 20) 2), []⟩]) (.seq (.seq (.reg false [⟨(some 21), none, (.ld (.t 4) (some 2)), []⟩, ⟨(some 22), none, (.call 34 [(.t 21)]), []⟩, ⟨(some 5), none, (.mov (.t 22)), []⟩]) (.seq (.reg false [⟨(some 23), none, (.mov (.t 5)), []⟩, ⟨(some 24), none, (.bin .neq (.t 23) (.c (.int .i64 0))), []⟩]) (.cond (.t 24) (.seq (.reg false [⟨(some 25), none, (.mov (.t 5)), []⟩, ⟨(some 2), none, (.mov (.t 25)), []⟩]) .ret) .skip))) (.seq (.reg true [⟨(some 26), none, (.mov (.t 3)), []⟩, ⟨(some 27), none, (.bin .gtr (.t 26) (.c (.int .i64 0))), []⟩, ⟨(some 28), none, (.mov (.t 27)), []⟩, ⟨(some 29), (some (28, true)), (.faddr (.t 4) 0), []⟩, ⟨(some 30), (some (28, true)), (.ld (.t 29) none), []⟩, ⟨(some 31), (some (28, true)), (.mov (.t 0)), []⟩, ⟨(some 32), (some (28, true)), (.mov (.t 3)), []⟩, ⟨(some 33), (some (28, true)), (.bin .sub (.t 32) (.c (.int .i64 1))), []⟩, ⟨(some 34), (some (28, true)), (.iaddr (.t 31) (.t 33) 2), []⟩, ⟨(some 35), (some (28, true)), (.faddr (.t 34) 0), []⟩, ⟨(some 36), (some (28, true)), (.ld (.t 35) none), []⟩, ⟨(some 37), (some (28, true)), (.bin .leq (.t 30) (.t 36)), []⟩, ⟨(some 38), none, (.pick (.t 28) (.t 37) (.c (.bool false))), []⟩]) (.cond (.t 38) (.seq (.reg false [⟨(some 2), none, (.mov (.c (.int .i64 8))), []⟩]) .ret) .skip)))))
abbrev l15_0 : Cmd := cnt 0 17 16 15 39 k15_0
def k15_1 : Cmd := (.block 5 (.seq (.reg false [⟨(some 51), none, (.iaddr (.t 47) (.t 49) 5), []⟩, ⟨(some 52), none, (.ld (.t 51) (some 5)), []⟩, ⟨(some 9), none, (.alloc [(.int .i64 0), (.str []), (.str []), (.int .i64 0), (.bool false)]), []⟩, ⟨none, none, (.st (.t 9) (.t 52) 5), []⟩]) (.seq (.reg false [⟨(some 53), none, (.ld (.t 9) (some 5)), []⟩, ⟨(some 54), none, (.call 35 [(.t 53)]), []⟩, ⟨(some 55), none, (.mov (.t 54)), []⟩, ⟨(some 56), (some (55, true)), (.faddr (.t 7) 1), []⟩, ⟨(some 57), (some (55, true)), (.ld (.t 56) none), []⟩, ⟨(some 58), (some (55, true)), (.faddr (.t 9) 2), []⟩, ⟨(some 59), (some (55, true)), (.ld (.t 58) none), []⟩, ⟨(some 60), (some (55, true)), (.call 36 [(.t 57), (.t 59)]), []⟩, ⟨(some 61), (some (55, true)), (.bin .lss (.t 60) (.c (.int .i64 0))), []⟩, ⟨(some 62), none, (.pick (.t 55) (.t 61) (.c (.bool false))), []⟩, ⟨(some 63), none, (.mov (.t 62)), []⟩, ⟨(some 64), (some (63, false)), (.faddr (.t 9) 0), []⟩, ⟨(some 65), (some (63, false)), (.ld (.t 64) none), []⟩, ⟨(some 66), (some (63, false)), (.bin .eql (.t 65) (.c (.int .i64 6))), []⟩, ⟨(some 67), (some (63, false)), (.mov (.t 66)), []⟩, ⟨(some 68), (some (67, true)), (.mov (.t 0)), []⟩, ⟨(some 69), (some (67, true)), (.faddr (.t 9) 1), []⟩, ⟨(some 70), (some (67, true)), (.ld (.t 69) none), []⟩, ⟨(some 71), (some (67, true)), (.call 37 [(.t 68), (.t 70)]), []⟩, ⟨(some 72), (some (67, true)), (.bin .lss (.t 71) (.c (.int .i64 0))), []⟩, ⟨(some 73), (some (63, false)), (.pick (.t 67) (.t 72) (.c (.bool false))), []⟩, ⟨(some 74), none, (.pick (.t 63) (.c (.bool true)) (.t 73)), []⟩]) (.cond (.t 74) (.seq (.reg false [⟨(some 2), none, (.mov (.c (.int .i64 9))), []⟩]) .ret) .skip))))
abbrev l15_1 : Cmd := cnt 4 50 49 48 75 k15_1
def k15_2 : Cmd := (.block 3 (.seq (.reg false [⟨(some 44), none, (.iaddr (.t 40) (.t 42) 2), []⟩, ⟨(some 45), none, (.ld (.t 44) (some 2)), []⟩, ⟨(some 7), none, (.alloc [(.str []), .ns]), []⟩, ⟨none, none, (.st (.t 7) (.t 45) 2), []⟩]) (.seq (.reg false [⟨(some 46), none, (.faddr (.t 7) 1), []⟩, ⟨(some 47), none, (.ld (.t 46) none), []⟩, ⟨(some 48), none, (.len false (.t 47)), []⟩, ⟨(some 49), none, (.mov (.c (.int .i64 0))), []⟩]) (.block 4 (.loop l15_1)))))
abbrev l15_2 : Cmd := cnt 2 43 42 41 76 k15_2
def k15_3 : Cmd := (.block 7 (.seq (.reg false [⟨(some 81), none, (.mov (.t 79)), []⟩, ⟨(some 10), none, (.mov (.t 81)), []⟩]) (.seq (.reg false [⟨(some 82), none, (.mov (.t 0)), []⟩, ⟨(some 83), none, (.mov (.t 10)), []⟩, ⟨(some 84), none, (.call 39 [(.t 82), (.t 83)]), []⟩, ⟨(some 85), none, (.mov (.t 10)), []⟩, ⟨(some 86), none, (.call 38 [(.t 84), (.t 85)]), []⟩]) (.cond (.t 86) (.seq (.reg false [⟨(some 2), none, (.mov (.c (.int .i64 17))), []⟩]) .ret) .skip))))
abbrev l15_3 : Cmd := cnt 6 80 79 78 87 k15_3
def c15 : Cmd := (.seq (.reg false [⟨(some 2), none, (.mov (.c (.int .i64 0))), []⟩]) (.seq (.seq (.reg false [⟨(some 11), none, (.mov (.t 0)), []⟩, ⟨(some 12), none, (.len false (.t 11)), []⟩, ⟨(some 13), none, (.bin .gtr (.t 12) (.c (.int .i64 50))), []⟩]) (.cond (.t 13) (.seq (.reg false [⟨(some 2), none, (.mov (.c (.int .i64 2))), []⟩]) .ret) .skip)) (.seq (.seq (.reg false [⟨(some 14), none, (.mov (.t 0)), []⟩, ⟨(some 15), none, (.len false (.t 14)), []⟩, ⟨(some 16), none, (.mov (.c (.int .i64 0))), []⟩]) (.block 0 (.loop l15_0))) (.seq (.seq (.reg false [⟨(some 40), none, (.mov (.t 0)), []⟩, ⟨(some 41), none, (.len false (.t 40)), []⟩, ⟨(some 42), none, (.mov (.c (.int .i64 0))), []⟩]) (.block 2 (.loop l15_2))) (.seq (.seq (.reg false [⟨(some 77), none, (.mov (.t 0)), []⟩, ⟨(some 78), none, (.len false (.t 77)), []⟩, ⟨(some 79), none, (.mov (.c (.int .i64 0))), []⟩]) (.block 6 (.loop l15_3))) (.seq (.reg false [⟨(some 2), none, (.mov (.c (.int .i64 0))), []⟩]) .ret))))))
theorem h15 : compF Tryd.prog sh 15 = some (c15, [2], 88) := by kernel_rfl
def k34_0 : Cmd := (.block 2 (.seq (.reg false [⟨(some 21), none, (.mov (.t 19)), []⟩, ⟨(some 22), none, (.iaddr (.t 17) (.t 19) 5), []⟩, ⟨(some 23), none, (.ld (.t 22) (some 5)), []⟩, ⟨(some 4), none, (.alloc [(.int .i64 0), (.str []), (.str []), (.int .i64 0), (.bool false)]), []⟩, ⟨(some 3), none, (.mov (.t 21)), []⟩, ⟨none, none, (.st (.t 4) (.t 23) 5), []⟩]) (.seq (.seq (.reg false [⟨(some 24), none, (.ld (.t 4) (some 5)), []⟩, ⟨(some 25), none, (.call 67 [(.t 24)]), []⟩, ⟨(some 5), none, (.mov (.t 25)), []⟩]) (.seq (.reg false [⟨(some 26), none, (.mov (.t 5)), []⟩, ⟨(some 27), none, (.bin .neq (.t 26) (.c (.int .i64 0))), []⟩]) (.cond (.t 27) (.seq (.reg false [⟨(some 28), none, (.mov (.t 5)), []⟩, ⟨(some 2), none, (.mov (.t 28)), []⟩]) .ret) .skip))) (.seq (.reg true [⟨(some 29), none, (.faddr (.t 4) 0), []⟩, ⟨(some 30), none, (.ld (.t 29) none), []⟩, ⟨(some 31), none, (.bin .eql (.t 30) (.c (.int .i64 8))), []⟩, ⟨(some 32), none, (.mov (.t 31)), []⟩, ⟨(some 33), (some (32, true)), (.faddr (.t 1) 1), []⟩, ⟨(some 34), (some (32, true)), (.ld (.t 33) none), []⟩, ⟨(some 35), (some (32, true)), (.mov (.t 3)), []⟩, ⟨(some 36), (some (32, true)), (.slc false (.t 34) none (some (.t 35)) 5), []⟩, ⟨(some 37), (some (32, true)), (.faddr (.t 4) 2), []⟩, ⟨(some 38), (some (32, true)), (.ld (.t 37) none), []⟩, ⟨(some 39), (some (32, true)), (.call 36 [(.t 36), (.t 38)]), []⟩, ⟨(some 40), (some (32, true)), (.bin .geq (.t 39) (.c (.int .i64 0))), []⟩, ⟨(some 41), none, (.pick (.t 32) (.t 40) (.c (.bool false))), []⟩]) (.cond (.t 41) (.seq (.reg false [⟨(some 2), none, (.mov (.c (.int .i64 7))), []⟩]) .ret) .skip)))))
abbrev l34_0 : Cmd := cnt 1 20 19 18 42 k34_0
def c34 : Cmd := (.seq (.reg false [⟨(some 1), none, (.box (.t 0)), []⟩, ⟨(some 2), none, (.mov (.c (.int .i64 0))), []⟩]) (.seq (.block 0 (.seq (.reg false [⟨(some 7), none, (.faddr (.t 1) 0), []⟩, ⟨(some 8), none, (.ld (.t 7) none), []⟩, ⟨(some 9), none, (.call 48 [(.t 8)]), []⟩, ⟨(some 10), none, (.un .not (.t 9)), []⟩, ⟨(some 6), none, (.mov (.t 10)), []⟩]) (.cond (.t 6) (.seq (.reg false [⟨(some 2), none, (.mov (.c (.int .i64 5))), []⟩]) .ret) (.seq (.reg false [⟨(some 12), none, (.faddr (.t 1) 1), []⟩, ⟨(some 13), none, (.ld (.t 12) none), []⟩, ⟨(some 14), none, (.len false (.t 13)), []⟩, ⟨(some 15), none, (.bin .gtr (.t 14) (.c (.int .i64 200))), []⟩, ⟨(some 11), none, (.mov (.t 15)), []⟩]) (.cond (.t 11) (.seq (.reg false [⟨(some 2), none, (.mov (.c (.int .i64 2))), []⟩]) .ret) .skip))))) (.seq (.seq (.reg false [⟨(some 16), none, (.faddr (.t 1) 1), []⟩, ⟨(some 17), none, (.ld (.t 16) none), []⟩, ⟨(some 18), none, (.len false (.t 17)), []⟩, ⟨(some 19), none, (.mov (.c (.int .i64 0))), []⟩]) (.block 1 (.loop l34_0))) (.seq (.reg false [⟨(some 2), none, (.mov (.c (.int .i64 0))), []⟩]) .ret))))
theorem h34 : compF Tryd.prog sh 34 = some (c34, [2], 43) := by kernel_rfl
def c67 : Cmd := (.seq (.reg false [⟨(some 1), none, (.box (.t 0)), []⟩, ⟨(some 2), none, (.mov (.c (.int .i64 0))), []⟩]) (.seq (.reg false [⟨(some 6), none, (.faddr (.t 1) 0), []⟩, ⟨(some 7), none, (.ld (.t 6) none), []⟩, ⟨(some 8), none, (.bld [(.int .i64 0), (.str []), (.str []), (.int .i64 0), (.bool false)] [(0, (1, (.t 7)))]), []⟩, ⟨(some 3), none, (.alloc [(.int .i64 0), (.str []), (.str []), (.int .i64 0), (.bool false)]), []⟩, ⟨none, none, (.st (.t 3) (.t 8) 5), []⟩]) (.seq (.seq (.reg false [⟨(some 9), none, (.faddr (.t 1) 0), []⟩, ⟨(some 10), none, (.ld (.t 9) none), []⟩]) (.block 0 (.seq (.seq (.reg false [⟨(some 12), none, (.bin .eql (.t 10) (.c (.int .i64 1))), []⟩, ⟨(some 11), none, (.mov (.t 12)), []⟩]) (.cond (.t 11) .skip (.reg false [⟨(some 13), none, (.bin .eql (.t 10) (.c (.int .i64 6))), []⟩, ⟨(some 11), none, (.mov (.t 13)), []⟩]))) (.cond (.t 11) (.reg false [⟨(some 14), none, (.faddr (.t 1) 1), []⟩, ⟨(some 15), none, (.ld (.t 14) none), []⟩, ⟨(some 16), none, (.faddr (.t 3) 1), []⟩, ⟨none, none, (.st (.t 16) (.t 15) 1), []⟩]) (.seq (.reg false [⟨(some 18), none, (.bin .eql (.t 10) (.c (.int .i64 2))), []⟩, ⟨(some 17), none, (.mov (.t 18)), []⟩]) (.cond (.t 17) (.reg false [⟨(some 19), none, (.faddr (.t 1) 3), []⟩, ⟨(some 20), none, (.ld (.t 19) none), []⟩, ⟨(some 21), none, (.faddr (.t 3) 3), []⟩, ⟨none, none, (.st (.t 21) (.t 20) 1), []⟩]) (.seq (.reg false [⟨(some 23), none, (.bin .eql (.t 10) (.c (.int .i64 3))), []⟩, ⟨(some 22), none, (.mov (.t 23)), []⟩]) (.cond (.t 22) (.reg true [⟨(some 24), none, (.faddr (.t 1) 1), []⟩, ⟨(some 25), none, (.ld (.t 24) none), []⟩, ⟨(some 26), none, (.faddr (.t 1) 3), []⟩, ⟨(some 27), none, (.ld (.t 26) none), []⟩, ⟨(some 28), none, (.faddr (.t 1) 2), []⟩, ⟨(some 29), none, (.ld (.t 28) none), []⟩, ⟨(some 30), none, (.faddr (.t 3) 1), []⟩, ⟨none, none, (.st (.t 30) (.t 25) 1), [3, 5]⟩, ⟨(some 31), none, (.faddr (.t 3) 3), []⟩, ⟨none, none, (.st (.t 31) (.t 27) 1), [5]⟩, ⟨(some 32), none, (.faddr (.t 3) 2), []⟩, ⟨none, none, (.st (.t 32) (.t 29) 1), []⟩]) (.seq (.reg false [⟨(some 34), none, (.bin .eql (.t 10) (.c (.int .i64 4))), []⟩, ⟨(some 33), none, (.mov (.t 34)), []⟩]) (.cond (.t 33) (.reg true [⟨(some 35), none, (.faddr (.t 1) 1), []⟩, ⟨(some 36), none, (.ld (.t 35) none), []⟩, ⟨(some 37), none, (.faddr (.t 1) 4), []⟩, ⟨(some 38), none, (.ld (.t 37) none), []⟩, ⟨(some 39), none, (.faddr (.t 1) 2), []⟩, ⟨(some 40), none, (.ld (.t 39) none), []⟩, ⟨(some 41), none, (.faddr (.t 3) 1), []⟩, ⟨none, none, (.st (.t 41) (.t 36) 1), [3, 5]⟩, ⟨(some 42), none, (.faddr (.t 3) 4), []⟩, ⟨none, none, (.st (.t 42) (.t 38) 1), [5]⟩, ⟨(some 43), none, (.faddr (.t 3) 2), []⟩, ⟨none, none, (.st (.t 43) (.t 40) 1), []⟩]) (.seq (.seq (.reg false [⟨(some 45), none, (.bin .eql (.t 10) (.c (.int .i64 5))), []⟩, ⟨(some 44), none, (.mov (.t 45)), []⟩]) (.cond (.t 44) .skip (.reg false [⟨(some 46), none, (.bin .eql (.t 10) (.c (.int .i64 8))), []⟩, ⟨(some 44), none, (.mov (.t 46)), []⟩]))) (.cond (.t 44) (.reg false [⟨(some 47), none, (.faddr (.t 1) 2), []⟩, ⟨(some 48), none, (.ld (.t 47) none), []⟩, ⟨(some 49), none, (.faddr (.t 3) 2), []⟩, ⟨none, none, (.st (.t 49) (.t 48) 1), []⟩]) (.seq (.reg false [⟨(some 51), none, (.bin .eql (.t 10) (.c (.int .i64 7))), []⟩, ⟨(some 50), none, (.mov (.t 51)), []⟩]) (.cond (.t 50) .skip (.seq (.reg false [⟨(some 2), none, (.mov (.c (.int .i64 4))), []⟩]) .ret))))))))))))))) (.seq (.reg false [⟨(some 52), none, (.faddr (.t 1) 0), []⟩, ⟨(some 53), none, (.ld (.t 52) none), []⟩, ⟨(some 54), none, (.bin .eql (.t 53) (.c (.int .i64 2))), []⟩, ⟨(some 55), none, (.mov (.t 54)), []⟩, ⟨(some 56), (some (55, false)), (.faddr (.t 1) 0), []⟩, ⟨(some 57), (some (55, false)), (.ld (.t 56) none), []⟩, ⟨(some 58), (some (55, false)), (.bin .eql (.t 57) (.c (.int .i64 3))), []⟩, ⟨(some 59), none, (.pick (.t 55) (.c (.bool true)) (.t 58)), []⟩, ⟨(some 4), none, (.mov (.t 59)), []⟩]) (.seq (.reg false [⟨(some 60), none, (.faddr (.t 1) 0), []⟩, ⟨(some 61), none, (.ld (.t 60) none), []⟩, ⟨(some 62), none, (.bin .eql (.t 61) (.c (.int .i64 3))), []⟩, ⟨(some 63), none, (.mov (.t 62)), []⟩, ⟨(some 64), (some (63, false)), (.faddr (.t 1) 0), []⟩, ⟨(some 65), (some (63, false)), (.ld (.t 64) none), []⟩, ⟨(some 66), (some (63, false)), (.bin .eql (.t 65) (.c (.int .i64 4))), []⟩, ⟨(some 67), none, (.pick (.t 63) (.c (.bool true)) (.t 66)), []⟩, ⟨(some 68), none, (.mov (.t 67)), []⟩, ⟨(some 69), (some (68, false)), (.faddr (.t 1) 0), []⟩, ⟨(some 70), (some (68, false)), (.ld (.t 69) none), []⟩, ⟨(some 71), (some (68, false)), (.bin .eql (.t 70) (.c (.int .i64 6))), []⟩, ⟨(some 72), none, (.pick (.t 68) (.c (.bool true)) (.t 71)), []⟩, ⟨(some 5), none, (.mov (.t 72)), []⟩]) (.seq (.block 1 (.seq (.reg false [⟨(some 74), none, (.ld (.t 1) (some 5)), []⟩, ⟨(some 75), none, (.ld (.t 3) (some 5)), []⟩, ⟨(some 76), none, (.seq true [0, 2, 2, 0, 1] (.t 74) (.t 75)), []⟩, ⟨(some 77), none, (.mov (.t 76)), []⟩, ⟨(some 78), (some (77, false)), (.faddr (.t 1) 0), []⟩, ⟨(some 79), (some (77, false)), (.ld (.t 78) none), []⟩, ⟨(some 80), (some (77, false)), (.bin .eql (.t 79) (.c (.int .i64 1))), []⟩, ⟨(some 81), (some (77, false)), (.mov (.t 80)), []⟩, ⟨(some 82), (some (81, true)), (.faddr (.t 1) 1), []⟩, ⟨(some 83), (some (81, true)), (.ld (.t 82) none), []⟩, ⟨(some 84), (some (81, true)), (.call 80 [(.t 83)]), []⟩, ⟨(some 85), (some (81, true)), (.un .not (.t 84)), []⟩, ⟨(some 86), (some (77, false)), (.pick (.t 81) (.t 85) (.c (.bool false))), []⟩, ⟨(some 87), none, (.pick (.t 77) (.c (.bool true)) (.t 86)), []⟩, ⟨(some 73), none, (.mov (.t 87)), []⟩]) (.cond (.t 73) (.seq (.reg false [⟨(some 2), none, (.mov (.c (.int .i64 3))), []⟩]) .ret) (.seq (.reg false [⟨(some 89), none, (.mov (.t 5)), []⟩, ⟨(some 90), none, (.mov (.t 89)), []⟩, ⟨(some 91), (some (90, true)), (.faddr (.t 1) 1), []⟩, ⟨(some 92), (some (90, true)), (.ld (.t 91) none), []⟩, ⟨(some 93), (some (90, true)), (.call 48 [(.t 92)]), []⟩, ⟨(some 94), (some (90, true)), (.un .not (.t 93)), []⟩, ⟨(some 95), none, (.pick (.t 90) (.t 94) (.c (.bool false))), []⟩, ⟨(some 88), none, (.mov (.t 95)), []⟩]) (.cond (.t 88) (.seq (.reg false [⟨(some 2), none, (.mov (.c (.int .i64 5))), []⟩]) .ret) (.seq (.reg false [⟨(some 97), none, (.mov (.t 4)), []⟩, ⟨(some 98), none, (.mov (.t 97)), []⟩, ⟨(some 99), (some (98, true)), (.faddr (.t 1) 3), []⟩, ⟨(some 100), (some (98, true)), (.ld (.t 99) none), []⟩, ⟨(some 101), (some (98, true)), (.call 49 [(.t 100), (.c (.int .i64 1)), (.c (.int .i64 1000000000))]), []⟩, ⟨(some 102), (some (98, true)), (.un .not (.t 101)), []⟩, ⟨(some 103), none, (.pick (.t 98) (.t 102) (.c (.bool false))), []⟩, ⟨(some 96), none, (.mov (.t 103)), []⟩]) (.cond (.t 96) (.seq (.reg false [⟨(some 2), none, (.mov (.c (.int .i64 1))), []⟩]) .ret) (.seq (.reg false [⟨(some 105), none, (.ld (.t 1) (some 5)), []⟩, ⟨(some 106), none, (.call 92 [(.t 105)]), []⟩, ⟨(some 107), none, (.mov (.t 106)), []⟩, ⟨(some 108), (some (107, true)), (.faddr (.t 1) 2), []⟩, ⟨(some 109), (some (107, true)), (.ld (.t 108) none), []⟩, ⟨(some 110), (some (107, true)), (.call 48 [(.t 109)]), []⟩, ⟨(some 111), (some (107, true)), (.un .not (.t 110)), []⟩, ⟨(some 112), none, (.pick (.t 107) (.t 111) (.c (.bool false))), []⟩, ⟨(some 104), none, (.mov (.t 112)), []⟩]) (.cond (.t 104) (.seq (.reg false [⟨(some 2), none, (.mov (.c (.int .i64 5))), []⟩]) .ret) .skip))))))))) (.seq (.reg false [⟨(some 2), none, (.mov (.c (.int .i64 0))), []⟩]) .ret)))))))
theorem h67 : compF Tryd.prog sh 67 = some (c67, [2], 113) := by kernel_rfl
def c92 : Cmd := (.seq (.reg false [⟨(some 1), none, (.box (.t 0)), []⟩, ⟨(some 2), none, (.mov (.c (.bool false))), []⟩]) (.seq (.reg false [⟨(some 3), none, (.ld (.t 1) (some 5)), []⟩, ⟨(some 4), none, (.call 35 [(.t 3)]), []⟩, ⟨(some 5), none, (.mov (.t 4)), []⟩, ⟨(some 6), (some (5, false)), (.faddr (.t 1) 0), []⟩, ⟨(some 7), (some (5, false)), (.ld (.t 6) none), []⟩, ⟨(some 8), (some (5, false)), (.bin .eql (.t 7) (.c (.int .i64 8))), []⟩, ⟨(some 9), none, (.pick (.t 5) (.c (.bool true)) (.t 8)), []⟩, ⟨(some 2), none, (.mov (.t 9)), []⟩]) .ret))
theorem h92 : compF Tryd.prog sh 92 = some (c92, [2], 10) := by kernel_rfl
def c35 : Cmd := (.seq (.reg false [⟨(some 1), none, (.box (.t 0)), []⟩, ⟨(some 2), none, (.mov (.c (.bool false))), []⟩]) (.seq (.reg false [⟨(some 3), none, (.faddr (.t 1) 0), []⟩, ⟨(some 4), none, (.ld (.t 3) none), []⟩, ⟨(some 5), none, (.bin .eql (.t 4) (.c (.int .i64 3))), []⟩, ⟨(some 6), none, (.mov (.t 5)), []⟩, ⟨(some 7), (some (6, false)), (.faddr (.t 1) 0), []⟩, ⟨(some 8), (some (6, false)), (.ld (.t 7) none), []⟩, ⟨(some 9), (some (6, false)), (.bin .eql (.t 8) (.c (.int .i64 4))), []⟩, ⟨(some 10), none, (.pick (.t 6) (.c (.bool true)) (.t 9)), []⟩, ⟨(some 11), none, (.mov (.t 10)), []⟩, ⟨(some 12), (some (11, false)), (.faddr (.t 1) 0), []⟩, ⟨(some 13), (some (11, false)), (.ld (.t 12) none), []⟩, ⟨(some 14), (some (11, false)), (.bin .eql (.t 13) (.c (.int .i64 5))), []⟩, ⟨(some 15), none, (.pick (.t 11) (.c (.bool true)) (.t 14)), []⟩, ⟨(some 2), none, (.mov (.t 15)), []⟩]) .ret))
theorem h35 : compF Tryd.prog sh 35 = some (c35, [2], 16) := by kernel_rfl
def c36 : Cmd := (.seq (.reg false [⟨(some 3), none, (.box (.t 1)), []⟩, ⟨(some 4), none, (.mov (.c (.int .i64 0))), []⟩]) (.seq (.reg false [⟨(some 5), none, (.mov (.t 0)), []⟩, ⟨(some 6), none, (.fnc 69 [(.t 3)]), []⟩, ⟨(some 7), none, (.shr 68 [(.t 5), (.t 6)]), []⟩, ⟨(some 4), none, (.mov (.t 7)), []⟩]) .ret))
theorem h36 : compF Tryd.prog sh 36 = some (c36, [4], 8) := by kernel_rfl
def c69 : Cmd := (.seq (.reg false [⟨(some 2), none, (.box (.t 0)), []⟩, ⟨(some 3), none, (.mov (.c (.bool false))), []⟩]) (.seq (.reg false [⟨(some 4), none, (.faddr (.t 2) 0), []⟩, ⟨(some 5), none, (.ld (.t 4) none), []⟩, ⟨(some 6), none, (.bin .eql (.t 5) (.c (.int .i64 8))), []⟩, ⟨(some 7), none, (.mov (.t 6)), []⟩, ⟨(some 8), (some (7, true)), (.faddr (.t 2) 2), []⟩, ⟨(some 9), (some (7, true)), (.ld (.t 8) none), []⟩, ⟨(some 10), (some (7, true)), (.ld (.t 1) none), []⟩, ⟨(some 11), (some (7, true)), (.bin .eql (.t 9) (.t 10)), []⟩, ⟨(some 12), none, (.pick (.t 7) (.t 11) (.c (.bool false))), []⟩, ⟨(some 3), none, (.mov (.t 12)), []⟩]) .ret))
theorem h69 : compF Tryd.prog sh 69 = some (c69, [3], 13) := by kernel_rfl
def k68_0 : Cmd := (.block 1 (.seq (.reg false [⟨(some 10), none, (.mov (.t 8)), []⟩, ⟨(some 5), none, (.mov (.t 10)), []⟩]) (.seq (.reg false [⟨(some 11), none, (.mov (.t 1)), []⟩, ⟨(some 12), none, (.mov (.t 0)), []⟩, ⟨(some 13), none, (.mov (.t 5)), []⟩, ⟨(some 14), none, (.iaddr (.t 12) (.t 13) 5), []⟩, ⟨(some 15), none, (.ld (.t 14) (some 5)), []⟩, ⟨(some 16), none, (.calv (.t 11) [(.t 15)]), []⟩]) (.cond (.t 16) (.seq (.reg false [⟨(some 17), none, (.mov (.t 5)), []⟩, ⟨(some 4), none, (.mov (.t 17)), []⟩]) .ret) .skip))))
abbrev l68_0 : Cmd := cnt 0 9 8 7 18 k68_0
def c68 : Cmd := (.seq (.reg false [⟨(some 4), none, (.mov (.c (.int .i64 0))), []⟩]) (.seq (.seq (.reg false [⟨(some 6), none, (.mov (.t 0)), []⟩, ⟨(some 7), none, (.len false (.t 6)), []⟩, ⟨(some 8), none, (.mov (.c (.int .i64 0))), []⟩]) (.block 0 (.loop l68_0))) (.seq (.reg false [⟨(some 4), none, (.mov (.c (.int .i64 (-1)))), []⟩]) .ret)))
theorem h68 : compF Tryd.prog sh 68 = some (c68, [4], 19) := by kernel_rfl
def c37 : Cmd := (.seq (.reg false [⟨(some 3), none, (.box (.t 1)), []⟩, ⟨(some 4), none, (.mov (.c (.int .i64 0))), []⟩]) (.seq (.reg false [⟨(some 5), none, (.mov (.t 0)), []⟩, ⟨(some 6), none, (.fnc 71 [(.t 3)]), []⟩, ⟨(some 7), none, (.shr 70 [(.t 5), (.t 6)]), []⟩, ⟨(some 4), none, (.mov (.t 7)), []⟩]) .ret))
theorem h37 : compF Tryd.prog sh 37 = some (c37, [4], 8) := by kernel_rfl
def c71 : Cmd := (.seq (.reg false [⟨(some 2), none, (.box (.t 0)), []⟩, ⟨(some 3), none, (.mov (.c (.bool false))), []⟩]) (.seq (.reg false [⟨(some 4), none, (.faddr (.t 2) 0), []⟩, ⟨(some 5), none, (.ld (.t 4) none), []⟩, ⟨(some 6), none, (.ld (.t 1) none), []⟩, ⟨(some 7), none, (.bin .eql (.t 5) (.t 6)), []⟩, ⟨(some 3), none, (.mov (.t 7)), []⟩]) .ret))
theorem h71 : compF Tryd.prog sh 71 = some (c71, [3], 8) := by kernel_rfl
def k70_0 : Cmd := (.block 1 (.seq (.reg false [⟨(some 10), none, (.mov (.t 8)), []⟩, ⟨(some 5), none, (.mov (.t 10)), []⟩]) (.seq (.reg false [⟨(some 11), none, (.mov (.t 1)), []⟩, ⟨(some 12), none, (.mov (.t 0)), []⟩, ⟨(some 13), none, (.mov (.t 5)), []⟩, ⟨(some 14), none, (.iaddr (.t 12) (.t 13) 2), []⟩, ⟨(some 15), none, (.ld (.t 14) (some 2)), []⟩, ⟨(some 16), none, (.calv (.t 11) [(.t 15)]), []⟩]) (.cond (.t 16) (.seq (.reg false [⟨(some 17), none, (.mov (.t 5)), []⟩, ⟨(some 4), none, (.mov (.t 17)), []⟩]) .ret) .skip))))
abbrev l70_0 : Cmd := cnt 0 9 8 7 18 k70_0
def c70 : Cmd := (.seq (.reg false [⟨(some 4), none, (.mov (.c (.int .i64 0))), []⟩]) (.seq (.seq (.reg false [⟨(some 6), none, (.mov (.t 0)), []⟩, ⟨(some 7), none, (.len false (.t 6)), []⟩, ⟨(some 8), none, (.mov (.c (.int .i64 0))), []⟩]) (.block 0 (.loop l70_0))) (.seq (.reg false [⟨(some 4), none, (.mov (.c (.int .i64 (-1)))), []⟩]) .ret)))
theorem h70 : compF Tryd.prog sh 70 = some (c70, [4], 19) := by kernel_rfl
def k39_0 : Cmd := (.block 3 (.seq (.reg false [⟨(some 29), none, (.iaddr (.t 25) (.t 27) 5), []⟩, ⟨(some 30), none, (.ld (.t 29) (some 5)), []⟩, ⟨(some 9), none, (.alloc [(.int .i64 0), (.str []), (.str []), (.int .i64 0), (.bool false)]), []⟩, ⟨none, none, (.st (.t 9) (.t 30) 5), []⟩]) (.seq (.seq (.reg false [⟨(some 31), none, (.faddr (.t 9) 0), []⟩, ⟨(some 32), none, (.ld (.t 31) none), []⟩, ⟨(some 33), none, (.bin .neq (.t 32) (.c (.int .i64 6))), []⟩]) (.cond (.t 33) (.exit 3) .skip)) (.seq (.reg false [⟨(some 34), none, (.mov (.t 0)), []⟩, ⟨(some 35), none, (.faddr (.t 9) 1), []⟩, ⟨(some 36), none, (.ld (.t 35) none), []⟩, ⟨(some 37), none, (.call 37 [(.t 34), (.t 36)]), []⟩, ⟨(some 10), none, (.mov (.t 37)), []⟩]) (.seq (.reg false [⟨(some 38), none, (.mov (.t 5)), []⟩, ⟨(some 39), none, (.mov (.t 10)), []⟩, ⟨(some 40), none, (.call 38 [(.t 38), (.t 39)]), []⟩, ⟨(some 41), none, (.un .not (.t 40)), []⟩]) (.cond (.t 41) (.reg false [⟨(some 42), none, (.mov (.t 5)), []⟩, ⟨(some 43), none, (.mov (.t 10)), []⟩, ⟨(some 44), none, (.bs 1 1 [(.int .i64 0)] [(0, (.t 43))]), []⟩, ⟨(some 45), none, (.app 1 8 (.t 42) (.t 44)), []⟩, ⟨(some 46), none, (.mov (.t 6)), []⟩, ⟨(some 47), none, (.mov (.t 10)), []⟩, ⟨(some 48), none, (.bs 1 1 [(.int .i64 0)] [(0, (.t 47))]), []⟩, ⟨(some 49), none, (.app 1 8 (.t 46) (.t 48)), []⟩, ⟨(some 5), none, (.mov (.t 45)), []⟩, ⟨(some 6), none, (.mov (.t 49)), []⟩]) .skip))))))
abbrev l39_0 : Cmd := cnt 2 28 27 26 50 k39_0
def l39_1 : Cmd := (.seq (.seq (.reg false [⟨(some 13), none, (.mov (.t 6)), []⟩, ⟨(some 14), none, (.len false (.t 13)), []⟩, ⟨(some 15), none, (.bin .gtr (.t 14) (.c (.int .i64 0))), []⟩]) (.cond (.t 15) .skip (.exit 0))) (.block 1 (.seq (.reg false [⟨(some 16), none, (.mov (.t 0)), []⟩, ⟨(some 17), none, (.mov (.t 6)), []⟩, ⟨(some 18), none, (.iaddr (.t 17) (.c (.int .i64 0)) 1), []⟩, ⟨(some 19), none, (.ld (.t 18) none), []⟩, ⟨(some 20), none, (.iaddr (.t 16) (.t 19) 2), []⟩, ⟨(some 21), none, (.ld (.t 20) (some 2)), []⟩, ⟨(some 7), none, (.alloc [(.str []), .ns]), []⟩, ⟨none, none, (.st (.t 7) (.t 21) 2), []⟩]) (.seq (.reg false [⟨(some 22), none, (.mov (.t 6)), []⟩, ⟨(some 23), none, (.slc false (.t 22) (some (.c (.int .i64 1))) none 1), []⟩, ⟨(some 6), none, (.mov (.t 23)), []⟩]) (.seq (.reg false [⟨(some 24), none, (.faddr (.t 7) 1), []⟩, ⟨(some 25), none, (.ld (.t 24) none), []⟩, ⟨(some 26), none, (.len false (.t 25)), []⟩, ⟨(some 27), none, (.mov (.c (.int .i64 0))), []⟩]) (.block 2 (.loop l39_0)))))))
def c39 : Cmd := (.seq (.reg false [⟨(some 4), none, (.mov (.c .ns)), []⟩]) (.seq (.reg false [⟨(some 5), none, (.mov (.c .ns)), []⟩]) (.seq (.reg false [⟨(some 11), none, (.mov (.t 1)), []⟩, ⟨(some 12), none, (.bs 1 1 [(.int .i64 0)] [(0, (.t 11))]), []⟩, ⟨(some 6), none, (.mov (.t 12)), []⟩]) (.seq (.block 0 (.loop l39_1)) (.seq (.reg false [⟨(some 51), none, (.mov (.t 5)), []⟩, ⟨(some 4), none, (.mov (.t 51)), []⟩]) .ret)))))
theorem h39 : compF Tryd.prog sh 39 = some (c39, [4], 52) := by kernel_rfl
def c38 : Cmd := (.seq (.reg false [⟨(some 4), none, (.mov (.c (.bool false))), []⟩]) (.seq (.reg false [⟨(some 5), none, (.mov (.t 0)), []⟩, ⟨(some 6), none, (.mov (.t 1)), []⟩, ⟨(some 7), none, (.call 72 [(.t 5), (.t 6)]), []⟩, ⟨(some 8), none, (.bin .geq (.t 7) (.c (.int .i64 0))), []⟩, ⟨(some 4), none, (.mov (.t 8)), []⟩]) .ret))
theorem h38 : compF Tryd.prog sh 38 = some (c38, [4], 9) := by kernel_rfl
def k72_0 : Cmd := (.block 1 (.seq (.reg false [⟨(some 10), none, (.mov (.t 8)), []⟩, ⟨(some 5), none, (.mov (.t 10)), []⟩]) (.seq (.reg false [⟨(some 11), none, (.mov (.t 1)), []⟩, ⟨(some 12), none, (.mov (.t 0)), []⟩, ⟨(some 13), none, (.mov (.t 5)), []⟩, ⟨(some 14), none, (.iaddr (.t 12) (.t 13) 1), []⟩, ⟨(some 15), none, (.ld (.t 14) none), []⟩, ⟨(some 16), none, (.bin .eql (.t 11) (.t 15)), []⟩]) (.cond (.t 16) (.seq (.reg false [⟨(some 17), none, (.mov (.t 5)), []⟩, ⟨(some 4), none, (.mov (.t 17)), []⟩]) .ret) .skip))))
abbrev l72_0 : Cmd := cnt 0 9 8 7 18 k72_0
def c72 : Cmd := (.seq (.reg false [⟨(some 4), none, (.mov (.c (.int .i64 0))), []⟩]) (.seq (.seq (.reg false [⟨(some 6), none, (.mov (.t 0)), []⟩, ⟨(some 7), none, (.len false (.t 6)), []⟩, ⟨(some 8), none, (.mov (.c (.int .i64 0))), []⟩]) (.block 0 (.loop l72_0))) (.seq (.reg false [⟨(some 4), none, (.mov (.c (.int .i64 (-1)))), []⟩]) .ret)))
theorem h72 : compF Tryd.prog sh 72 = some (c72, [4], 19) := by kernel_rfl
end Go.Proofs.P4
end
section
set_option linter.unusedVariables false
set_option linter.unusedSimpArgs false
set_option maxRecDepth 10000
set_option maxHeartbeats 4000000
namespace Go.Proofs.P4
open Go.Ex
/-- Kind, Text, Label, N, Not. -/
abbrev Step := Int × List UInt8 × List UInt8 × Int × Bool
abbrev Prc := List UInt8 × List Step
def stepCd : Cd Step := .pair (.int .i64) (.pair .str (.pair .str (.pair (.int .i64) .bool)))
def procCd : Cd Prc := .pair .str (.slice stepCd)
def stepV (x : Step) : List V := [.int .i64 x.1, .str x.2.1, .str x.2.2.1, .int .i64 x.2.2.2.1, .bool x.2.2.2.2]
theorem step_cells (x : Step) : stepCd.cells x = stepV x := rfl
section
variable {h : Hp} {k : Nat} {kk : IntKind} {K : V → List Nat → Prop}
theorem step_ia {l : List Step} {a : Step} (e : l[k]? = some a) : iaddrK h (.ro l.length (fl stepCd l)) (.int kk k) 5 K ⟨⟩ = K (.rp (fl stepCd l) (k * 5)) [] := iaddr_fl rfl (by decide) e
theorem step_ld {l : List Step} {a : Step} (e : l[k]? = some a) : ldA h (.rp (fl stepCd l) (k * 5)) (some 5) = some (.agg (stepV a)) := ld_fls (n := 5) rfl e
theorem step_l0 {l : List Step} {a : Step} (e : l[k]? = some a) : ldA h (.rp (fl stepCd l) (k * 5)) none = some (.int .i64 a.1) := ld_fl0 (n := 5) rfl (by decide) e
theorem step_l1 {l : List Step} {a : Step} (e : l[k]? = some a) : ldA h (.rp (fl stepCd l) (k * 5 + 1)) none = some (.str a.2.1) := ld_fl (n := 5) rfl (by decide) e
theorem step_l2 {l : List Step} {a : Step} (e : l[k]? = some a) : ldA h (.rp (fl stepCd l) (k * 5 + 2)) none = some (.str a.2.2.1) := ld_fl (n := 5) rfl (by decide) e
theorem proc_ia {l : List Prc} {a : Prc} (e : l[k]? = some a) : iaddrK h (.ro l.length (fl procCd l)) (.int kk k) 2 K ⟨⟩ = K (.rp (fl procCd l) (k * 2)) [] := iaddr_fl rfl (by decide) e
theorem proc_ld {l : List Prc} {a : Prc} (e : l[k]? = some a) : ldA h (.rp (fl procCd l) (k * 2)) (some 2) = some (.agg [.str a.1, .ro a.2.length (fl stepCd a.2)]) := ld_fls (n := 2) rfl e
theorem proc_l0 {l : List Prc} {a : Prc} (e : l[k]? = some a) : ldA h (.rp (fl procCd l) (k * 2)) none = some (.str a.1) := ld_fl0 (n := 2) rfl (by decide) e
theorem proc_l1 {l : List Prc} {a : Prc} (e : l[k]? = some a) : ldA h (.rp (fl procCd l) (k * 2 + 1)) none = some (.ro a.2.length (fl stepCd a.2)) := ld_fl (n := 2) rfl (by decide) e
end
def goB (k : Int) : Bool := decide (k = 3) || decide (k = 4) || decide (k = 5)
theorem goesTo_ok (x : Step) : OkF Tryd.prog 35 [.agg (stepV x)] (.bool (goB x.1), []) := by
  refine OkF.W0 hm h35 (of_decide_eq_true rfl) ?_
  unfold c35
  simp -dsimp [stepV]
  repeat' (first
    | (refine condK_of ?_ ?_ <;> intro q <;> simp -dsimp [q])
    | (refine wantT_of ?_ ?_ <;> intro q <;> simp -dsimp [q])
    | (refine wantF_of ?_ ?_ <;> intro q <;> simp -dsimp [q]))
  all_goals simp_all [goB]
theorem labelled_ok (x : Step) : OkF Tryd.prog 92 [.agg (stepV x)] (.bool (goB x.1 || decide (x.1 = 8)), []) := by
  refine OkF.W0 hm h92 (of_decide_eq_true rfl) ?_
  unfold c92
  simp -dsimp [stepV]
  refine call_bool (goesTo_ok x) ?_
  simp -dsimp
  repeat' (first
    | (refine condK_of ?_ ?_ <;> intro q <;> simp -dsimp [q])
    | (refine wantT_of ?_ ?_ <;> intro q <;> simp -dsimp [q])
    | (refine wantF_of ?_ ?_ <;> intro q <;> simp -dsimp [q]))
  all_goals simp_all
/-- A label. -/
def isLab (s : List UInt8) (x : Step) : Bool := decide (x.1 = 8) && decide (x.2.2.1 = s)
theorem isLab_ok (s : List UInt8) (x : Step) {h : Hp} {nx b : Nat} (hb : b < nx) (hh : h b = some ⟨0, 0, [.str s], none⟩) : SEx Tryd.prog 69 [.agg (stepV x), .pt b 0 0] h nx (Quiet (.bool (isLab s x)) h nx) := by
  have hne : b ≠ nx := by omega
  refine SEx.of hm h69 (of_decide_eq_true rfl) ?_
  unfold c69
  simp -dsimp [stepV]
  repeat' (first
    | (refine condK_of ?_ ?_ <;> intro q <;> simp -dsimp [q, hne, hh])
    | (refine wantT_of ?_ ?_ <;> intro q <;> simp -dsimp [q, hne, hh])
    | (refine wantF_of ?_ ?_ <;> intro q <;> simp -dsimp [q, hne, hh]))
  all_goals
    refine ⟨by simp_all [isLab], by simp, fun j hj => ?_⟩
    have : j ≠ nx := by omega
    simp [this]
theorem labelAt_ok (l : List Step) (s : List UInt8) (hl : l.length < 2 ^ 62) : OkF Tryd.prog 36 [.ro l.length (fl stepCd l), .str s] (.int .i64 (ixI (isLab s) l), []) := by
  refine OkF.W0 hm h36 (of_decide_eq_true rfl) ?_
  unfold c36
  simp -dsimp
  refine shr_ex (indexFunc_ok (d := stepCd) hm h68 rfl (by decide) l hl (isLab s) (by kernel_rfl) fun a ha h' nx' h1 h2 => isLab_ok s a (by omega) (by rw [h2 0 (by omega)]; simp)) ?_
  rintro v h' nx' ⟨rfl, q1, q2⟩
  simp -dsimp
theorem isProc_ok (s : List UInt8) (x : Prc) {h : Hp} {nx b : Nat} (hb : b < nx) (hh : h b = some ⟨0, 0, [.str s], none⟩) : SEx Tryd.prog 71 [.agg (procCd.cells x), .pt b 0 0] h nx (Quiet (.bool (decide (x.1 = s))) h nx) := by
  have hne : b ≠ nx := by omega
  have e : procCd.cells x = [.str x.1, .ro x.2.length (fl stepCd x.2)] := rfl
  rw [e]
  refine SEx.of hm h71 (of_decide_eq_true rfl) ?_
  unfold c71
  simp -dsimp [hne, hh]
  refine ⟨rfl, by simp, fun j hj => ?_⟩
  have : j ≠ nx := by omega
  simp [this]
/-- The place of a procedure. -/
def prI (l : List Prc) (s : List UInt8) : Int := ixI (fun x => decide (x.1 = s)) l
theorem procAt_ok (l : List Prc) (s : List UInt8) (hl : l.length < 2 ^ 62) : OkF Tryd.prog 37 [.ro l.length (fl procCd l), .str s] (.int .i64 (prI l s), []) := by
  refine OkF.W0 hm h37 (of_decide_eq_true rfl) ?_
  unfold c37
  simp -dsimp
  refine shr_ex (indexFunc_ok (d := procCd) hm h70 rfl (by decide) l hl (fun x => decide (x.1 = s)) (by kernel_rfl) fun a ha h' nx' h1 h2 => isProc_ok s a (by omega) (by rw [h2 0 (by omega)]; simp)) ?_
  rintro v h' nx' ⟨rfl, q1, q2⟩
  simp -dsimp [prI]
end Go.Proofs.P4
end
section
set_option linter.unusedVariables false
set_option linter.unusedSimpArgs false
set_option maxRecDepth 10000
set_option maxHeartbeats 8000000
namespace Go.Proofs.P4
open Go.Ex
def txB (k : Int) : Bool := decide (k = 1) || decide (k = 6) || decide (k = 3) || decide (k = 4)
def nB (k : Int) : Bool := decide (k = 2) || decide (k = 3)
def laB (k : Int) : Bool := decide (k = 3) || decide (k = 4) || decide (k = 5) || decide (k = 8)
def formB (x : Step) : Bool := (txB x.1 || decide (x.2.1 = [])) && (nB x.1 || decide (x.2.2.2.1 = 0)) && (laB x.1 || decide (x.2.2.1 = [])) && (!x.2.2.2.2 || decide (x.1 = 4))
def stepE (x : Step) : Int := if !inB x.1 1 8 then 4 else if !formB x || decide (x.1 = 1) && !cmd x.2.1 then 3 else if txB x.1 && !decide (x.1 = 1) && !nm x.2.1 then 5 else if nB x.1 && !inB x.2.2.2.1 1 1000000000 then 1 else if laB x.1 && !nm x.2.2.1 then 5 else 0
def stepOk (x : Step) : Prop := x.2.1.length < 2 ^ 62 ∧ x.2.2.1.length < 2 ^ 62
theorem kinds8 (k : Int) : k = 1 ∨ k = 2 ∨ k = 3 ∨ k = 4 ∨ k = 5 ∨ k = 6 ∨ k = 7 ∨ k = 8 ∨ (¬ k = 1 ∧ ¬ k = 2 ∧ ¬ k = 3 ∧ ¬ k = 4 ∧ ¬ k = 5 ∧ ¬ k = 6 ∧ ¬ k = 7 ∧ ¬ k = 8 ∧ inB k 1 8 = false) := by
  have : inB k 1 8 = false ∨ (1 ≤ k ∧ k ≤ 8) := by
    by_cases h : 1 ≤ k ∧ k ≤ 8
    · exact .inr h
    · left; unfold inB; simp; omega
  rcases this with h | h
  · have : ¬ (1 ≤ k ∧ k ≤ 8) := by unfold inB at h; simp at h; omega
    exact .inr (.inr (.inr (.inr (.inr (.inr (.inr (.inr ⟨by omega, by omega, by omega, by omega, by omega, by omega, by omega, by omega, h⟩)))))))
  · omega
theorem i81 : inB 1 1 8 = true := rfl
theorem i82 : inB 2 1 8 = true := rfl
theorem i83 : inB 3 1 8 = true := rfl
theorem i84 : inB 4 1 8 = true := rfl
theorem i85 : inB 5 1 8 = true := rfl
theorem i86 : inB 6 1 8 = true := rfl
theorem i87 : inB 7 1 8 = true := rfl
theorem i88 : inB 8 1 8 = true := rfl
theorem labelled_ok' (k : Int) (t la : List UInt8) (n : Int) (nt : Bool) : OkF Tryd.prog 92 [.agg [.int .i64 k, .str t, .str la, .int .i64 n, .bool nt]] (.bool (goB k || decide (k = 8)), []) := labelled_ok (k, t, la, n, nt)
theorem checkStep_ok (x : Step) (hx : stepOk x) : OkF Tryd.prog 67 [.agg (stepV x)] (.int .i64 (stepE x), []) := by
  obtain ⟨k, t, la, n, nt⟩ := x
  obtain ⟨ht, hl⟩ := hx
  simp only at ht hl
  refine OkF.W0 hm h67 (of_decide_eq_true rfl) ?_
  unfold c67
  rcases kinds8 k with rfl | rfl | rfl | rfl | rfl | rfl | rfl | rfl | ⟨h1, h2, h3, h4, h5, h6, h7, h8, h9⟩
  all_goals
    simp -dsimp [stepV, seqA, eqCells, tagOf, fillS, disj, idOf, *]
    repeat' (first
      | (refine condK_of ?_ ?_ <;> intro q <;> simp -dsimp [q, *, seqA, eqCells, tagOf, fillS, disj, idOf])
      | (refine wantT_of ?_ ?_ <;> intro q <;> simp -dsimp [q, *, seqA, eqCells, tagOf, fillS, disj, idOf])
      | (refine wantF_of ?_ ?_ <;> intro q <;> simp -dsimp [q, *, seqA, eqCells, tagOf, fillS, disj, idOf])
      | (refine call_bool (command_ok _ ht) ?_; simp -dsimp [*, seqA, eqCells, tagOf, fillS, disj, idOf])
      | (refine call_bool (name_ok _) ?_; simp -dsimp [*, seqA, eqCells, tagOf, fillS, disj, idOf])
      | (refine call_bool (inB_ok _ _ _) ?_; simp -dsimp [*, seqA, eqCells, tagOf, fillS, disj, idOf])
      | (refine call_bool (labelled_ok' _ _ _ _ _) ?_; simp -dsimp [goB, *]))
  all_goals (simp_all [stepE, formB, txB, nB, laB, goB, i81, i82, i83, i84, i85, i86, i87, i88] <;> (intros; simp_all))
theorem lab_dup {l : List Step} {i : Nat} {x : Step} {s : List UInt8} (hg : l[i]? = some x) (hs : isLab s x = true) : decide (ixI (isLab s) l < i) = decide (0 ≤ ixI (isLab s) (l.take i)) := by
  have hi := (List.getElem?_eq_some_iff.1 hg).1
  rw [Bool.eq_iff_iff, decide_eq_true_eq, decide_eq_true_eq]
  rcases ixI_cases (isLab s) (l.take i) with ⟨h1, h2⟩ | ⟨k, a, h1, h2, h3, h4⟩
  · rw [h1]
    have : ixI (isLab s) l = i := ixI_stop (fun j b hj hb => h2 b (List.mem_of_getElem? (by rw [List.getElem?_take, if_pos hj]; exact hb))) hg hs
    omega
  · rw [h1]
    have hk := (List.getElem?_eq_some_iff.1 h2).1
    simp at hk
    have hka : l[k]? = some a := by rw [← h2, List.getElem?_take, if_pos (by omega)]
    have : ixI (isLab s) l = k := ixI_stop (fun j b hj hb => h4 j b hj (by rw [List.getElem?_take, if_pos (by omega)]; exact hb)) hka h3
    omega
def stE (l : List Step) (k : Nat) : Int := match l[k]? with
  | none => 0
  | some x => if stepE x ≠ 0 then stepE x else if decide (x.1 = 8) && decide (0 ≤ ixI (isLab x.2.2.1) (l.take k)) then 7 else 0
def procE (p : Prc) : Int := if !nm p.1 then 5 else if 200 < p.2.length then 2 else fe (stE p.2) p.2.length
theorem checkProc_ok (nam : List UInt8) (l : List Step) (hok : ∀ x ∈ l, stepOk x) : OkF Tryd.prog 34 [.agg [.str nam, .ro l.length (fl stepCd l)]] (.int .i64 (procE (nam, l)), []) := by
  refine OkF.W0 hm h34 (of_decide_eq_true rfl) ?_
  unfold c34
  simp -dsimp
  refine call_bool (name_ok _) ?_
  simp -dsimp
  refine condK_of ?_ ?_ <;> intro q <;> simp -dsimp
  · simp_all [procE]
  refine condK_of ?_ ?_ <;> intro q1 <;> simp -dsimp
  · have : 200 < l.length := by simp at q1; omega
    simp_all [procE]
  have hl : l.length ≤ 200 := by simp at q1; omega
  have hE : procE (nam, l) = fe (stE l) l.length := by
    unfold procE
    simp at q
    rw [if_neg (by simp [q]), if_neg (by simp; omega)]
  refine for_lt l.length (fun k t => t.t 1 = .pt 0 0 0 ∧ 0 < t.nx ∧ t.h 0 = some ⟨0, 0, [.str nam, .ro l.length (fl stepCd l)], none⟩ ∧ t.t 17 = .ro l.length (fl stepCd l) ∧ fe (stE l) k = 0) rfl (by omega) (by simp -dsimp [fe]) (by simp -dsimp) (by simp -dsimp) (fun k t hk hI hi hn => ?_) (fun t hI hi hn => ?_)
  · obtain ⟨i1, inx, ih, i17, iu⟩ := hI
    have hg : l[k]? = some l[k] := List.getElem?_eq_getElem hk
    have hmem := List.getElem_mem hk
    generalize l[k] = x at hg hmem
    have hch : stE l k = if stepE x ≠ 0 then stepE x else if decide (x.1 = 8) && decide (0 ≤ ixI (isLab x.2.2.1) (l.take k)) then 7 else 0 := by unfold stE; rw [hg]
    have bad : ∀ v, stE l k = v → v ≠ 0 → procE (nam, l) = v := fun v h1 h2 => by rw [hE, fe_stop iu (by rw [h1]; exact h2) hk, h1]
    have hne : (0 : Nat) ≠ t.nx := by omega
    have hla := labelAt_ok (l.take k) x.2.2.1 (by rw [List.length_take]; omega)
    rw [List.length_take] at hla
    unfold k34_0
    simp -dsimp [i1, i17, hi, hn, step_ia hg, step_ld hg, stepV]
    refine call_int (checkStep_ok x (hok x hmem)) ?_
    simp -dsimp
    refine condK_of ?_ ?_ <;> intro a1 <;> simp -dsimp [i1, hne, ih]
    · simp at a1
      rw [bad (stepE x) (by rw [hch, if_pos a1]) a1]
    simp at a1
    refine wantT_of ?_ ?_ <;> intro a2 <;> simp -dsimp [i1, hne, ih, a2, hi, hn, i17, inx]
    · rw [slcK_ro (slc_ro_hi (d := stepCd) (esz := 5) rfl (Nat.le_of_lt hk))]
      simp -dsimp [disj, idOf, i1, hne, ih]
      refine call_int hla ?_
      simp -dsimp [disj, idOf]
      refine condK_of ?_ ?_ <;> intro a3 <;> simp -dsimp [i1, hne, ih, a2, hi, hn, i17, inx]
      · rw [bad 7 (by rw [hch]; simp_all) (by decide)]
      · have hx := fe_step iu (by rw [hch]; simp_all)
        first | exact hx | exact ⟨by omega, hx⟩
    · have hx := fe_step iu (by rw [hch]; simp_all)
      first | exact hx | exact ⟨by omega, hx⟩
  · simp -dsimp [hE, hI.2.2.2.2]
end Go.Proofs.P4
end
section
set_option linter.unusedVariables false
set_option linter.unusedSimpArgs false
set_option maxRecDepth 10000
set_option maxHeartbeats 8000000
namespace Go.Proofs.P4
open Go.Ex
/-- Reached in one step or more. -/
inductive Tc {α : Type} (R : α → α → Prop) (a : α) : α → Prop where
  | one {b} : R a b → Tc R a b
  | more {b c} : Tc R a b → R b c → Tc R a c
theorem length_le {α : Type} [BEq α] [LawfulBEq α] : ∀ (l r : List α), l.Nodup → (∀ x ∈ l, x ∈ r) → l.length ≤ r.length
  | [], r, _, _ => by simp
  | x :: l, r, hn, hs => by
    rw [List.nodup_cons] at hn
    have hx := hs x (by simp)
    have := length_le l (r.erase x) hn.2 fun y hy => (List.mem_erase_of_ne (fun e => hn.1 (by rw [← e]; exact hy))).2 (hs y (by simp [hy]))
    rw [List.length_erase_of_mem hx] at this
    have := List.length_pos_of_mem hx
    simp
    omega
theorem nodup_le {l : List Int} {n : Nat} (hn : l.Nodup) (h : ∀ k ∈ l, 0 ≤ k ∧ k < n) : l.length ≤ n := by
  have := length_le l ((List.range n).map fun (i : Nat) => (i : Int)) hn fun x hx => by
    obtain ⟨h1, h2⟩ := h x hx
    rw [List.mem_map]
    exact ⟨x.toNat, by rw [List.mem_range]; omega, by omega⟩
  simpa using this
theorem prI_lt (p : List Prc) (s : List UInt8) : prI p s < p.length := by
  unfold prI
  rcases ixI_cases (fun x : Prc => decide (x.1 = s)) p with ⟨h1, _⟩ | ⟨k, a, h1, h2, _⟩
  · rw [h1]; omega
  · rw [h1]
    have := (List.getElem?_eq_some_iff.1 h2).1
    omega
/-- The procedure a has a step that calls b. -/
def cl (p : List Prc) (a b : Int) : Prop := ∃ x s, p[a.toNat]? = some x ∧ s ∈ x.2 ∧ s.1 = 6 ∧ prI p s.2.1 = b
def CG (p : List Prc) (i : Nat) (out todo : List Int) (proc : Int → Prop) : Prop := (out.Nodup ∧ todo.length ≤ out.length + 1) ∧ (∀ k ∈ out, 0 ≤ k ∧ k < p.length ∧ Tc (cl p) i k) ∧ (∀ k ∈ todo, k = i ∨ k ∈ out) ∧ (∀ a, (a = (i : Int) ∨ a ∈ out) → a ∈ todo ∨ proc a)
/-- Two rows that grow, apart. -/
def TwoAcc (t : St) (a b : Nat) (out todo : List Int) : Prop := Acc (Cd.int .i64) t.h t.nx (t.t a) out ∧ Acc (Cd.int .i64) t.h t.nx (t.t b) todo ∧ (∀ j, ownOf (t.t a) = some j → ownOf (t.t b) ≠ some j)
def CI (p : List Prc) (i m : Nat) (t : St) : Prop := ∃ out todo, t.t 0 = .ro p.length (fl procCd p) ∧ TwoAcc t 5 6 out todo ∧ CG p i out todo (fun a => ∀ b, cl p a b → b ∈ out) ∧ m + 2 * out.length = 2 * p.length + todo.length
def CJ (p : List Prc) (x : Prc) (i cn m j : Nat) (s : St) : Prop := ∃ out' todo', s.t 0 = .ro p.length (fl procCd p) ∧ s.t 25 = .ro x.2.length (fl stepCd x.2) ∧ TwoAcc s 5 6 out' todo' ∧
          CG p i out' todo' (fun a => a = cn ∨ ∀ b, cl p a b → b ∈ out') ∧ (cn = i ∨ (cn : Int) ∈ out') ∧ (∀ j' s, j' < j → x.2[j']? = some s → s.1 = 6 → prI p s.2.1 ∈ out') ∧ todo'.length + 2 * p.length + 1 ≤ m + 2 * out'.length
theorem calls_ok (p : List Prc) (i : Nat) (hi : i < p.length) (hp : p.length ≤ 50) (hst : ∀ x ∈ p, x.2.length ≤ 200) (hres : ∀ x ∈ p, ∀ s ∈ x.2, s.1 = 6 → 0 ≤ prI p s.2.1) :
    ∃ out : List Int, (out.length ≤ 50 ∧ ∀ k, k ∈ out ↔ Tc (cl p) i k) ∧ OkF Tryd.prog 39 [.ro p.length (fl procCd p), .int .i64 i] (.ro out.length (fl (Cd.int .i64) out), []) := by
  have key : ∃ v, (∃ out : List Int, (out.length ≤ 50 ∧ ∀ k, k ∈ out ↔ Tc (cl p) i k) ∧ v = .ro out.length (fl (Cd.int .i64) out)) ∧ OkF Tryd.prog 39 [.ro p.length (fl procCd p), .int .i64 i] (v, []) := by
    refine OkF.ex0 hm h39 (of_decide_eq_true rfl) ?_
    unfold c39
    simp -dsimp [fillA]
    have hout : ∀ out todo proc, CG p i out todo proc → out.length ≤ p.length := fun out todo proc hG => nodup_le hG.1.1 fun k hk => ⟨(hG.2.1 k hk).1, (hG.2.1 k hk).2.1⟩
    refine loop_dec (CI p i) (2 * p.length + 1) ?_ (fun m t hI => ?_)
    · refine ⟨[], [(i : Int)], by simp -dsimp, ⟨by simp -dsimp; exact .nil _ _, ?_, ?_⟩, ⟨⟨by simp, by simp⟩, by simp, by simp, by simp⟩, by simp⟩
      · simp -dsimp
        exact Acc.mk (d := Cd.int .i64) (l := [(i : Int)]) (by simp) (by simp [fl])
      · simp -dsimp [ownOf]
    · obtain ⟨out, todo, i0, ⟨ho, ht, hd⟩, hG, hm'⟩ := hI
      have holen := hout _ _ _ hG
      unfold l39_1
      simp -dsimp [i0, ht.len]
      refine condK_of ?_ ?_ <;> intro q <;> simp -dsimp [q]
      · -- a round
        obtain ⟨cur, rest, rfl⟩ : ∃ c r, todo = c :: r := by
          cases todo with
          | nil => simp at q
          | cons c r => exact ⟨c, r, rfl⟩
        have hcur := hG.2.2.1 cur (by simp)
        have hcr : 0 ≤ cur ∧ cur < p.length := by
          rcases hcur with h | h
          · omega
          · exact ⟨(hG.2.1 cur h).1, (hG.2.1 cur h).2.1⟩
        obtain ⟨cn, rfl⟩ : ∃ n : Nat, cur = n := ⟨cur.toNat, by omega⟩
        have hcn : cn < p.length := by omega
        have hg : p[cn]? = some p[cn] := List.getElem?_eq_getElem hcn
        have hmem : p[cn] ∈ p := List.getElem_mem hcn
        generalize p[cn] = x at hg hmem
        obtain ⟨id, ver, off, a1, a2, a3, a4, a5, a6⟩ := ht.at (k := 0) (x := (cn : Int)) rfl (by decide)
        have a3' := fun K => a3 .i64 K
        simp only [Int.natCast_zero] at a3'
        have a6' : ldA t.h (.pt id ver off) none = some (.int .i64 cn) := a6
        have hsz : (Cd.int .i64).sz = 1 := rfl
        rw [hsz] at a3'
        have hne : ∀ j, j < t.nx → j ≠ t.nx := fun j hj => by omega
        simp -dsimp [i0, a3', a6', proc_ia hg, proc_ld hg]
        generalize hh1 : upd (upd t.h t.nx _) t.nx _ = h1
        have hf1 : ∀ j, j < t.nx → h1 j = t.h j := fun j hj => by rw [← hh1]; simp [hne j hj]
        have ht1 := ht.mono (Nat.le_succ t.nx) hf1
        have ho1 := ho.mono (Nat.le_succ t.nx) hf1
        have hx1 : h1 t.nx = some ⟨0, 0, [.str x.1, .ro x.2.length (fl stepCd x.2)], none⟩ := by rw [← hh1]; simp
        obtain ⟨v', id', b1, b2, b3, b4⟩ := ht1.tail (n := 1) (by simp) (by simp)
        have b4' := fun nx' K => b4 .i64 nx' K
        rw [hsz] at b4'
        simp only [Int.natCast_one] at b4'
        simp only [List.drop_succ_cons, List.drop_zero] at b3
        simp -dsimp [b4', hx1]
        have hxs := hst x hmem
        refine for_lt x.2.length (CJ p x i cn m) rfl (by omega) ?_ (by simp -dsimp) (by simp -dsimp) (fun j s hj hJ hji hjn => ?_) (fun s hJ hji hjn => ?_)
        · refine ⟨out, rest, by simp -dsimp [i0], by simp -dsimp, ⟨by simp -dsimp; exact ho1, by simp -dsimp; exact b3, by simp -dsimp; intro j hj; rw [b2]; rw [b1] at hd; exact hd j hj⟩, ?_, hcur.imp (fun h => by omega) (fun h => h), by simp, by simp at hm'; omega⟩
          refine ⟨⟨hG.1.1, by have := hG.1.2; simp at this; omega⟩, hG.2.1, fun k hk => hG.2.2.1 k (by simp [hk]), fun a ha => ?_⟩
          rcases hG.2.2.2 a ha with h | h
          · simp at h
            rcases h with h | h
            · exact .inr (.inl h)
            · exact .inl h
          · exact .inr (.inr h)
        · obtain ⟨out', todo', j0, j25, ⟨jo, jt, jd⟩, jG, jc, jp, jm⟩ := hJ
          have jol := hout _ _ _ jG
          have jtl := jG.1.2
          have hgj : x.2[j]? = some x.2[j] := List.getElem?_eq_getElem hj
          have hmj : x.2[j] ∈ x.2 := List.getElem_mem hj
          generalize x.2[j] = y at hgj hmj
          have hnx : ∀ j, j < s.nx → j ≠ s.nx := fun j hj => by omega
          unfold k39_0
          simp -dsimp [j0, j25, hji, hjn, step_ia hgj, step_ld hgj, stepV]
          generalize hh2 : upd (upd s.h s.nx _) s.nx _ = h2
          have hf2 : ∀ j, j < s.nx → h2 j = s.h j := fun j hj => by rw [← hh2]; simp [hnx j hj]
          have hx2 : h2 s.nx = some ⟨0, 0, [.int .i64 y.1, .str y.2.1, .str y.2.2.1, .int .i64 y.2.2.2.1, .bool y.2.2.2.2], none⟩ := by rw [← hh2]; simp
          have jo2 := jo.mono (Nat.le_succ s.nx) hf2
          have jt2 := jt.mono (Nat.le_succ s.nx) hf2
          refine condK_of ?_ ?_ <;> intro q1 <;> simp -dsimp [j0, j25, hji, hjn, hx2]
          · refine ⟨out', todo', by simp -dsimp [j0], by simp -dsimp [j25], ⟨by simpa -dsimp using jo2, by simpa -dsimp using jt2, by simpa -dsimp using jd⟩, jG, jc, fun j' s' hj' hs' h6 => ?_, jm⟩
            by_cases e : j' = j
            · subst e
              rw [hgj] at hs'
              injection hs' with hs'
              subst hs'
              simp [h6] at q1
            · exact jp j' s' (by omega) hs' h6
          have hy6 : y.1 = 6 := by simpa using q1
          have hpr0 := hres x hmem y hmj hy6
          have hprl := prI_lt p y.2.1
          have hcl : cl p cn (prI p y.2.1) := ⟨x, y, by simpa using hg, hmj, hy6, rfl⟩
          have hTc : Tc (cl p) i (prI p y.2.1) := by
            rcases jc with h | h
            · subst h; exact .one hcl
            · exact .more (jG.2.1 _ h).2.2 hcl
          refine call_int (procAt_ok p _ (by omega)) ?_
          simp -dsimp [jo2.ro]
          refine call_bool (contains_int hm h38 h72 out' (by omega) _) ?_
          simp -dsimp
          refine condK_of ?_ ?_ <;> intro q2 <;> simp -dsimp [j0, j25, hji, hjn]
          · -- a new one
            have hnew : prI p y.2.1 ∉ out' := by simpa using q2
            have hG' : ∀ (todo'' : List Int), todo'' = todo' ++ [prI p y.2.1] → CG p i (out' ++ [prI p y.2.1]) todo'' (fun a => a = cn ∨ ∀ b, cl p a b → b ∈ out' ++ [prI p y.2.1]) := by
              intro todo'' h
              subst h
              refine ⟨?_, ?_, ?_, ?_⟩
              · refine ⟨?_, by have := jG.1.2; simp; omega⟩
                rw [List.nodup_append]
                refine ⟨jG.1.1, by simp, fun a ha b hb => ?_⟩
                simp at hb
                subst hb
                exact fun e => hnew (e ▸ ha)
              · intro k hk
                rw [List.mem_append] at hk
                rcases hk with hk | hk
                · exact jG.2.1 k hk
                · simp at hk; subst hk; exact ⟨hpr0, hprl, hTc⟩
              · intro k hk
                rw [List.mem_append] at hk
                rcases hk with hk | hk
                · rcases jG.2.2.1 k hk with h | h
                  · exact .inl h
                  · exact .inr (List.mem_append_left _ h)
                · exact .inr (List.mem_append_right _ hk)
              · intro a ha
                by_cases e : a = prI p y.2.1
                · exact .inl (List.mem_append_right _ (by simp [e]))
                · have ha' : a = (i : Int) ∨ a ∈ out' := by
                    rcases ha with h | h
                    · exact .inl h
                    · rw [List.mem_append] at h
                      rcases h with h | h
                      · exact .inr h
                      · simp at h; exact absurd h e
                  rcases jG.2.2.2 a ha' with h | h | h
                  · exact .inl (List.mem_append_left _ h)
                  · exact .inr (.inl h)
                  · exact .inr (.inr fun b hb => List.mem_append_left _ (h b hb))
            have hlen : (out' ++ [prI p y.2.1]).length ≤ p.length := hout _ _ _ (hG' _ rfl)
            simp at hlen
            simp -dsimp [fillA]
            generalize hh3 : upd h2 (s.nx + 1) _ = h3
            have hf3 : ∀ j, j < s.nx + 1 → h3 j = h2 j := fun j hj => (by rw [← hh3]; have e : j ≠ s.nx + 1 := (by omega); simp [e])
            have hx3 : h3 (s.nx + 1) = some ⟨0, 1, [.int .i64 (prI p y.2.1)], none⟩ := by rw [← hh3]; simp
            refine app_acc (d := Cd.int .i64) (l' := [prI p y.2.1]) (jo2.mono (Nat.le_succ _) hf3) rfl rfl (by simp; omega) (by simp; omega) fun v1 h4 nx4 c1 c2 c3 c4 => ?_
            simp -dsimp [fillA, j0, j25, hji, hjn]
            generalize hh5 : upd h4 nx4 _ = h5
            have hf5 : ∀ j, j < nx4 → h5 j = h4 j := fun j hj => (by rw [← hh5]; have e : j ≠ nx4 := (by omega); simp [e])
            have hx5 : h5 nx4 = some ⟨0, 1, [.int .i64 (prI p y.2.1)], none⟩ := by rw [← hh5]; simp
            have jt4 : Acc (Cd.int .i64) h4 nx4 (s.t 6) todo' := (jt2.mono (Nat.le_succ _) hf3).keep c2 fun j hj1 hj2 => c3 j hj1 fun e => jd j e hj2
            refine app_acc (d := Cd.int .i64) (l' := [prI p y.2.1]) (jt4.mono (Nat.le_succ _) hf5) rfl rfl (by simp; omega) (by simp; omega) fun v2 h6 nx6 e1 e2 e3 e4 => ?_
            simp -dsimp [j0, j25, hji, hjn]
            have hdis : ∀ j, ownOf v1 = some j → ownOf v2 = some j → False := fun j hj1 hj2 => by
              rcases e4 j hj2 with h | h
              · rcases c4 j hj1 with h' | h'
                · exact jd j h' h
                · have := jt2.own h
                  omega
              · have := c1.own hj1
                omega
            refine ⟨out' ++ [prI p y.2.1], todo' ++ [prI p y.2.1], by simp -dsimp [j0], by simp -dsimp [j25], ⟨by simp -dsimp; exact (c1.mono (Nat.le_succ _) hf5).keep e2 (fun j hj1 hj2 => e3 j hj1 fun e => (c4 j hj2).elim (fun h => jd j h e) (fun h => by have := jt2.own e; omega)), by simpa -dsimp using e1, by simp -dsimp; exact fun j hj1 hj2 => hdis j hj1 hj2⟩, hG' _ rfl, ?_, fun j' s' hj' hs' h6 => ?_, by simp; omega⟩
            · rcases jc with h | h
              · exact .inl h
              · exact .inr (List.mem_append_left _ h)
            · by_cases e : j' = j
              · subst e
                rw [hgj] at hs'
                injection hs' with hs'
                subst hs'
                simp
              · exact List.mem_append_left _ (jp j' s' (by omega) hs' h6)
          · refine ⟨out', todo', by simp -dsimp [j0], by simp -dsimp [j25], ⟨by simpa -dsimp using jo2, by simpa -dsimp using jt2, by simpa -dsimp using jd⟩, jG, jc, fun j' s' hj' hs' h6 => ?_, jm⟩
            by_cases e : j' = j
            · subst e
              rw [hgj] at hs'
              injection hs' with hs'
              subst hs'
              simpa using q2
            · exact jp j' s' (by omega) hs' h6
        · obtain ⟨out', todo', j0, j25, ⟨jo, jt, jd⟩, jG, jc, jp, jm⟩ := hJ
          simp -dsimp [j0]
          refine ⟨todo'.length + 2 * p.length - 2 * out'.length, ?_, out', todo', by simp -dsimp [j0], ⟨by simpa -dsimp using jo, by simpa -dsimp using jt, by simpa -dsimp using jd⟩, ⟨jG.1, jG.2.1, jG.2.2.1, fun a ha => ?_⟩, ?_⟩
          · have := hout _ _ _ jG
            omega
          · rcases jG.2.2.2 a ha with h | h | h
            · exact .inl h
            · refine .inr fun b hb => ?_
              subst h
              obtain ⟨x', s', hx', hs', h6, rfl⟩ := hb
              have : x' = x := by
                have := hx'.symm.trans (by simpa using hg)
                injection this
              subst this
              obtain ⟨j', hj'⟩ := List.getElem?_of_mem hs'
              exact jp j' s' (List.getElem?_eq_some_iff.1 hj').1 hj' h6
            · exact .inr h
          · have := hout _ _ _ jG
            omega
      · -- the end
        have : todo = [] := by
          cases todo with
          | nil => rfl
          | cons c r => simp at q
        subst this
        refine ⟨_, ho.ex, out, ⟨by omega, fun k => ⟨fun hk => (hG.2.1 k hk).2.2, fun hk => ?_⟩⟩, rfl⟩
        induction hk with
        | one h =>
          rcases hG.2.2.2 i (.inl rfl) with h' | h'
          · simp at h'
          · exact h' _ h
        | more h1 h2 ih =>
          rcases hG.2.2.2 _ (.inr ih) with h' | h'
          · simp at h'
          · exact h' _ h2
  obtain ⟨v, ⟨out, ho, rfl⟩, h⟩ := key
  exact ⟨out, ho, h⟩
end Go.Proofs.P4
end
section
set_option linter.unusedVariables false
set_option linter.unusedSimpArgs false
set_option maxRecDepth 10000
set_option maxHeartbeats 8000000
namespace Go.Proofs.P4
open Go.Ex
theorem prI_get {p : List Prc} {s : List UInt8} (h : 0 ≤ prI p s) : ∃ x, p[(prI p s).toNat]? = some x ∧ x.1 = s := by
  unfold prI at h ⊢
  rcases ixI_cases (fun x : Prc => decide (x.1 = s)) p with ⟨h1, _⟩ | ⟨k, a, h1, h2, h3, _⟩
  · omega
  · rw [h1]
    exact ⟨a, by simpa using h2, by simpa using h3⟩
theorem prI_inj {p : List Prc} {s t : List UInt8} (h : 0 ≤ prI p s) (e : prI p s = prI p t) : s = t := by
  obtain ⟨x, h1, h2⟩ := prI_get h
  obtain ⟨y, h3, h4⟩ := prI_get (p := p) (s := t) (by omega)
  rw [← e, h1] at h3
  injection h3 with h3
  rw [← h2, ← h4, h3]
def TwoS (t : St) (a b : Nat) (l m : List (List UInt8)) : Prop := Acc Cd.str t.h t.nx (t.t a) l ∧ Acc Cd.str t.h t.nx (t.t b) m ∧ (∀ j, ownOf (t.t a) = some j → ownOf (t.t b) ≠ some j)
def DG (p : List Prc) (from' to : List UInt8) (seen : List (List UInt8)) : Prop := seen.Nodup ∧ (∀ s ∈ seen, 0 ≤ prI p s ∧ s ≠ to ∧ Tc (cl p) (prI p from') (prI p s))
def DC (p : List Prc) (seen : List (List UInt8)) (a : List UInt8) (n : Nat) : Prop := ∀ x j s, p[(prI p a).toNat]? = some x → j < n → x.2[j]? = some s → s.1 = 6 → s.2.1 ∈ seen
def DI (p : List Prc) (from' to : List UInt8) (m : Nat) (t : St) : Prop := ∃ (at' : Nat) (seen : List (List UInt8)), t.t 0 = .ro p.length (fl procCd p) ∧ t.t 2 = .str to ∧ t.t 9 = .int .i64 at' ∧ TwoS t 7 8 seen (from' :: seen) ∧ DG p from' to seen ∧
  (∀ k a, k < at' → (from' :: seen)[k]? = some a → ∀ n, DC p seen a n) ∧ m + at' = p.length + 1
def DJ (p : List Prc) (x : Prc) (from' to : List UInt8) (at' j : Nat) (c : Nat) (t : St) : Prop := ∃ (seen : List (List UInt8)) (cur : List UInt8), t.t 11 = .int .i64 j ∧ t.t 0 = .ro p.length (fl procCd p) ∧ t.t 2 = .str to ∧ t.t 9 = .int .i64 at' ∧ t.t 10 = .pt c 0 0 ∧ c < t.nx ∧
  t.h c = some ⟨0, 0, [.str x.1, .ro x.2.length (fl stepCd x.2)], none⟩ ∧ (∀ k, ownOf (t.t 7) = some k → k ≠ c) ∧ (∀ k, ownOf (t.t 8) = some k → k ≠ c) ∧ TwoS t 7 8 seen (from' :: seen) ∧ DG p from' to seen ∧
  (∀ k a, k < at' → (from' :: seen)[k]? = some a → ∀ n, DC p seen a n) ∧ (from' :: seen)[at']? = some cur ∧ p[(prI p cur).toNat]? = some x ∧ DC p seen cur j
end Go.Proofs.P4
end
section
set_option linter.unusedVariables false
set_option linter.unusedSimpArgs false
set_option maxRecDepth 10000
set_option maxHeartbeats 8000000
namespace Go.Proofs.P4
open Go.Ex
theorem bl_irrefl : ∀ a : List UInt8, Op.bytesLess a a = false
  | [] => rfl
  | a :: x => by
    unfold Op.bytesLess
    simp [bl_irrefl x]
theorem bl_trans : ∀ a b c : List UInt8, Op.bytesLess a b = true → Op.bytesLess b c = true → Op.bytesLess a c = true
  | _, _, [], _, h => by simp [Op.bytesLess] at h
  | _, [], _ :: _, h, _ => by simp [Op.bytesLess] at h
  | [], _ :: _, _ :: _, _, _ => by simp [Op.bytesLess]
  | a :: x, b :: y, c :: z, h1, h2 => by
    simp only [Op.bytesLess, Bool.or_eq_true, decide_eq_true_eq, Bool.and_eq_true, beq_iff_eq] at h1 h2 ⊢
    rcases h1 with h1 | ⟨rfl, h1⟩
    · rcases h2 with h2 | ⟨rfl, h2⟩
      · exact .inl (by rw [UInt8.lt_iff_toNat_lt] at *; omega)
      · exact .inl h1
    · rcases h2 with h2 | ⟨rfl, h2⟩
      · exact .inl h2
      · exact .inr ⟨rfl, bl_trans x y z h1 h2⟩
theorem bl_total : ∀ a b : List UInt8, Op.bytesLess a b = false → a ≠ b → Op.bytesLess b a = true
  | [], [], _, h => absurd rfl h
  | a :: x, [], _, _ => rfl
  | [], b :: y, h, _ => by simp [Op.bytesLess] at h
  | a :: x, b :: y, h1, h2 => by
    simp only [Op.bytesLess, Bool.or_eq_false_iff, decide_eq_false_iff_not, Bool.and_eq_false_iff, Bool.or_eq_true, decide_eq_true_eq, Bool.and_eq_true, beq_iff_eq, beq_eq_false_iff_ne] at h1 ⊢
    obtain ⟨h1, h3⟩ := h1
    rw [UInt8.lt_iff_toNat_lt] at h1
    by_cases e : a = b
    · subst e
      refine .inr ⟨rfl, bl_total x y (by simpa using h3) fun e => h2 (by rw [e])⟩
    · left
      rw [UInt8.lt_iff_toNat_lt]
      have : a.toNat ≠ b.toNat := fun q => e (UInt8.toNat_inj.1 q)
      omega
def procsE1 (p : List Prc) (k : Nat) : Int := match p[k]? with
  | none => 0
  | some x => if procE x ≠ 0 then procE x else if before p (fun y => leS x.1 y.1) k then 8 else 0
def noStep (p : List Prc) (x : Prc) (s : Step) : Bool := (goB s.1 && decide (ixI (isLab s.2.2.1) x.2 < 0)) || (decide (s.1 = 6) && decide (prI p s.2.1 < 0))
def noProc (p : List Prc) (x : Prc) : Bool := x.2.any (noStep p x)
open Classical in
noncomputable def loopB (p : List Prc) (i : Nat) : Bool := decide (Tc (cl p) i i)
open Classical in
noncomputable def procsE (p : List Prc) : Int := if 50 < p.length then 2 else if fe (procsE1 p) p.length ≠ 0 then fe (procsE1 p) p.length else if p.any (noProc p) then 9 else if ∃ i, i < p.length ∧ loopB p i = true then 17 else 0
def procOk (x : Prc) : Prop := x.1.length < 2 ^ 62 ∧ ∀ s ∈ x.2, stepOk s
/-- What the first round shows. -/
structure Right1 (p : List Prc) : Prop where
  steps : ∀ x ∈ p, x.2.length ≤ 200 ∧ nm x.1 = true ∧ (∀ s ∈ x.2, stepE s = 0)
  order : ∀ (i j : Nat) x y, i < j → p[i]? = some x → p[j]? = some y → Op.bytesLess x.1 y.1 = true
theorem procE_zero {x : Prc} (h : procE x = 0) : x.2.length ≤ 200 ∧ nm x.1 = true ∧ (∀ s ∈ x.2, stepE s = 0) := by
  unfold procE at h
  split at h
  · cases h
  · rename_i h1
    split at h
    · cases h
    · refine ⟨by omega, by simpa using h1, fun s hs => ?_⟩
      obtain ⟨k, hk⟩ := List.getElem?_of_mem hs
      have := fe_zero h k (List.getElem?_eq_some_iff.1 hk).1
      unfold stE at this
      rw [hk] at this
      simp only at this
      split at this
      · rename_i q; exact absurd this q
      · rename_i q; simpa using q
theorem right1 {p : List Prc} (h : fe (procsE1 p) p.length = 0) : Right1 p := by
  have each : ∀ (k : Nat) x, p[k]? = some x → procE x = 0 ∧ before p (fun y => leS x.1 y.1) k = false := by
    intro k x hk
    have := fe_zero h k (List.getElem?_eq_some_iff.1 hk).1
    unfold procsE1 at this
    rw [hk] at this
    simp only at this
    split at this
    · rename_i q; exact absurd this q
    · rename_i q
      split at this
      · cases this
      · rename_i q'; exact ⟨by simpa using q, by simpa using q'⟩
  refine ⟨fun x hx => ?_, ?_⟩
  · obtain ⟨k, hk⟩ := List.getElem?_of_mem hx
    exact procE_zero (each k x hk).1
  · have next : ∀ (i : Nat) x y, p[i]? = some x → p[i + 1]? = some y → Op.bytesLess x.1 y.1 = true := by
      intro i x y hx hy
      have := (each _ _ hy).2
      simp only [before, hx, leS, Bool.or_eq_false_iff, beq_eq_false_iff_ne] at this
      exact bl_total _ _ this.1 this.2
    intro i j x y hij hx hy
    obtain ⟨d, rfl⟩ : ∃ d, j = i + 1 + d := ⟨j - (i + 1), by omega⟩
    clear hij
    induction d generalizing y with
    | zero => exact next i x y hx hy
    | succ d ih =>
      have hl := (List.getElem?_eq_some_iff.1 hy).1
      have hg : p[i + 1 + d]? = some p[i + 1 + d] := List.getElem?_eq_getElem (by omega)
      exact bl_trans _ _ _ (ih _ hg) (next (i + 1 + d) _ y hg hy)
theorem Right1.pr {p : List Prc} (h : Right1 p) {i : Nat} {x : Prc} (hx : p[i]? = some x) : prI p x.1 = i := by
  refine ixI_stop (fun j a hj ha => ?_) hx (by simp)
  have := h.order j i a x hj ha hx
  simp only [decide_eq_false_iff_not]
  intro e
  rw [e, bl_irrefl] at this
  cases this
theorem no_zero {p : List Prc} (h : p.any (noProc p) = false) : ∀ x ∈ p, ∀ s ∈ x.2, noStep p x s = false := by
  intro x hx s hs
  rw [List.any_eq_false] at h
  have := h x hx
  unfold noProc at this
  rw [Bool.not_eq_true, List.any_eq_false] at this
  simpa using this s hs
theorem no_res {p : List Prc} (h : p.any (noProc p) = false) : ∀ x ∈ p, ∀ s ∈ x.2, s.1 = 6 → 0 ≤ prI p s.2.1 := by
  intro x hx s hs h6
  have := no_zero h x hx s hs
  unfold noStep at this
  simp [h6] at this
  exact this.2
open Classical in
theorem procsE_of {p : List Prc} (h50 : p.length ≤ 50) : procsE p = if fe (procsE1 p) p.length ≠ 0 then fe (procsE1 p) p.length else if p.any (noProc p) then 9 else if ∃ i, i < p.length ∧ loopB p i = true then 17 else 0 := by
  unfold procsE
  rw [if_neg (by omega)]
theorem procsE_first {p : List Prc} (h50 : p.length ≤ 50) {k : Nat} {v : Int} (h0 : fe (procsE1 p) k = 0) (hk : k < p.length) (h : procsE1 p k = v) (hv : v ≠ 0) : procsE p = v := by
  have e := fe_stop h0 (by rw [h]; exact hv) hk
  rw [procsE_of h50, if_pos (by rw [e, h]; exact hv), e, h]
theorem procsE_none {p : List Prc} (h50 : p.length ≤ 50) (h0 : fe (procsE1 p) p.length = 0) (h : p.any (noProc p) = true) : procsE p = 9 := by
  rw [procsE_of h50, if_neg (by rw [h0]; simp), if_pos h]
theorem procsE_loop {p : List Prc} (h50 : p.length ≤ 50) (h0 : fe (procsE1 p) p.length = 0) (h1 : p.any (noProc p) = false) {i : Nat} (hi : i < p.length) (h : loopB p i = true) : procsE p = 17 := by
  rw [procsE_of h50, if_neg (by rw [h0]; simp), if_neg (by simp [h1]), if_pos ⟨i, hi, h⟩]
theorem procsE_ok {p : List Prc} (h50 : p.length ≤ 50) (h0 : fe (procsE1 p) p.length = 0) (h1 : p.any (noProc p) = false) (h : ∀ i, i < p.length → loopB p i = false) : procsE p = 0 := by
  rw [procsE_of h50, if_neg (by rw [h0]; simp), if_neg (by simp [h1]), if_neg]
  rintro ⟨i, hi, q⟩
  rw [h i hi] at q
  cases q
def PI2 (p : List Prc) (x : Prc) (k i j : Nat) (n7 : Nat) (t : St) : Prop := t.t 0 = .ro p.length (fl procCd p) ∧ t.t 40 = .ro p.length (fl procCd p) ∧ t.t 41 = .int .i64 p.length ∧ t.t 42 = .int .i64 i ∧ t.t 47 = .ro x.2.length (fl stepCd x.2) ∧ t.t 7 = .pt n7 0 0 ∧ n7 < t.nx ∧ t.h n7 = some ⟨0, 0, [.str x.1, .ro x.2.length (fl stepCd x.2)], none⟩ ∧
  Not' (noStep p x) x.2 j
theorem CheckProcs_ok (p : List Prc) (hok : ∀ x ∈ p, procOk x) : OkF Tryd.prog 15 [.ro p.length (fl procCd p)] (.int .i64 (procsE p), []) := by
  refine OkF.W0 hm h15 (of_decide_eq_true rfl) ?_
  unfold c15
  simp -dsimp
  refine condK_of ?_ ?_ <;> intro q <;> simp -dsimp
  · have : 50 < p.length := by simp at q; omega
    simp [procsE, this]
  have h50 : p.length ≤ 50 := by simp at q; omega
  refine for_lt p.length (fun k t => t.t 0 = .ro p.length (fl procCd p) ∧ t.t 14 = .ro p.length (fl procCd p) ∧ fe (procsE1 p) k = 0) rfl (by omega) (by simp -dsimp [fe]) (by simp -dsimp) (by simp -dsimp) (fun k t hk hI hi hn => ?_) (fun t hI hi hn => ?_)
  · obtain ⟨i0, i14, iu⟩ := hI
    have hg : p[k]? = some p[k] := List.getElem?_eq_getElem hk
    have hmem := List.getElem_mem hk
    generalize p[k] = x at hg hmem
    obtain ⟨z, hz⟩ := prev_get hg
    have hwj : 0 < k → IntKind.i64.wrap ((k : Int) - 1) = ((k - 1 : Nat) : Int) := fun h => wrap_pred h (by omega)
    have hch : procsE1 p k = if procE x ≠ 0 then procE x else if before p (fun y => leS x.1 y.1) k then 8 else 0 := by unfold procsE1; rw [hg]
    unfold k15_0
    simp -dsimp [i0, i14, hi, hn, proc_ia hg, proc_ld hg]
    refine call_int (checkProc_ok x.1 x.2 (hok x hmem).2) ?_
    have hpe : procE (x.1, x.2) = procE x := rfl
    rw [hpe]
    simp -dsimp
    refine condK_of ?_ ?_ <;> intro a1 <;> simp -dsimp
    · simp at a1
      rw [procsE_first h50 iu hk (by rw [hch, if_pos a1]) a1]
    simp at a1
    refine wantT_of ?_ ?_ <;> intro a2 <;> simp -dsimp [a2, i0, i14, hi, hn]
    · have hp : 0 < k := by simpa using a2
      simp -dsimp [hwj hp, proc_ia (hz hp), proc_l0 (hz hp)]
      refine condK_of ?_ ?_ <;> intro a3 <;> simp -dsimp [i0, i14, hi, hn]
      · rw [procsE_first h50 iu hk (v := 8) (by rw [hch, before_pos hp (hz hp)]; simp_all) (by decide)]
      · exact fe_step iu (by rw [hch, before_pos hp (hz hp)]; simp_all)
    · have hp : ¬ 0 < k := by simpa using a2
      exact fe_step iu (by rw [hch, before_zero hp]; simp_all)
  · obtain ⟨i0, i14, h0⟩ := hI
    have hR := right1 h0
    simp -dsimp [i0]
    refine for_lt p.length (fun k t => t.t 0 = .ro p.length (fl procCd p) ∧ t.t 40 = .ro p.length (fl procCd p) ∧ Not' (noProc p) p k) rfl (by omega) (by simp -dsimp [Not'.zero, i0]) (by simp -dsimp) (by simp -dsimp) (fun k t hk hI hi hn => ?_) (fun t hI hi hn => ?_)
    · obtain ⟨i0, i40, iu⟩ := hI
      have hg : p[k]? = some p[k] := List.getElem?_eq_getElem hk
      have hmem := List.getElem_mem hk
      generalize p[k] = x at hg hmem
      have hxl := (hR.steps x hmem).1
      unfold k15_2
      simp -dsimp [i0, i40, hi, hn, proc_ia hg, proc_ld hg]
      refine for_lt x.2.length (fun j s => PI2 p x k k j t.nx s) rfl (by omega) ⟨by simp -dsimp [i0], by simp -dsimp [i40], by simp -dsimp [hn], by simp -dsimp [hi], by simp -dsimp, by simp -dsimp, by simp -dsimp, by simp -dsimp, Not'.zero _ _⟩ (by simp -dsimp) (by simp -dsimp) (fun j s hj hJ hji hjn => ?_) (fun s hJ hji hjn => ?_)
      · obtain ⟨j0, j40, j41, j42, j47, j7, jc, jh, ju⟩ := hJ
        have hgj : x.2[j]? = some x.2[j] := List.getElem?_eq_getElem hj
        have hmj : x.2[j] ∈ x.2 := List.getElem_mem hj
        generalize x.2[j] = y at hgj hmj
        have hne : t.nx ≠ s.nx := by omega
        have bad : noStep p x y = true → procsE p = 9 := fun h => procsE_none h50 h0 (any_stop hg (any_stop hgj h))
        have good : noStep p x y = false → ∀ s' : St, s'.t 0 = s.t 0 → s'.t 40 = s.t 40 → s'.t 41 = s.t 41 → s'.t 42 = s.t 42 → s'.t 47 = s.t 47 → s'.t 7 = s.t 7 → s.nx ≤ s'.nx → s'.h t.nx = s.h t.nx → PI2 p x k k (j + 1) t.nx s' := fun h s' e0 e1 e2 e3 e4 e5 e6 e7 => ⟨by rw [e0]; exact j0, by rw [e1]; exact j40, by rw [e2]; exact j41, by rw [e3]; exact j42, by rw [e4]; exact j47, by rw [e5]; exact j7, by omega, by rw [e7]; exact jh, ju.succ hgj h⟩
        unfold k15_1
        simp -dsimp [j0, j40, j41, j42, j47, j7, jh, hji, hjn, hne, step_ia hgj, step_ld hgj, stepV]
        refine call_bool (goesTo_ok y) ?_
        simp -dsimp
        repeat' (first
          | (refine condK_of ?_ ?_ <;> intro q <;> simp -dsimp [q, j0, j40, j41, j42, j47, j7, jh, hji, hjn, hne])
          | (refine wantT_of ?_ ?_ <;> intro q <;> simp -dsimp [q, j0, j40, j41, j42, j47, j7, jh, hji, hjn, hne])
          | (refine wantF_of ?_ ?_ <;> intro q <;> simp -dsimp [q, j0, j40, j41, j42, j47, j7, jh, hji, hjn, hne])
          | (refine call_int (labelAt_ok x.2 _ (by omega)) ?_; simp -dsimp [j0, j40, j41, j42, j47, j7, jh, hji, hjn, hne])
          | (refine call_int (procAt_ok p _ (by omega)) ?_; simp -dsimp [j0, j40, j41, j42, j47, j7, jh, hji, hjn, hne]))
        all_goals first
          | (rw [bad (by simp_all [noStep])]; done)
          | (exact good (by simp_all [noStep]) _ (by simp -dsimp) (by simp -dsimp) (by simp -dsimp) (by simp -dsimp) (by simp -dsimp) (by simp -dsimp) (by simp -dsimp) (by simp -dsimp [hne]))
          | (refine ⟨?_, good (by simp_all [noStep]) _ (by simp -dsimp) (by simp -dsimp) (by simp -dsimp) (by simp -dsimp) (by simp -dsimp) (by simp -dsimp) (by simp -dsimp) (by simp -dsimp [hne])⟩; simp_all)
      · obtain ⟨j0, j40, j41, j42, j47, j7, jc, jh, ju⟩ := hJ
        simp -dsimp [j0, j40, j41, j42]
        exact iu.succ hg (any_none ju)
    · obtain ⟨i0, i40, iu⟩ := hI
      have h1 := any_none iu
      have hres := no_res h1
      simp -dsimp [i0]
      refine for_lt p.length (fun k t => t.t 0 = .ro p.length (fl procCd p) ∧ ∀ i, i < k → loopB p i = false) rfl (by omega) (by simp -dsimp [i0]) (by simp -dsimp) (by simp -dsimp) (fun k t hk hI hi hn => ?_) (fun t hI hi hn => ?_)
      · obtain ⟨i0, iu⟩ := hI
        obtain ⟨out, ⟨hol, hout⟩, hcalls⟩ := calls_ok p k hk h50 (fun x hx => (hR.steps x hx).1) hres
        unfold k15_3
        simp -dsimp [i0, hi, hn]
        refine call_one hcalls (okRes_of (by simp)) ?_
        simp -dsimp
        refine call_bool (contains_int hm h38 h72 out (by omega) _) ?_
        simp -dsimp
        refine condK_of ?_ ?_ <;> intro q2 <;> simp -dsimp [i0, hi, hn]
        · have : loopB p k = true := by
            unfold loopB
            simpa using (hout k).1 (by simpa using q2)
          rw [procsE_loop h50 h0 h1 hk this]
        · intro i hik
          by_cases e : i = k
          · subst e
            unfold loopB
            simp only [decide_eq_false_iff_not]
            intro h
            have := (hout i).2 h
            simp [this] at q2
          · exact iu i (by omega)
      · simp -dsimp
        rw [procsE_ok h50 h0 h1 hI.2]
end Go.Proofs.P4
end
section
set_option linter.unusedVariables false
set_option linter.unusedSimpArgs false
set_option maxRecDepth 10000
set_option maxHeartbeats 8000000
namespace Go.Proofs.P4
open Go.Ex
def noStepR (p : List Prc) (x : Prc) (s : Step) : Bool := (decide (s.1 = 6) && decide (prI p s.2.1 < 0)) || (!decide (s.1 = 6) && !decide (s.2.2.1 = []) && decide (ixI (isLab s.2.2.1) x.2 < 0))
theorem nm_ne {s : List UInt8} (h : nm s = true) : s ≠ [] := by
  intro e
  subst e
  cases h
theorem noStep_eq {p : List Prc} {x : Prc} {s : Step} (h : stepE s = 0) (hs : s ∈ x.2) : noStepR p x s = noStep p x s := by
  have h8 : s.1 = 8 → decide (ixI (isLab s.2.2.1) x.2 < 0) = false := fun e => by
    rw [decide_eq_false_iff_not, ixI_neg, List.any_eq_false]
    intro q
    have := q s hs
    simp [isLab, e] at this
  obtain ⟨k, t, la, n, nt⟩ := s
  unfold stepE at h
  simp only at h h8
  split at h
  · cases h
  · rename_i h1
    split at h
    · cases h
    · rename_i h2
      split at h
      · cases h
      · split at h
        · cases h
        · split at h
          · cases h
          · rename_i h5
            have h5' : laB k = true → la ≠ [] := fun e => nm_ne (by simpa [e] using h5)
            unfold formB at h2
            simp only at h2
            rcases kinds8 k with rfl | rfl | rfl | rfl | rfl | rfl | rfl | rfl | ⟨_, _, _, _, _, _, _, _, h9⟩
            all_goals simp_all [noStepR, noStep, goB, laB]
def QI2 (p : List Prc) (x : Prc) (i j : Nat) (t : St) : Prop := t.t 7 = .int .i64 j ∧ t.t 0 = .ro p.length (fl procCd p) ∧ t.t 6 = .int .i64 i ∧ Not' (noStepR p x) x.2 j
end Go.Proofs.P4
end
