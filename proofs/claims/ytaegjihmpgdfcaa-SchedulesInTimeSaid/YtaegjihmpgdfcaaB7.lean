/- The small commands of runs of schedules; Changes, of the program alone; A schedule that is run, in plain Lean; what a change makes of it; The board in the heap; What Put and Drop make, as rows of the caller's own; A change of the board; Turns of entries; Turns of the entries that are due; A schedule that is run, in plain Lean; A run comes to its end; The changes of a moment; the run; The run: one step; Runs; Run and Refused, as contracts; Runs in plain Lean: each entry has its turn once; The law: each entry once. -/
import Derived.Test.YtaegjihmpgdfcaaB3
import Derived.Test.YtaegjihmpgdfcaaExV
import Derived.Test.YtaegjihmpgdfcaaB1
import Derived.Test.YtaegjihmpgdfcaaB6
section
set_option linter.unusedVariables false
set_option linter.unusedSimpArgs false
namespace Go.Proofs.P6
open Go.Ex
/-- As sh, but the maker of closures makes a block of its own. -/
def shI (f : Nat) : Bool := [89,110,113,71,119,120,121,122,123,159,74,75,125,126,142,143,171,96,138,130,131,133,92,1000119,1000120].contains f
def k140_0 : Cmd := (.block 1 (.seq (.reg false [⟨(some 13), none, (.mov (.t 11)), []⟩, ⟨(some 14), none, (.iaddr (.t 9) (.t 11) 11), []⟩, ⟨(some 15), none, (.ld (.t 14) (some 11)), []⟩, ⟨(some 4), none, (.alloc [(.int .i64 0), (.int .i64 0), (.int .i64 0), (.int .i64 0), (.str []), (.str []), (.str []), (.bool false), (.int .i64 0), (.str []), (.int .i64 0)]), []⟩, ⟨(some 3), none, (.mov (.t 13)), []⟩, ⟨none, none, (.st (.t 4) (.t 15) 11), []⟩]) (.seq (.seq (.reg false [⟨(some 16), none, (.ld (.t 4) (some 11)), []⟩, ⟨(some 17), none, (.call 169 [(.t 16)]), []⟩, ⟨(some 5), none, (.mov (.t 17)), []⟩]) (.seq (.reg false [⟨(some 18), none, (.mov (.t 5)), []⟩, ⟨(some 19), none, (.bin .neq (.t 18) (.c (.int .i64 0))), []⟩]) (.cond (.t 19) (.seq (.reg false [⟨(some 20), none, (.mov (.t 5)), []⟩, ⟨(some 2), none, (.mov (.t 20)), []⟩]) .ret) .skip))) (.seq (.reg true [⟨(some 21), none, (.mov (.t 3)), []⟩, ⟨(some 22), none, (.bin .gtr (.t 21) (.c (.int .i64 0))), []⟩, ⟨(some 23), none, (.mov (.t 22)), []⟩, ⟨(some 24), (some (23, true)), (.faddr (.t 4) 0), []⟩, ⟨(some 25), (some (23, true)), (.ld (.t 24) none), []⟩, ⟨(some 26), (some (23, true)), (.mov (.t 0)), []⟩, ⟨(some 27), (some (23, true)), (.mov (.t 3)), []⟩, ⟨(some 28), (some (23, true)), (.bin .sub (.t 27) (.c (.int .i64 1))), []⟩, ⟨(some 29), (some (23, true)), (.iaddr (.t 26) (.t 28) 11), []⟩, ⟨(some 30), (some (23, true)), (.faddr (.t 29) 0), []⟩, ⟨(some 31), (some (23, true)), (.ld (.t 30) none), []⟩, ⟨(some 32), (some (23, true)), (.bin .lss (.t 25) (.t 31)), []⟩, ⟨(some 33), none, (.pick (.t 23) (.t 32) (.c (.bool false))), []⟩]) (.cond (.t 33) (.seq (.reg false [⟨(some 2), none, (.mov (.c (.int .i64 8))), []⟩]) .ret) .skip)))))
abbrev l140_0 : Cmd := cnt 0 12 11 10 34 k140_0
def c140 : Cmd := (.seq (.reg false [⟨(some 2), none, (.mov (.c (.int .i64 0))), []⟩]) (.seq (.seq (.reg false [⟨(some 6), none, (.mov (.t 0)), []⟩, ⟨(some 7), none, (.len false (.t 6)), []⟩, ⟨(some 8), none, (.bin .gtr (.t 7) (.c (.int .i64 1000))), []⟩]) (.cond (.t 8) (.seq (.reg false [⟨(some 2), none, (.mov (.c (.int .i64 2))), []⟩]) .ret) .skip)) (.seq (.seq (.reg false [⟨(some 9), none, (.mov (.t 0)), []⟩, ⟨(some 10), none, (.len false (.t 9)), []⟩, ⟨(some 11), none, (.mov (.c (.int .i64 0))), []⟩]) (.block 0 (.loop l140_0))) (.seq (.reg false [⟨(some 2), none, (.mov (.c (.int .i64 0))), []⟩]) .ret))))
theorem h140 : compF Try.prog shI 140 = some (c140, [2], 35) := by kernel_rfl
def c169 : Cmd := (.seq (.reg false [⟨(some 1), none, (.box (.t 0)), []⟩, ⟨(some 2), none, (.mov (.c (.int .i64 0))), []⟩]) (.seq (.seq (.reg false [⟨(some 4), none, (.faddr (.t 1) 0), []⟩, ⟨(some 5), none, (.ld (.t 4) none), []⟩, ⟨(some 6), none, (.call 64 [(.t 5), (.c (.int .i64 0)), (.c (.int .i64 1000000000000))]), []⟩, ⟨(some 7), none, (.un .not (.t 6)), []⟩]) (.cond (.t 7) (.seq (.reg false [⟨(some 2), none, (.mov (.c (.int .i64 1))), []⟩]) .ret) .skip)) (.seq (.reg false [⟨(some 8), none, (.faddr (.t 1) 0), []⟩, ⟨(some 9), none, (.ld (.t 8) none), []⟩, ⟨(some 10), none, (.faddr (.t 1) 1), []⟩, ⟨(some 11), none, (.ld (.t 10) none), []⟩, ⟨(some 12), none, (.bld [(.int .i64 0), (.int .i64 0), (.int .i64 0), (.int .i64 0), (.str []), (.str []), (.str []), (.bool false), (.int .i64 0), (.str []), (.int .i64 0)] [(0, (1, (.t 9))), (1, (1, (.t 11)))]), []⟩, ⟨(some 3), none, (.alloc [(.int .i64 0), (.int .i64 0), (.int .i64 0), (.int .i64 0), (.str []), (.str []), (.str []), (.bool false), (.int .i64 0), (.str []), (.int .i64 0)]), []⟩, ⟨none, none, (.st (.t 3) (.t 12) 11), []⟩]) (.seq (.seq (.reg false [⟨(some 13), none, (.faddr (.t 1) 1), []⟩, ⟨(some 14), none, (.ld (.t 13) none), []⟩]) (.block 0 (.seq (.reg false [⟨(some 16), none, (.bin .eql (.t 14) (.c (.int .i64 1))), []⟩, ⟨(some 15), none, (.mov (.t 16)), []⟩]) (.cond (.t 15) (.reg false [⟨(some 17), none, (.faddr (.t 1) 2), []⟩, ⟨(some 18), none, (.ld (.t 17) (some 6)), []⟩, ⟨(some 19), none, (.faddr (.t 3) 2), []⟩, ⟨none, none, (.st (.t 19) (.t 18) 6), []⟩]) (.seq (.reg false [⟨(some 21), none, (.bin .eql (.t 14) (.c (.int .i64 2))), []⟩, ⟨(some 20), none, (.mov (.t 21)), []⟩]) (.cond (.t 20) (.reg false [⟨(some 22), none, (.faddr (.t 1) 8), []⟩, ⟨(some 23), none, (.ld (.t 22) none), []⟩, ⟨(some 24), none, (.faddr (.t 3) 8), []⟩, ⟨none, none, (.st (.t 24) (.t 23) 1), []⟩]) (.seq (.reg false [⟨(some 26), none, (.bin .eql (.t 14) (.c (.int .i64 3))), []⟩, ⟨(some 25), none, (.mov (.t 26)), []⟩]) (.cond (.t 25) (.reg true [⟨(some 27), none, (.faddr (.t 1) 8), []⟩, ⟨(some 28), none, (.ld (.t 27) none), []⟩, ⟨(some 29), none, (.faddr (.t 1) 10), []⟩, ⟨(some 30), none, (.ld (.t 29) none), []⟩, ⟨(some 31), none, (.faddr (.t 3) 8), []⟩, ⟨none, none, (.st (.t 31) (.t 28) 1), [3]⟩, ⟨(some 32), none, (.faddr (.t 3) 10), []⟩, ⟨none, none, (.st (.t 32) (.t 30) 1), []⟩]) (.seq (.reg false [⟨(some 34), none, (.bin .eql (.t 14) (.c (.int .i64 4))), []⟩, ⟨(some 33), none, (.mov (.t 34)), []⟩]) (.cond (.t 33) (.reg true [⟨(some 35), none, (.faddr (.t 1) 9), []⟩, ⟨(some 36), none, (.ld (.t 35) none), []⟩, ⟨(some 37), none, (.faddr (.t 1) 10), []⟩, ⟨(some 38), none, (.ld (.t 37) none), []⟩, ⟨(some 39), none, (.faddr (.t 3) 9), []⟩, ⟨none, none, (.st (.t 39) (.t 36) 1), [3]⟩, ⟨(some 40), none, (.faddr (.t 3) 10), []⟩, ⟨none, none, (.st (.t 40) (.t 38) 1), []⟩]) (.seq (.seq (.reg false [⟨(some 42), none, (.bin .eql (.t 14) (.c (.int .i64 5))), []⟩, ⟨(some 41), none, (.mov (.t 42)), []⟩]) (.cond (.t 41) .skip (.reg false [⟨(some 43), none, (.bin .eql (.t 14) (.c (.int .i64 6))), []⟩, ⟨(some 41), none, (.mov (.t 43)), []⟩]))) (.cond (.t 41) (.reg false [⟨(some 44), none, (.faddr (.t 1) 9), []⟩, ⟨(some 45), none, (.ld (.t 44) none), []⟩, ⟨(some 46), none, (.faddr (.t 3) 9), []⟩, ⟨none, none, (.st (.t 46) (.t 45) 1), []⟩]) (.seq (.reg false [⟨(some 2), none, (.mov (.c (.int .i64 4))), []⟩]) .ret))))))))))))) (.seq (.seq (.reg false [⟨(some 47), none, (.ld (.t 1) (some 11)), []⟩, ⟨(some 48), none, (.ld (.t 3) (some 11)), []⟩, ⟨(some 49), none, (.seq true [0, 0, 0, 0, 2, 2, 2, 1, 0, 2, 0] (.t 47) (.t 48)), []⟩]) (.cond (.t 49) (.seq (.reg false [⟨(some 2), none, (.mov (.c (.int .i64 3))), []⟩]) .ret) .skip)) (.seq (.seq (.reg false [⟨(some 50), none, (.faddr (.t 1) 1), []⟩, ⟨(some 51), none, (.ld (.t 50) none), []⟩]) (.block 1 (.seq (.reg false [⟨(some 67), none, (.bin .eql (.t 51) (.c (.int .i64 1))), []⟩, ⟨(some 66), none, (.mov (.t 67)), []⟩]) (.cond (.t 66) (.seq (.reg false [⟨(some 68), none, (.faddr (.t 1) 2), []⟩, ⟨(some 69), none, (.ld (.t 68) (some 6)), []⟩, ⟨(some 70), none, (.call 77 [(.t 69)]), []⟩, ⟨(some 2), none, (.mov (.t 70)), []⟩]) .ret) (.seq (.seq (.reg false [⟨(some 72), none, (.bin .eql (.t 51) (.c (.int .i64 2))), []⟩, ⟨(some 71), none, (.mov (.t 72)), []⟩]) (.cond (.t 71) .skip (.reg false [⟨(some 73), none, (.bin .eql (.t 51) (.c (.int .i64 3))), []⟩, ⟨(some 71), none, (.mov (.t 73)), []⟩]))) (.cond (.t 71) (.seq (.reg false [⟨(some 74), none, (.faddr (.t 1) 8), []⟩, ⟨(some 75), none, (.ld (.t 74) none), []⟩, ⟨(some 76), none, (.call 64 [(.t 75), (.c (.int .i64 1)), (.c (.int .i64 1000000000000))]), []⟩, ⟨(some 77), none, (.un .not (.t 76)), []⟩]) (.cond (.t 77) (.seq (.reg false [⟨(some 2), none, (.mov (.c (.int .i64 1))), []⟩]) .ret) .skip)) (.seq (.reg false [⟨(some 52), none, (.faddr (.t 1) 9), []⟩, ⟨(some 53), none, (.ld (.t 52) none), []⟩, ⟨(some 54), none, (.call 91 [(.t 53)]), []⟩, ⟨(some 55), none, (.un .not (.t 54)), []⟩, ⟨(some 56), none, (.mov (.t 55)), []⟩, ⟨(some 57), (some (56, true)), (.faddr (.t 1) 9), []⟩, ⟨(some 58), (some (56, true)), (.ld (.t 57) none), []⟩, ⟨(some 59), (some (56, true)), (.bin .neq (.t 58) (.c (.str []))), []⟩, ⟨(some 60), (some (56, true)), (.mov (.t 59)), []⟩, ⟨(some 61), (some (60, false)), (.faddr (.t 1) 1), []⟩, ⟨(some 62), (some (60, false)), (.ld (.t 61) none), []⟩, ⟨(some 63), (some (60, false)), (.bin .neq (.t 62) (.c (.int .i64 4))), []⟩, ⟨(some 64), (some (56, true)), (.pick (.t 60) (.c (.bool true)) (.t 63)), []⟩, ⟨(some 65), none, (.pick (.t 56) (.t 64) (.c (.bool false))), []⟩]) (.cond (.t 65) (.seq (.reg false [⟨(some 2), none, (.mov (.c (.int .i64 5))), []⟩]) .ret) .skip)))))))) (.seq (.reg false [⟨(some 78), none, (.faddr (.t 1) 10), []⟩, ⟨(some 79), none, (.ld (.t 78) none), []⟩, ⟨(some 80), none, (.call 69 [(.t 79), (.c (.int .i64 (-1000000000))), (.c (.int .i64 1000000000))]), []⟩, ⟨(some 2), none, (.mov (.t 80)), []⟩]) .ret)))))))
theorem h169 : compF Try.prog shI 169 = some (c169, [2], 81) := by kernel_rfl
def l96_0 : Cmd := (.seq (.seq (.reg false [⟨(some 102), none, (.mov (.t 16)), []⟩, ⟨(some 103), none, (.mov (.t 1)), []⟩, ⟨(some 104), none, (.len false (.t 103)), []⟩, ⟨(some 105), none, (.bin .lss (.t 102) (.t 104)), []⟩, ⟨(some 106), none, (.mov (.t 105)), []⟩, ⟨(some 107), (some (106, true)), (.mov (.t 1)), []⟩, ⟨(some 108), (some (106, true)), (.mov (.t 16)), []⟩, ⟨(some 109), (some (106, true)), (.iaddr (.t 107) (.t 108) 11), []⟩, ⟨(some 110), (some (106, true)), (.faddr (.t 109) 0), []⟩, ⟨(some 111), (some (106, true)), (.ld (.t 110) none), []⟩, ⟨(some 112), (some (106, true)), (.mov (.t 17)), []⟩, ⟨(some 113), (some (106, true)), (.bin .eql (.t 111) (.t 112)), []⟩, ⟨(some 114), none, (.pick (.t 106) (.t 113) (.c (.bool false))), []⟩]) (.cond (.t 114) .skip (.exit 2))) (.seq (.block 3 (.seq (.reg false [⟨(some 117), none, (.mov (.t 15)), []⟩, ⟨(some 118), none, (.mov (.t 1)), []⟩, ⟨(some 119), none, (.mov (.t 16)), []⟩, ⟨(some 120), none, (.iaddr (.t 118) (.t 119) 11), []⟩, ⟨(some 121), none, (.ld (.t 120) (some 11)), []⟩, ⟨(some 122), none, (.shr 142 [(.t 117), (.t 121)]), []⟩, ⟨(some 21), none, (.mov (.t 122)), []⟩]) (.seq (.reg false [⟨(some 123), none, (.mov (.t 21)), []⟩, ⟨(some 124), none, (.bin .neq (.t 123) (.c (.int .i64 0))), []⟩]) (.cond (.t 124) (.reg true [⟨(some 125), none, (.mov (.t 15)), []⟩, ⟨(some 126), none, (.mov (.t 15)), []⟩, ⟨(some 127), none, (.mov (.t 15)), []⟩, ⟨(some 128), none, (.nilc (.t 127)), []⟩, ⟨(some 129), none, (.faddr (.t 128) 8), []⟩, ⟨(some 130), none, (.ld (.t 129) none), []⟩, ⟨(some 131), none, (.mov (.t 16)), []⟩, ⟨(some 132), none, (.bs 1 1 [(.int .i64 0)] [(0, (.t 131))]), [5]⟩, ⟨(some 133), none, (.app 1 8 (.t 130) (.t 132)), []⟩, ⟨(some 134), none, (.mov (.t 15)), []⟩, ⟨(some 135), none, (.nilc (.t 134)), []⟩, ⟨(some 136), none, (.faddr (.t 135) 9), []⟩, ⟨(some 137), none, (.ld (.t 136) none), [7, 8]⟩, ⟨(some 138), none, (.mov (.t 21)), []⟩, ⟨(some 139), none, (.bs 1 1 [(.int .i64 0)] [(0, (.t 138))]), [5, 7, 8, 12]⟩, ⟨(some 140), none, (.app 1 8 (.t 137) (.t 139)), []⟩, ⟨(some 141), none, (.nilc (.t 125)), []⟩, ⟨(some 142), none, (.faddr (.t 141) 8), []⟩, ⟨none, none, (.st (.t 142) (.t 133) 1), []⟩, ⟨(some 143), none, (.nilc (.t 126)), []⟩, ⟨(some 144), none, (.faddr (.t 143) 9), []⟩, ⟨none, none, (.st (.t 144) (.t 140) 1), []⟩]) .skip)))) (.reg false [⟨(some 115), none, (.mov (.t 16)), []⟩, ⟨(some 116), none, (.bin .add (.t 115) (.c (.int .i64 1))), []⟩, ⟨(some 16), none, (.mov (.t 116)), []⟩])))
def l96_1 : Cmd := (.block 1 (.seq (.reg false [⟨(some 52), none, (.mov (.t 5)), []⟩, ⟨(some 53), none, (.bin .add (.t 52) (.c (.int .i64 1))), []⟩, ⟨(some 18), none, (.mov (.t 53)), []⟩]) (.seq (.seq (.reg false [⟨(some 54), none, (.mov (.t 15)), []⟩, ⟨(some 55), none, (.nilc (.t 54)), []⟩, ⟨(some 56), none, (.faddr (.t 55) 0), []⟩, ⟨(some 57), none, (.ld (.t 56) none), []⟩, ⟨(some 58), none, (.len false (.t 57)), []⟩, ⟨(some 59), none, (.bin .gtr (.t 58) (.c (.int .i64 0))), []⟩]) (.cond (.t 59) (.seq (.reg false [⟨(some 61), none, (.mov (.t 3)), []⟩, ⟨(some 62), none, (.mov (.t 15)), []⟩, ⟨(some 63), none, (.nilc (.t 62)), []⟩, ⟨(some 64), none, (.faddr (.t 63) 0), []⟩, ⟨(some 65), none, (.ld (.t 64) none), []⟩, ⟨(some 66), none, (.iaddr (.t 65) (.c (.int .i64 0)) 6), []⟩, ⟨(some 67), none, (.faddr (.t 66) 1), []⟩, ⟨(some 68), none, (.ld (.t 67) none), []⟩, ⟨(some 69), none, (.mov (.t 17)), []⟩, ⟨(some 70), none, (.mm true (.t 68) (.t 69)), []⟩, ⟨(some 71), none, (.call 141 [(.t 61), (.t 70)]), []⟩, ⟨(some 60), none, (.mov (.t 71)), []⟩, ⟨(some 72), none, (.ext (.t 60) 0), []⟩, ⟨(some 73), none, (.ext (.t 60) 1), []⟩, ⟨(some 19), none, (.mov (.t 72)), []⟩, ⟨(some 20), none, (.mov (.t 73)), []⟩]) (.seq (.reg false [⟨(some 74), none, (.mov (.t 20)), []⟩]) (.cond (.t 74) (.reg false [⟨(some 75), none, (.mov (.t 18)), []⟩, ⟨(some 76), none, (.mov (.t 19)), []⟩, ⟨(some 77), none, (.mm false (.t 75) (.t 76)), []⟩, ⟨(some 18), none, (.mov (.t 77)), []⟩]) .skip))) .skip)) (.seq (.seq (.reg false [⟨(some 78), none, (.mov (.t 16)), []⟩, ⟨(some 79), none, (.mov (.t 1)), []⟩, ⟨(some 80), none, (.len false (.t 79)), []⟩, ⟨(some 81), none, (.bin .lss (.t 78) (.t 80)), []⟩]) (.cond (.t 81) (.reg false [⟨(some 82), none, (.mov (.t 18)), []⟩, ⟨(some 83), none, (.mov (.t 1)), []⟩, ⟨(some 84), none, (.mov (.t 16)), []⟩, ⟨(some 85), none, (.iaddr (.t 83) (.t 84) 11), []⟩, ⟨(some 86), none, (.faddr (.t 85) 0), []⟩, ⟨(some 87), none, (.ld (.t 86) none), []⟩, ⟨(some 88), none, (.mm false (.t 82) (.t 87)), []⟩, ⟨(some 18), none, (.mov (.t 88)), []⟩]) .skip)) (.seq (.seq (.reg false [⟨(some 89), none, (.mov (.t 18)), []⟩, ⟨(some 90), none, (.mov (.t 5)), []⟩, ⟨(some 91), none, (.bin .gtr (.t 89) (.t 90)), []⟩]) (.cond (.t 91) (.seq (.reg false [⟨(some 92), none, (.mov (.t 15)), []⟩, ⟨(some 93), none, (.mov (.t 15)), []⟩, ⟨(some 94), none, (.nilc (.t 93)), []⟩, ⟨(some 95), none, (.faddr (.t 94) 0), []⟩, ⟨(some 96), none, (.ld (.t 95) none), []⟩, ⟨(some 97), none, (.call 132 [(.t 96)]), []⟩, ⟨(some 98), none, (.nilc (.t 92)), []⟩, ⟨(some 99), none, (.faddr (.t 98) 0), []⟩, ⟨none, none, (.st (.t 99) (.t 97) 1), []⟩]) (.seq (.reg false [⟨(some 100), none, (.mov (.t 15)), []⟩, ⟨(some 12), none, (.mov (.t 100)), []⟩, ⟨(some 13), none, (.mov (.c (.int .i64 0))), []⟩]) .ret)) .skip)) (.seq (.reg false [⟨(some 101), none, (.mov (.t 18)), []⟩, ⟨(some 17), none, (.mov (.t 101)), []⟩]) (.seq (.block 2 (.loop l96_0)) (.seq (.reg false [⟨(some 146), none, (.mov (.t 3)), []⟩, ⟨(some 147), none, (.mov (.t 17)), []⟩, ⟨(some 148), none, (.call 141 [(.t 146), (.t 147)]), []⟩, ⟨(some 145), none, (.mov (.t 148)), []⟩, ⟨(some 149), none, (.ext (.t 145) 0), []⟩, ⟨(some 150), none, (.ext (.t 145) 1), []⟩, ⟨(some 22), none, (.mov (.t 149)), []⟩, ⟨(some 23), none, (.mov (.t 150)), []⟩]) (.seq (.reg false [⟨(some 151), none, (.mov (.t 23)), []⟩, ⟨(some 152), none, (.mov (.t 151)), []⟩, ⟨(some 153), (some (152, true)), (.mov (.t 22)), []⟩, ⟨(some 154), (some (152, true)), (.mov (.t 17)), []⟩, ⟨(some 155), (some (152, true)), (.bin .eql (.t 153) (.t 154)), []⟩, ⟨(some 156), none, (.pick (.t 152) (.t 155) (.c (.bool false))), []⟩]) (.cond (.t 156) (.reg false [⟨(some 157), none, (.mov (.t 15)), []⟩, ⟨(some 158), none, (.mov (.t 17)), []⟩, ⟨(some 159), none, (.shr 143 [(.t 157), (.t 158)]), []⟩]) .skip))))))))))
def c96 : Cmd := (.seq (.reg false [⟨(some 12), none, (.mov (.c .np)), []⟩, ⟨(some 13), none, (.mov (.c (.int .i64 0))), []⟩]) (.seq (.seq (.reg false [⟨(some 24), none, (.mov (.t 0)), []⟩, ⟨(some 25), none, (.call 31 [(.t 24)]), []⟩, ⟨(some 26), none, (.mov (.t 1)), []⟩, ⟨(some 27), none, (.call 140 [(.t 26)]), []⟩, ⟨(some 28), none, (.mov (.t 2)), []⟩, ⟨(some 29), none, (.call 68 [(.t 28)]), []⟩, ⟨(some 30), none, (.mov (.t 3)), []⟩, ⟨(some 31), none, (.bld [(.str []), .ns] [(0, (1, (.c (.str [117, 112])))), (1, (1, (.t 30)))]), []⟩, ⟨(some 32), none, (.bs 1 2 [(.str []), .ns] [(0, (.t 31))]), []⟩, ⟨(some 33), none, (.call 68 [(.t 32)]), []⟩, ⟨(some 34), none, (.mov (.t 4)), []⟩, ⟨(some 35), none, (.call 69 [(.t 34), (.c (.int .i64 0)), (.c (.int .i64 1000000000))]), []⟩, ⟨(some 36), none, (.mov (.t 5)), []⟩, ⟨(some 37), none, (.call 69 [(.t 36), (.c (.int .i64 0)), (.c (.int .i64 1000000000000))]), []⟩, ⟨(some 38), none, (.bs 6 1 [(.int .i64 0)] [(0, (.t 25)), (1, (.t 27)), (2, (.t 29)), (3, (.t 33)), (4, (.t 35)), (5, (.t 37))]), []⟩, ⟨(some 39), none, (.call 67 [(.t 38)]), []⟩, ⟨(some 14), none, (.mov (.t 39)), []⟩]) (.seq (.reg false [⟨(some 40), none, (.mov (.t 14)), []⟩, ⟨(some 41), none, (.bin .neq (.t 40) (.c (.int .i64 0))), []⟩]) (.cond (.t 41) (.seq (.reg false [⟨(some 42), none, (.mov (.t 14)), []⟩, ⟨(some 12), none, (.mov (.c .np)), []⟩, ⟨(some 13), none, (.mov (.t 42)), []⟩]) .ret) .skip))) (.seq (.reg false [⟨(some 43), none, (.mov (.t 0)), []⟩, ⟨(some 44), none, (.call 132 [(.t 43)]), []⟩, ⟨(some 45), none, (.mov (.t 2)), []⟩, ⟨(some 46), none, (.mov (.t 3)), []⟩, ⟨(some 47), none, (.mov (.t 4)), []⟩, ⟨(some 48), none, .mnew, []⟩, ⟨(some 49), none, .mnew, []⟩, ⟨(some 50), none, (.bld [.ns, .ns, .ns, (.int .i64 0), .junk, .junk, .ns, .ns, .ns, .ns] [(0, (1, (.t 44))), (1, (1, (.t 45))), (2, (1, (.t 46))), (3, (1, (.t 47))), (4, (1, (.t 48))), (5, (1, (.t 49)))]), []⟩, ⟨(some 51), none, (.box (.t 50)), []⟩, ⟨(some 15), none, (.mov (.t 51)), []⟩]) (.seq (.reg false [⟨(some 16), none, (.mov (.c (.int .i64 0))), []⟩, ⟨(some 17), none, (.mov (.c (.int .i64 0))), []⟩]) (.block 0 (.loop l96_1))))))
theorem h96 : compF Try.prog shI 96 = some (c96, [12, 13], 160) := by kernel_rfl
def c142 : Cmd := (.seq (.reg false [⟨(some 3), none, (.box (.t 1)), []⟩, ⟨(some 4), none, (.mov (.c (.int .i64 0))), []⟩]) (.seq (.reg false [⟨(some 5), none, (.mov (.c .ns)), []⟩]) (.seq (.reg false [⟨(some 6), none, (.mov (.c (.int .i64 0))), []⟩]) (.seq (.seq (.reg false [⟨(some 7), none, (.faddr (.t 3) 1), []⟩, ⟨(some 8), none, (.ld (.t 7) none), []⟩]) (.block 0 (.seq (.reg false [⟨(some 19), none, (.bin .eql (.t 8) (.c (.int .i64 1))), []⟩, ⟨(some 18), none, (.mov (.t 19)), []⟩]) (.cond (.t 18) (.seq (.seq (.reg true [⟨(some 20), none, (.mov (.t 0)), []⟩, ⟨(some 21), none, (.nilc (.t 20)), []⟩, ⟨(some 22), none, (.faddr (.t 21) 5), []⟩, ⟨(some 23), none, (.ld (.t 22) none), []⟩, ⟨(some 24), none, (.faddr (.t 3) 2), []⟩, ⟨(some 25), none, (.faddr (.t 24) 0), []⟩, ⟨(some 26), none, (.ld (.t 25) none), []⟩, ⟨(some 27), none, (.mget false (some .i64) (.bool false) (.t 23) (.t 26)), []⟩]) (.cond (.t 27) (.seq (.reg false [⟨(some 4), none, (.mov (.c (.int .i64 7))), []⟩]) .ret) .skip)) (.reg true [⟨(some 29), none, (.mov (.t 0)), []⟩, ⟨(some 30), none, (.nilc (.t 29)), []⟩, ⟨(some 31), none, (.faddr (.t 30) 0), []⟩, ⟨(some 32), none, (.ld (.t 31) none), []⟩, ⟨(some 33), none, (.faddr (.t 3) 2), []⟩, ⟨(some 34), none, (.ld (.t 33) (some 6)), []⟩, ⟨(some 35), none, (.call 78 [(.t 32), (.t 34)]), []⟩, ⟨(some 28), none, (.mov (.t 35)), []⟩, ⟨(some 36), none, (.ext (.t 28) 0), []⟩, ⟨(some 37), none, (.ext (.t 28) 1), []⟩, ⟨(some 5), none, (.mov (.t 36)), []⟩, ⟨(some 6), none, (.mov (.t 37)), []⟩])) (.seq (.reg false [⟨(some 39), none, (.bin .eql (.t 8) (.c (.int .i64 2))), []⟩, ⟨(some 38), none, (.mov (.t 39)), []⟩]) (.cond (.t 38) (.reg true [⟨(some 41), none, (.mov (.t 0)), []⟩, ⟨(some 42), none, (.nilc (.t 41)), []⟩, ⟨(some 43), none, (.faddr (.t 42) 0), []⟩, ⟨(some 44), none, (.ld (.t 43) none), []⟩, ⟨(some 45), none, (.faddr (.t 3) 8), []⟩, ⟨(some 46), none, (.ld (.t 45) none), []⟩, ⟨(some 47), none, (.call 79 [(.t 44), (.t 46)]), []⟩, ⟨(some 40), none, (.mov (.t 47)), []⟩, ⟨(some 48), none, (.ext (.t 40) 0), []⟩, ⟨(some 49), none, (.ext (.t 40) 1), []⟩, ⟨(some 5), none, (.mov (.t 48)), []⟩, ⟨(some 6), none, (.mov (.t 49)), []⟩]) (.seq (.reg false [⟨(some 51), none, (.bin .eql (.t 8) (.c (.int .i64 3))), []⟩, ⟨(some 50), none, (.mov (.t 51)), []⟩]) (.cond (.t 50) (.seq (.seq (.reg true [⟨(some 52), none, (.mov (.t 0)), []⟩, ⟨(some 53), none, (.nilc (.t 52)), []⟩, ⟨(some 54), none, (.faddr (.t 53) 0), []⟩, ⟨(some 55), none, (.ld (.t 54) none), []⟩, ⟨(some 56), none, (.faddr (.t 3) 8), []⟩, ⟨(some 57), none, (.ld (.t 56) none), []⟩, ⟨(some 58), none, (.call 129 [(.t 55), (.t 57)]), []⟩, ⟨(some 59), none, (.bin .lss (.t 58) (.c (.int .i64 0))), []⟩]) (.cond (.t 59) (.seq (.reg false [⟨(some 4), none, (.mov (.c (.int .i64 9))), []⟩]) .ret) .skip)) (.reg true [⟨(some 61), none, (.mov (.t 0)), []⟩, ⟨(some 62), none, (.nilc (.t 61)), []⟩, ⟨(some 63), none, (.faddr (.t 62) 0), []⟩, ⟨(some 64), none, (.ld (.t 63) none), []⟩, ⟨(some 65), none, (.faddr (.t 3) 10), []⟩, ⟨(some 66), none, (.ld (.t 65) none), []⟩, ⟨(some 67), none, (.fnc 170 [(.t 3)]), []⟩, ⟨(some 68), none, (.shr 92 [(.t 64), (.t 66), (.t 67)]), []⟩, ⟨(some 60), none, (.mov (.t 68)), []⟩, ⟨(some 69), none, (.ext (.t 60) 0), []⟩, ⟨(some 70), none, (.ext (.t 60) 1), []⟩, ⟨(some 5), none, (.mov (.t 69)), []⟩, ⟨(some 6), none, (.mov (.t 70)), []⟩])) (.seq (.reg false [⟨(some 72), none, (.bin .eql (.t 8) (.c (.int .i64 4))), []⟩, ⟨(some 71), none, (.mov (.t 72)), []⟩]) (.cond (.t 71) (.reg true [⟨(some 74), none, (.mov (.t 0)), []⟩, ⟨(some 75), none, (.nilc (.t 74)), []⟩, ⟨(some 76), none, (.faddr (.t 75) 0), []⟩, ⟨(some 77), none, (.ld (.t 76) none), []⟩, ⟨(some 78), none, (.faddr (.t 3) 10), []⟩, ⟨(some 79), none, (.ld (.t 78) none), []⟩, ⟨(some 80), none, (.faddr (.t 3) 9), []⟩, ⟨(some 81), none, (.ld (.t 80) none), []⟩, ⟨(some 82), none, (.call 93 [(.t 81)]), [3, 5]⟩, ⟨(some 83), none, (.shr 92 [(.t 77), (.t 79), (.t 82)]), []⟩, ⟨(some 73), none, (.mov (.t 83)), []⟩, ⟨(some 84), none, (.ext (.t 73) 0), []⟩, ⟨(some 85), none, (.ext (.t 73) 1), []⟩, ⟨(some 5), none, (.mov (.t 84)), []⟩, ⟨(some 6), none, (.mov (.t 85)), []⟩]) (.seq (.reg true [⟨(some 9), none, (.mov (.t 0)), []⟩, ⟨(some 10), none, (.nilc (.t 9)), []⟩, ⟨(some 11), none, (.faddr (.t 10) 4), []⟩, ⟨(some 12), none, (.ld (.t 11) none), []⟩, ⟨(some 13), none, (.faddr (.t 3) 9), []⟩, ⟨(some 14), none, (.ld (.t 13) none), []⟩, ⟨(some 15), none, (.faddr (.t 3) 1), []⟩, ⟨(some 16), none, (.ld (.t 15) none), []⟩, ⟨(some 17), none, (.bin .eql (.t 16) (.c (.int .i64 6))), []⟩, ⟨none, none, (.mset none (.t 12) (.t 14) (.t 17)), []⟩]) (.seq (.reg false [⟨(some 4), none, (.mov (.c (.int .i64 0))), []⟩]) .ret)))))))))))) (.seq (.seq (.reg false [⟨(some 86), none, (.mov (.t 6)), []⟩, ⟨(some 87), none, (.bin .eql (.t 86) (.c (.int .i64 0))), []⟩]) (.cond (.t 87) (.reg false [⟨(some 88), none, (.mov (.t 0)), []⟩, ⟨(some 89), none, (.mov (.t 5)), []⟩, ⟨(some 90), none, (.nilc (.t 88)), []⟩, ⟨(some 91), none, (.faddr (.t 90) 0), []⟩, ⟨none, none, (.st (.t 91) (.t 89) 1), []⟩]) .skip)) (.seq (.reg false [⟨(some 92), none, (.mov (.t 6)), []⟩, ⟨(some 4), none, (.mov (.t 92)), []⟩]) .ret))))))
theorem h142 : compF Try.prog shI 142 = some (c142, [4], 93) := by kernel_rfl
def c170 : Cmd := (.seq (.reg false [⟨(some 2), none, (.box (.t 0)), []⟩, ⟨(some 3), none, (.mov (.c (.bool false))), []⟩]) (.seq (.reg false [⟨(some 4), none, (.faddr (.t 2) 0), []⟩, ⟨(some 5), none, (.ld (.t 4) none), []⟩, ⟨(some 6), none, (.faddr (.t 1) 8), []⟩, ⟨(some 7), none, (.ld (.t 6) none), []⟩, ⟨(some 8), none, (.bin .eql (.t 5) (.t 7)), []⟩, ⟨(some 3), none, (.mov (.t 8)), []⟩]) .ret))
theorem h170 : compF Try.prog shI 170 = some (c170, [3], 9) := by kernel_rfl
def l143_0 : Cmd := (.seq (.seq (.reg false [⟨(some 6), none, (.mov (.t 0)), []⟩, ⟨(some 7), none, (.nilc (.t 6)), []⟩, ⟨(some 8), none, (.faddr (.t 7) 0), []⟩, ⟨(some 9), none, (.ld (.t 8) none), []⟩, ⟨(some 10), none, (.len false (.t 9)), []⟩, ⟨(some 11), none, (.bin .gtr (.t 10) (.c (.int .i64 0))), []⟩, ⟨(some 12), none, (.mov (.t 11)), []⟩, ⟨(some 13), (some (12, true)), (.mov (.t 0)), []⟩, ⟨(some 14), (some (12, true)), (.nilc (.t 13)), []⟩, ⟨(some 15), (some (12, true)), (.faddr (.t 14) 0), []⟩, ⟨(some 16), (some (12, true)), (.ld (.t 15) none), []⟩, ⟨(some 17), (some (12, true)), (.iaddr (.t 16) (.c (.int .i64 0)) 6), []⟩, ⟨(some 18), (some (12, true)), (.faddr (.t 17) 1), []⟩, ⟨(some 19), (some (12, true)), (.ld (.t 18) none), []⟩, ⟨(some 20), (some (12, true)), (.mov (.t 1)), []⟩, ⟨(some 21), (some (12, true)), (.bin .leq (.t 19) (.t 20)), []⟩, ⟨(some 22), none, (.pick (.t 12) (.t 21) (.c (.bool false))), []⟩]) (.cond (.t 22) .skip (.exit 0))) (.block 1 (.seq (.reg false [⟨(some 23), none, (.mov (.t 0)), []⟩, ⟨(some 24), none, (.nilc (.t 23)), []⟩, ⟨(some 25), none, (.faddr (.t 24) 0), []⟩, ⟨(some 26), none, (.ld (.t 25) none), []⟩, ⟨(some 27), none, (.iaddr (.t 26) (.c (.int .i64 0)) 6), []⟩, ⟨(some 28), none, (.ld (.t 27) (some 6)), []⟩, ⟨(some 4), none, (.alloc [(.int .i64 0), (.int .i64 0), (.str []), (.str []), (.str []), (.bool false)]), []⟩, ⟨none, none, (.st (.t 4) (.t 28) 6), []⟩]) (.seq (.reg false [⟨(some 29), none, (.mov (.t 0)), []⟩, ⟨(some 30), none, (.mov (.t 0)), []⟩, ⟨(some 31), none, (.nilc (.t 30)), []⟩, ⟨(some 32), none, (.faddr (.t 31) 0), []⟩, ⟨(some 33), none, (.ld (.t 32) none), []⟩, ⟨(some 34), none, (.slc false (.t 33) (some (.c (.int .i64 1))) none 6), []⟩, ⟨(some 35), none, (.nilc (.t 29)), []⟩, ⟨(some 36), none, (.faddr (.t 35) 0), []⟩, ⟨none, none, (.st (.t 36) (.t 34) 1), []⟩]) (.seq (.reg true [⟨(some 37), none, (.mov (.t 0)), []⟩, ⟨(some 38), none, (.nilc (.t 37)), []⟩, ⟨(some 39), none, (.faddr (.t 38) 5), []⟩, ⟨(some 40), none, (.ld (.t 39) none), []⟩, ⟨(some 41), none, (.faddr (.t 4) 0), []⟩, ⟨(some 42), none, (.ld (.t 41) none), []⟩, ⟨none, none, (.mset (some .i64) (.t 40) (.t 42) (.c (.bool true))), []⟩]) (.seq (.reg false [⟨(some 43), none, (.mov (.t 0)), []⟩, ⟨(some 44), none, (.ld (.t 4) (some 6)), []⟩, ⟨(some 45), none, (.mov (.t 1)), []⟩, ⟨(some 46), none, (.shr 171 [(.t 43), (.t 44), (.t 45)]), []⟩, ⟨(some 5), none, (.mov (.t 46)), []⟩]) (.seq (.reg true [⟨(some 47), none, (.mov (.t 0)), []⟩, ⟨(some 48), none, (.mov (.t 0)), []⟩, ⟨(some 49), none, (.nilc (.t 48)), []⟩, ⟨(some 50), none, (.faddr (.t 49) 6), []⟩, ⟨(some 51), none, (.ld (.t 50) none), []⟩, ⟨(some 52), none, (.faddr (.t 4) 0), []⟩, ⟨(some 53), none, (.ld (.t 52) none), []⟩, ⟨(some 54), none, (.mov (.t 1)), []⟩, ⟨(some 55), none, (.mov (.t 5)), []⟩, ⟨(some 56), none, (.bld [(.int .i64 0), (.int .i64 0), (.int .i64 0)] [(0, (1, (.t 53))), (1, (1, (.t 54))), (2, (1, (.t 55)))]), []⟩, ⟨(some 57), none, (.bs 1 3 [(.int .i64 0), (.int .i64 0), (.int .i64 0)] [(0, (.t 56))]), [4]⟩, ⟨(some 58), none, (.app 3 24 (.t 51) (.t 57)), []⟩, ⟨(some 59), none, (.nilc (.t 47)), []⟩, ⟨(some 60), none, (.faddr (.t 59) 6), []⟩, ⟨none, none, (.st (.t 60) (.t 58) 1), []⟩]) (.seq (.reg false [⟨(some 61), none, (.mov (.t 5)), []⟩, ⟨(some 62), none, (.bin .eql (.t 61) (.c (.int .i64 1))), []⟩, ⟨(some 63), none, (.mov (.t 62)), []⟩, ⟨(some 64), (some (63, false)), (.mov (.t 5)), []⟩, ⟨(some 65), (some (63, false)), (.bin .eql (.t 64) (.c (.int .i64 5))), []⟩, ⟨(some 66), none, (.pick (.t 63) (.c (.bool true)) (.t 65)), []⟩]) (.cond (.t 66) (.reg true [⟨(some 67), none, (.mov (.t 0)), []⟩, ⟨(some 68), none, (.mov (.t 0)), []⟩, ⟨(some 69), none, (.nilc (.t 68)), []⟩, ⟨(some 70), none, (.faddr (.t 69) 7), []⟩, ⟨(some 71), none, (.ld (.t 70) none), []⟩, ⟨(some 72), none, (.mov (.t 1)), []⟩, ⟨(some 73), none, (.faddr (.t 4) 2), []⟩, ⟨(some 74), none, (.ld (.t 73) none), []⟩, ⟨(some 75), none, (.bld [(.int .i64 0), (.str [])] [(0, (1, (.t 72))), (1, (1, (.t 74)))]), []⟩, ⟨(some 76), none, (.bs 1 2 [(.int .i64 0), (.str [])] [(0, (.t 75))]), [4]⟩, ⟨(some 77), none, (.app 2 24 (.t 71) (.t 76)), []⟩, ⟨(some 78), none, (.nilc (.t 67)), []⟩, ⟨(some 79), none, (.faddr (.t 78) 7), []⟩, ⟨none, none, (.st (.t 79) (.t 77) 1), []⟩]) .skip)))))))))
def c143 : Cmd := (.block 0 (.loop l143_0))
theorem h143 : compF Try.prog shI 143 = some (c143, [], 80) := by kernel_rfl
def c171 : Cmd := (.seq (.reg false [⟨(some 4), none, (.box (.t 1)), []⟩, ⟨(some 6), none, (.mov (.c (.int .i64 0))), []⟩]) (.seq (.block 0 (.seq (.reg true [⟨(some 8), none, (.mov (.t 0)), []⟩, ⟨(some 9), none, (.nilc (.t 8)), []⟩, ⟨(some 10), none, (.faddr (.t 9) 4), []⟩, ⟨(some 11), none, (.ld (.t 10) none), []⟩, ⟨(some 12), none, (.faddr (.t 4) 3), []⟩, ⟨(some 13), none, (.ld (.t 12) none), []⟩, ⟨(some 14), none, (.mget false none (.bool false) (.t 11) (.t 13)), []⟩, ⟨(some 7), none, (.mov (.t 14)), []⟩]) (.cond (.t 7) (.seq (.reg false [⟨(some 6), none, (.mov (.c (.int .i64 2))), []⟩]) .ret) (.seq (.reg true [⟨(some 16), none, (.mov (.t 2)), []⟩, ⟨(some 17), none, (.faddr (.t 4) 1), []⟩, ⟨(some 18), none, (.ld (.t 17) none), []⟩, ⟨(some 19), none, (.bin .sub (.t 16) (.t 18)), []⟩, ⟨(some 20), none, (.mov (.t 0)), []⟩, ⟨(some 21), none, (.nilc (.t 20)), []⟩, ⟨(some 22), none, (.faddr (.t 21) 3), []⟩, ⟨(some 23), none, (.ld (.t 22) none), []⟩, ⟨(some 24), none, (.bin .gtr (.t 19) (.t 23)), []⟩, ⟨(some 15), none, (.mov (.t 24)), []⟩]) (.cond (.t 15) (.seq (.reg false [⟨(some 6), none, (.mov (.c (.int .i64 4))), []⟩]) .ret) (.seq (.reg true [⟨(some 26), none, (.faddr (.t 4) 4), []⟩, ⟨(some 27), none, (.ld (.t 26) none), []⟩, ⟨(some 28), none, (.bin .neq (.t 27) (.c (.str []))), []⟩, ⟨(some 29), none, (.mov (.t 28)), []⟩, ⟨(some 30), (some (29, true)), (.mov (.t 0)), []⟩, ⟨(some 31), (some (29, true)), (.nilc (.t 30)), []⟩, ⟨(some 32), (some (29, true)), (.faddr (.t 31) 1), []⟩, ⟨(some 33), (some (29, true)), (.ld (.t 32) none), []⟩, ⟨(some 34), (some (29, true)), (.faddr (.t 4) 4), []⟩, ⟨(some 35), (some (29, true)), (.ld (.t 34) none), []⟩, ⟨(some 36), (some (29, true)), (.mov (.t 2)), []⟩, ⟨(some 37), (some (29, true)), (.call 118 [(.t 33), (.t 35), (.t 36)]), []⟩, ⟨(some 38), (some (29, true)), (.faddr (.t 4) 5), []⟩, ⟨(some 39), (some (29, true)), (.ld (.t 38) none), [11]⟩, ⟨(some 40), (some (29, true)), (.beq false (.t 37) (.t 39)), []⟩, ⟨(some 41), none, (.pick (.t 29) (.t 40) (.c (.bool false))), []⟩, ⟨(some 25), none, (.mov (.t 41)), []⟩]) (.cond (.t 25) (.seq (.reg false [⟨(some 6), none, (.mov (.c (.int .i64 3))), []⟩]) .ret) (.seq (.reg false [⟨(some 43), none, (.mov (.t 2)), []⟩, ⟨(some 44), none, (.faddr (.t 4) 1), []⟩, ⟨(some 45), none, (.ld (.t 44) none), []⟩, ⟨(some 46), none, (.bin .gtr (.t 43) (.t 45)), []⟩, ⟨(some 42), none, (.mov (.t 46)), []⟩]) (.cond (.t 42) (.seq (.reg false [⟨(some 6), none, (.mov (.c (.int .i64 5))), []⟩]) .ret) .skip))))))))) (.seq (.reg false [⟨(some 6), none, (.mov (.c (.int .i64 1))), []⟩]) .ret)))
theorem h171 : compF Try.prog shI 171 = some (c171, [6], 47) := by kernel_rfl
def c41 : Cmd := (.seq (.reg false [⟨(some 12), none, (.mov (.c .ns)), []⟩, ⟨(some 13), none, (.mov (.c .ns)), []⟩, ⟨(some 14), none, (.mov (.c (.int .i64 0))), []⟩]) (.seq (.reg false [⟨(some 18), none, (.mov (.t 0)), []⟩, ⟨(some 19), none, (.mov (.t 1)), []⟩, ⟨(some 20), none, (.mov (.t 2)), []⟩, ⟨(some 21), none, (.mov (.t 3)), []⟩, ⟨(some 22), none, (.mov (.t 4)), []⟩, ⟨(some 23), none, (.mov (.t 5)), []⟩, ⟨(some 24), none, (.shr 96 [(.t 18), (.t 19), (.t 20), (.t 21), (.t 22), (.t 23)]), []⟩, ⟨(some 17), none, (.mov (.t 24)), []⟩, ⟨(some 25), none, (.ext (.t 17) 0), []⟩, ⟨(some 26), none, (.ext (.t 17) 1), []⟩, ⟨(some 15), none, (.mov (.t 25)), []⟩, ⟨(some 16), none, (.mov (.t 26)), []⟩]) (.seq (.seq (.reg false [⟨(some 27), none, (.mov (.t 16)), []⟩, ⟨(some 28), none, (.bin .neq (.t 27) (.c (.int .i64 0))), []⟩]) (.cond (.t 28) (.seq (.reg false [⟨(some 29), none, (.mov (.t 16)), []⟩, ⟨(some 12), none, (.mov (.c .ns)), []⟩, ⟨(some 13), none, (.mov (.c .ns)), []⟩, ⟨(some 14), none, (.mov (.t 29)), []⟩]) .ret) .skip)) (.seq (.reg true [⟨(some 30), none, (.mov (.t 15)), []⟩, ⟨(some 31), none, (.nilc (.t 30)), []⟩, ⟨(some 32), none, (.faddr (.t 31) 6), []⟩, ⟨(some 33), none, (.ld (.t 32) none), []⟩, ⟨(some 34), none, (.mov (.t 15)), []⟩, ⟨(some 35), none, (.nilc (.t 34)), []⟩, ⟨(some 36), none, (.faddr (.t 35) 0), []⟩, ⟨(some 37), none, (.ld (.t 36) none), []⟩, ⟨(some 12), none, (.mov (.t 33)), []⟩, ⟨(some 13), none, (.mov (.t 37)), []⟩, ⟨(some 14), none, (.mov (.c (.int .i64 0))), []⟩]) .ret))))
theorem h41 : compF Try.prog shI 41 = some (c41, [12, 13, 14], 38) := by kernel_rfl
def c42 : Cmd := (.seq (.reg false [⟨(some 12), none, (.mov (.c .ns)), []⟩, ⟨(some 13), none, (.mov (.c .ns)), []⟩, ⟨(some 14), none, (.mov (.c (.int .i64 0))), []⟩]) (.seq (.reg false [⟨(some 18), none, (.mov (.t 0)), []⟩, ⟨(some 19), none, (.mov (.t 1)), []⟩, ⟨(some 20), none, (.mov (.t 2)), []⟩, ⟨(some 21), none, (.mov (.t 3)), []⟩, ⟨(some 22), none, (.mov (.t 4)), []⟩, ⟨(some 23), none, (.mov (.t 5)), []⟩, ⟨(some 24), none, (.shr 96 [(.t 18), (.t 19), (.t 20), (.t 21), (.t 22), (.t 23)]), []⟩, ⟨(some 17), none, (.mov (.t 24)), []⟩, ⟨(some 25), none, (.ext (.t 17) 0), []⟩, ⟨(some 26), none, (.ext (.t 17) 1), []⟩, ⟨(some 15), none, (.mov (.t 25)), []⟩, ⟨(some 16), none, (.mov (.t 26)), []⟩]) (.seq (.seq (.reg false [⟨(some 27), none, (.mov (.t 16)), []⟩, ⟨(some 28), none, (.bin .neq (.t 27) (.c (.int .i64 0))), []⟩]) (.cond (.t 28) (.seq (.reg false [⟨(some 29), none, (.mov (.t 16)), []⟩, ⟨(some 12), none, (.mov (.c .ns)), []⟩, ⟨(some 13), none, (.mov (.c .ns)), []⟩, ⟨(some 14), none, (.mov (.t 29)), []⟩]) .ret) .skip)) (.seq (.reg true [⟨(some 30), none, (.mov (.t 15)), []⟩, ⟨(some 31), none, (.nilc (.t 30)), []⟩, ⟨(some 32), none, (.faddr (.t 31) 8), []⟩, ⟨(some 33), none, (.ld (.t 32) none), []⟩, ⟨(some 34), none, (.mov (.t 15)), []⟩, ⟨(some 35), none, (.nilc (.t 34)), []⟩, ⟨(some 36), none, (.faddr (.t 35) 9), []⟩, ⟨(some 37), none, (.ld (.t 36) none), []⟩, ⟨(some 12), none, (.mov (.t 33)), []⟩, ⟨(some 13), none, (.mov (.t 37)), []⟩, ⟨(some 14), none, (.mov (.c (.int .i64 0))), []⟩]) .ret))))
theorem h42 : compF Try.prog shI 42 = some (c42, [12, 13, 14], 38) := by kernel_rfl
def c48 : Cmd := (.seq (.reg false [⟨(some 12), none, (.mov (.c .ns)), []⟩, ⟨(some 13), none, (.mov (.c (.int .i64 0))), []⟩]) (.seq (.reg false [⟨(some 17), none, (.mov (.t 0)), []⟩, ⟨(some 18), none, (.mov (.t 1)), []⟩, ⟨(some 19), none, (.mov (.t 2)), []⟩, ⟨(some 20), none, (.mov (.t 3)), []⟩, ⟨(some 21), none, (.mov (.t 4)), []⟩, ⟨(some 22), none, (.mov (.t 5)), []⟩, ⟨(some 23), none, (.shr 96 [(.t 17), (.t 18), (.t 19), (.t 20), (.t 21), (.t 22)]), []⟩, ⟨(some 16), none, (.mov (.t 23)), []⟩, ⟨(some 24), none, (.ext (.t 16) 0), []⟩, ⟨(some 25), none, (.ext (.t 16) 1), []⟩, ⟨(some 14), none, (.mov (.t 24)), []⟩, ⟨(some 15), none, (.mov (.t 25)), []⟩]) (.seq (.seq (.reg false [⟨(some 26), none, (.mov (.t 15)), []⟩, ⟨(some 27), none, (.bin .neq (.t 26) (.c (.int .i64 0))), []⟩]) (.cond (.t 27) (.seq (.reg false [⟨(some 28), none, (.mov (.t 15)), []⟩, ⟨(some 12), none, (.mov (.c .ns)), []⟩, ⟨(some 13), none, (.mov (.t 28)), []⟩]) .ret) .skip)) (.seq (.reg false [⟨(some 29), none, (.mov (.t 14)), []⟩, ⟨(some 30), none, (.nilc (.t 29)), []⟩, ⟨(some 31), none, (.faddr (.t 30) 7), []⟩, ⟨(some 32), none, (.ld (.t 31) none), []⟩, ⟨(some 12), none, (.mov (.t 32)), []⟩, ⟨(some 13), none, (.mov (.c (.int .i64 0))), []⟩]) .ret))))
theorem h48 : compF Try.prog shI 48 = some (c48, [12, 13], 33) := by kernel_rfl
def k44_0 : Cmd := (.block 1 (.seq (.reg false [⟨(some 15), none, (.mov (.t 13)), []⟩, ⟨(some 5), none, (.mov (.t 15)), []⟩]) (.seq (.reg true [⟨(some 16), none, (.mov (.t 0)), []⟩, ⟨(some 17), none, (.mov (.t 5)), []⟩, ⟨(some 18), none, (.iaddr (.t 16) (.t 17) 3), []⟩, ⟨(some 19), none, (.ld (.t 18) (some 3)), []⟩, ⟨(some 20), none, (.mov (.t 1)), []⟩, ⟨(some 21), none, (.mov (.t 5)), []⟩, ⟨(some 22), none, (.iaddr (.t 20) (.t 21) 3), []⟩, ⟨(some 23), none, (.ld (.t 22) (some 3)), []⟩, ⟨(some 24), none, (.seq true [0, 0, 0] (.t 19) (.t 23)), []⟩]) (.cond (.t 24) (.seq (.reg false [⟨(some 4), none, (.mov (.c (.bool false))), []⟩]) .ret) .skip))))
abbrev l44_0 : Cmd := cnt 0 14 13 12 25 k44_0
def c44 : Cmd := (.seq (.reg false [⟨(some 4), none, (.mov (.c (.bool false))), []⟩]) (.seq (.seq (.reg false [⟨(some 6), none, (.mov (.t 0)), []⟩, ⟨(some 7), none, (.len false (.t 6)), []⟩, ⟨(some 8), none, (.mov (.t 1)), []⟩, ⟨(some 9), none, (.len false (.t 8)), []⟩, ⟨(some 10), none, (.bin .neq (.t 7) (.t 9)), []⟩]) (.cond (.t 10) (.seq (.reg false [⟨(some 4), none, (.mov (.c (.bool false))), []⟩]) .ret) .skip)) (.seq (.seq (.reg false [⟨(some 11), none, (.mov (.t 0)), []⟩, ⟨(some 12), none, (.len false (.t 11)), []⟩, ⟨(some 13), none, (.mov (.c (.int .i64 0))), []⟩]) (.block 0 (.loop l44_0))) (.seq (.reg false [⟨(some 4), none, (.mov (.c (.bool true))), []⟩]) .ret))))
theorem h44 : compF Try.prog shI 44 = some (c44, [4], 26) := by kernel_rfl
def l11_0 : Cmd := (.seq (.seq (.reg false [⟨(some 51), none, (.mov (.t 18)), []⟩, ⟨(some 52), none, (.mov (.t 3)), []⟩, ⟨(some 53), none, (.len false (.t 52)), []⟩, ⟨(some 54), none, (.bin .lss (.t 51) (.t 53)), []⟩]) (.cond (.t 54) .skip (.exit 2))) (.seq (.block 3 (.reg true [⟨(some 57), none, (.mov (.t 17)), []⟩, ⟨(some 58), none, (.mov (.t 57)), []⟩, ⟨(some 59), (some (58, false)), (.mov (.t 3)), []⟩, ⟨(some 60), (some (58, false)), (.mov (.t 18)), []⟩, ⟨(some 61), (some (58, false)), (.iaddr (.t 59) (.t 60) 2), []⟩, ⟨(some 62), (some (58, false)), (.faddr (.t 61) 0), []⟩, ⟨(some 63), (some (58, false)), (.ld (.t 62) none), []⟩, ⟨(some 64), (some (58, false)), (.mov (.t 13)), []⟩, ⟨(some 65), (some (58, false)), (.mov (.t 16)), []⟩, ⟨(some 66), (some (58, false)), (.iaddr (.t 64) (.t 65) 3), []⟩, ⟨(some 67), (some (58, false)), (.faddr (.t 66) 1), []⟩, ⟨(some 68), (some (58, false)), (.ld (.t 67) none), []⟩, ⟨(some 69), (some (58, false)), (.bin .leq (.t 63) (.t 68)), []⟩, ⟨(some 70), (some (58, false)), (.mov (.t 69)), []⟩, ⟨(some 71), (some (70, true)), (.mov (.t 13)), []⟩, ⟨(some 72), (some (70, true)), (.mov (.t 16)), []⟩, ⟨(some 73), (some (70, true)), (.iaddr (.t 71) (.t 72) 3), []⟩, ⟨(some 74), (some (70, true)), (.faddr (.t 73) 1), []⟩, ⟨(some 75), (some (70, true)), (.ld (.t 74) none), []⟩, ⟨(some 76), (some (70, true)), (.mov (.t 3)), []⟩, ⟨(some 77), (some (70, true)), (.mov (.t 18)), []⟩, ⟨(some 78), (some (70, true)), (.iaddr (.t 76) (.t 77) 2), []⟩, ⟨(some 79), (some (70, true)), (.faddr (.t 78) 1), []⟩, ⟨(some 80), (some (70, true)), (.ld (.t 79) none), []⟩, ⟨(some 81), (some (70, true)), (.bin .lss (.t 75) (.t 80)), []⟩, ⟨(some 82), (some (58, false)), (.pick (.t 70) (.t 81) (.c (.bool false))), []⟩, ⟨(some 83), none, (.pick (.t 58) (.c (.bool true)) (.t 82)), []⟩, ⟨(some 17), none, (.mov (.t 83)), []⟩])) (.reg false [⟨(some 55), none, (.mov (.t 18)), []⟩, ⟨(some 56), none, (.bin .add (.t 55) (.c (.int .i64 1))), []⟩, ⟨(some 18), none, (.mov (.t 56)), []⟩])))
def l11_1 : Cmd := (.seq (.seq (.reg false [⟨(some 113), none, (.mov (.t 19)), []⟩, ⟨(some 114), none, (.mov (.t 16)), []⟩, ⟨(some 115), none, (.bin .lss (.t 113) (.t 114)), []⟩]) (.cond (.t 115) .skip (.exit 4))) (.seq (.block 5 (.seq (.reg true [⟨(some 118), none, (.mov (.t 13)), []⟩, ⟨(some 119), none, (.mov (.t 19)), []⟩, ⟨(some 120), none, (.iaddr (.t 118) (.t 119) 3), []⟩, ⟨(some 121), none, (.faddr (.t 120) 0), []⟩, ⟨(some 122), none, (.ld (.t 121) none), []⟩, ⟨(some 123), none, (.mov (.t 13)), []⟩, ⟨(some 124), none, (.mov (.t 16)), []⟩, ⟨(some 125), none, (.iaddr (.t 123) (.t 124) 3), []⟩, ⟨(some 126), none, (.faddr (.t 125) 0), []⟩, ⟨(some 127), none, (.ld (.t 126) none), []⟩, ⟨(some 128), none, (.bin .eql (.t 122) (.t 127)), []⟩]) (.cond (.t 128) (.seq (.reg false [⟨(some 12), none, (.mov (.c (.bool false))), []⟩]) .ret) .skip))) (.reg false [⟨(some 116), none, (.mov (.t 19)), []⟩, ⟨(some 117), none, (.bin .add (.t 116) (.c (.int .i64 1))), []⟩, ⟨(some 19), none, (.mov (.t 117)), []⟩])))
def l11_2 : Cmd := (.seq (.seq (.reg false [⟨(some 129), none, (.mov (.t 20)), []⟩, ⟨(some 130), none, (.mov (.t 14)), []⟩, ⟨(some 131), none, (.len false (.t 130)), []⟩, ⟨(some 132), none, (.bin .lss (.t 129) (.t 131)), []⟩]) (.cond (.t 132) .skip (.exit 6))) (.seq (.block 7 (.seq (.reg true [⟨(some 135), none, (.mov (.t 14)), []⟩, ⟨(some 136), none, (.mov (.t 20)), []⟩, ⟨(some 137), none, (.iaddr (.t 135) (.t 136) 6), []⟩, ⟨(some 138), none, (.faddr (.t 137) 0), []⟩, ⟨(some 139), none, (.ld (.t 138) none), []⟩, ⟨(some 140), none, (.mov (.t 13)), []⟩, ⟨(some 141), none, (.mov (.t 16)), []⟩, ⟨(some 142), none, (.iaddr (.t 140) (.t 141) 3), []⟩, ⟨(some 143), none, (.faddr (.t 142) 0), []⟩, ⟨(some 144), none, (.ld (.t 143) none), []⟩, ⟨(some 145), none, (.bin .eql (.t 139) (.t 144)), []⟩]) (.cond (.t 145) (.seq (.reg false [⟨(some 12), none, (.mov (.c (.bool false))), []⟩]) .ret) .skip))) (.reg false [⟨(some 133), none, (.mov (.t 20)), []⟩, ⟨(some 134), none, (.bin .add (.t 133) (.c (.int .i64 1))), []⟩, ⟨(some 20), none, (.mov (.t 134)), []⟩])))
def l11_3 : Cmd := (.seq (.seq (.reg false [⟨(some 45), none, (.mov (.t 16)), []⟩, ⟨(some 46), none, (.mov (.t 13)), []⟩, ⟨(some 47), none, (.len false (.t 46)), []⟩, ⟨(some 48), none, (.bin .lss (.t 45) (.t 47)), []⟩]) (.cond (.t 48) .skip (.exit 0))) (.seq (.block 1 (.seq (.reg false [⟨(some 17), none, (.mov (.c (.bool false))), []⟩]) (.seq (.seq (.reg false [⟨(some 18), none, (.mov (.c (.int .i64 0))), []⟩]) (.block 2 (.loop l11_0))) (.seq (.seq (.reg true [⟨(some 84), none, (.mov (.t 17)), []⟩, ⟨(some 85), none, (.un .not (.t 84)), []⟩, ⟨(some 86), none, (.mov (.t 85)), []⟩, ⟨(some 87), (some (86, false)), (.mov (.t 13)), []⟩, ⟨(some 88), (some (86, false)), (.mov (.t 16)), []⟩, ⟨(some 89), (some (86, false)), (.iaddr (.t 87) (.t 88) 3), []⟩, ⟨(some 90), (some (86, false)), (.faddr (.t 89) 1), []⟩, ⟨(some 91), (some (86, false)), (.ld (.t 90) none), []⟩, ⟨(some 92), (some (86, false)), (.mov (.t 5)), []⟩, ⟨(some 93), (some (86, false)), (.bin .gtr (.t 91) (.t 92)), []⟩, ⟨(some 94), none, (.pick (.t 86) (.c (.bool true)) (.t 93)), []⟩, ⟨(some 95), none, (.mov (.t 94)), []⟩, ⟨(some 96), (some (95, false)), (.mov (.t 16)), []⟩, ⟨(some 97), (some (95, false)), (.bin .gtr (.t 96) (.c (.int .i64 0))), []⟩, ⟨(some 98), (some (95, false)), (.mov (.t 97)), []⟩, ⟨(some 99), (some (98, true)), (.mov (.t 13)), []⟩, ⟨(some 100), (some (98, true)), (.mov (.t 16)), []⟩, ⟨(some 101), (some (98, true)), (.iaddr (.t 99) (.t 100) 3), []⟩, ⟨(some 102), (some (98, true)), (.faddr (.t 101) 1), []⟩, ⟨(some 103), (some (98, true)), (.ld (.t 102) none), []⟩, ⟨(some 104), (some (98, true)), (.mov (.t 13)), []⟩, ⟨(some 105), (some (98, true)), (.mov (.t 16)), []⟩, ⟨(some 106), (some (98, true)), (.bin .sub (.t 105) (.c (.int .i64 1))), []⟩, ⟨(some 107), (some (98, true)), (.iaddr (.t 104) (.t 106) 3), []⟩, ⟨(some 108), (some (98, true)), (.faddr (.t 107) 1), []⟩, ⟨(some 109), (some (98, true)), (.ld (.t 108) none), []⟩, ⟨(some 110), (some (98, true)), (.bin .lss (.t 103) (.t 109)), []⟩, ⟨(some 111), (some (95, false)), (.pick (.t 98) (.t 110) (.c (.bool false))), []⟩, ⟨(some 112), none, (.pick (.t 95) (.c (.bool true)) (.t 111)), []⟩]) (.cond (.t 112) (.seq (.reg false [⟨(some 12), none, (.mov (.c (.bool false))), []⟩]) .ret) .skip)) (.seq (.seq (.reg false [⟨(some 19), none, (.mov (.c (.int .i64 0))), []⟩]) (.block 4 (.loop l11_1))) (.seq (.reg false [⟨(some 20), none, (.mov (.c (.int .i64 0))), []⟩]) (.block 6 (.loop l11_2)))))))) (.reg false [⟨(some 49), none, (.mov (.t 16)), []⟩, ⟨(some 50), none, (.bin .add (.t 49) (.c (.int .i64 1))), []⟩, ⟨(some 16), none, (.mov (.t 50)), []⟩])))
def c11 : Cmd := (.seq (.reg false [⟨(some 12), none, (.mov (.c (.bool false))), []⟩]) (.seq (.reg false [⟨(some 22), none, (.mov (.t 0)), []⟩, ⟨(some 23), none, (.mov (.t 1)), []⟩, ⟨(some 24), none, (.mov (.t 2)), []⟩, ⟨(some 25), none, (.mov (.t 3)), []⟩, ⟨(some 26), none, (.mov (.t 4)), []⟩, ⟨(some 27), none, (.mov (.t 5)), []⟩, ⟨(some 28), none, (.call 41 [(.t 22), (.t 23), (.t 24), (.t 25), (.t 26), (.t 27)]), []⟩, ⟨(some 21), none, (.mov (.t 28)), []⟩, ⟨(some 29), none, (.ext (.t 21) 0), []⟩, ⟨(some 30), none, (.ext (.t 21) 1), []⟩, ⟨(some 31), none, (.ext (.t 21) 2), []⟩, ⟨(some 13), none, (.mov (.t 29)), []⟩, ⟨(some 14), none, (.mov (.t 30)), []⟩, ⟨(some 15), none, (.mov (.t 31)), []⟩]) (.seq (.seq (.reg false [⟨(some 32), none, (.mov (.t 15)), []⟩, ⟨(some 33), none, (.bin .neq (.t 32) (.c (.int .i64 0))), []⟩]) (.cond (.t 33) (.seq (.reg false [⟨(some 34), none, (.mov (.t 13)), []⟩, ⟨(some 35), none, (.len false (.t 34)), []⟩, ⟨(some 36), none, (.bin .eql (.t 35) (.c (.int .i64 0))), []⟩, ⟨(some 37), none, (.mov (.t 36)), []⟩, ⟨(some 38), (some (37, true)), (.mov (.t 14)), []⟩, ⟨(some 39), (some (37, true)), (.len false (.t 38)), []⟩, ⟨(some 40), (some (37, true)), (.bin .eql (.t 39) (.c (.int .i64 0))), []⟩, ⟨(some 41), none, (.pick (.t 37) (.t 40) (.c (.bool false))), []⟩, ⟨(some 42), none, (.mov (.t 41)), []⟩, ⟨(some 43), (some (42, true)), (.call 24 []), []⟩, ⟨(some 44), none, (.pick (.t 42) (.t 43) (.c (.bool false))), []⟩, ⟨(some 12), none, (.mov (.t 44)), []⟩]) .ret) .skip)) (.seq (.seq (.reg false [⟨(some 16), none, (.mov (.c (.int .i64 0))), []⟩]) (.block 0 (.loop l11_3))) (.seq (.reg false [⟨(some 146), none, (.mov (.t 14)), []⟩, ⟨(some 147), none, (.call 31 [(.t 146)]), []⟩, ⟨(some 148), none, (.bin .eql (.t 147) (.c (.int .i64 0))), []⟩, ⟨(some 149), none, (.mov (.t 148)), []⟩, ⟨(some 150), (some (149, true)), (.call 24 []), []⟩, ⟨(some 151), none, (.pick (.t 149) (.t 150) (.c (.bool false))), []⟩, ⟨(some 12), none, (.mov (.t 151)), []⟩]) .ret)))))
theorem h11 : compF Try.prog shI 11 = some (c11, [12], 152) := by kernel_rfl
def l12_0 : Cmd := (.seq (.seq (.reg false [⟨(some 40), none, (.mov (.t 13)), []⟩, ⟨(some 41), none, (.mov (.t 0)), []⟩, ⟨(some 42), none, (.len false (.t 41)), []⟩, ⟨(some 43), none, (.bin .lss (.t 40) (.t 42)), []⟩, ⟨(some 44), none, (.mov (.t 43)), []⟩, ⟨(some 45), (some (44, true)), (.mov (.t 0)), []⟩, ⟨(some 46), (some (44, true)), (.mov (.t 13)), []⟩, ⟨(some 47), (some (44, true)), (.iaddr (.t 45) (.t 46) 6), []⟩, ⟨(some 48), (some (44, true)), (.faddr (.t 47) 1), []⟩, ⟨(some 49), (some (44, true)), (.ld (.t 48) none), []⟩, ⟨(some 50), (some (44, true)), (.mov (.t 3)), []⟩, ⟨(some 51), (some (44, true)), (.bin .leq (.t 49) (.t 50)), []⟩, ⟨(some 52), none, (.pick (.t 44) (.t 51) (.c (.bool false))), []⟩, ⟨(some 53), none, (.mov (.t 52)), []⟩, ⟨(some 54), (some (53, true)), (.mov (.t 0)), []⟩, ⟨(some 55), (some (53, true)), (.mov (.t 13)), []⟩, ⟨(some 56), (some (53, true)), (.iaddr (.t 54) (.t 55) 6), []⟩, ⟨(some 57), (some (53, true)), (.faddr (.t 56) 1), []⟩, ⟨(some 58), (some (53, true)), (.ld (.t 57) none), []⟩, ⟨(some 59), (some (53, true)), (.bin .lss (.t 58) (.c (.int .i64 1000000000000))), []⟩, ⟨(some 60), none, (.pick (.t 53) (.t 59) (.c (.bool false))), []⟩]) (.cond (.t 60) .skip (.exit 0))) (.block 1 (.reg false [⟨(some 61), none, (.mov (.t 13)), []⟩, ⟨(some 62), none, (.bin .add (.t 61) (.c (.int .i64 1))), []⟩, ⟨(some 13), none, (.mov (.t 62)), []⟩])))
def l12_1 : Cmd := (.seq (.seq (.reg false [⟨(some 75), none, (.mov (.t 14)), []⟩, ⟨(some 76), none, (.mov (.t 13)), []⟩, ⟨(some 77), none, (.bin .lss (.t 75) (.t 76)), []⟩]) (.cond (.t 77) .skip (.exit 2))) (.seq (.block 3 (.seq (.reg true [⟨(some 80), none, (.mov (.t 10)), []⟩, ⟨(some 81), none, (.mov (.t 14)), []⟩, ⟨(some 82), none, (.iaddr (.t 80) (.t 81) 3), []⟩, ⟨(some 83), none, (.faddr (.t 82) 0), []⟩, ⟨(some 84), none, (.ld (.t 83) none), []⟩, ⟨(some 85), none, (.mov (.t 0)), []⟩, ⟨(some 86), none, (.mov (.t 14)), []⟩, ⟨(some 87), none, (.iaddr (.t 85) (.t 86) 6), []⟩, ⟨(some 88), none, (.faddr (.t 87) 0), []⟩, ⟨(some 89), none, (.ld (.t 88) none), []⟩, ⟨(some 90), none, (.bin .neq (.t 84) (.t 89)), []⟩, ⟨(some 91), none, (.mov (.t 90)), []⟩, ⟨(some 92), (some (91, false)), (.mov (.t 10)), []⟩, ⟨(some 93), (some (91, false)), (.mov (.t 14)), []⟩, ⟨(some 94), (some (91, false)), (.iaddr (.t 92) (.t 93) 3), []⟩, ⟨(some 95), (some (91, false)), (.faddr (.t 94) 1), []⟩, ⟨(some 96), (some (91, false)), (.ld (.t 95) none), []⟩, ⟨(some 97), (some (91, false)), (.mov (.t 0)), []⟩, ⟨(some 98), (some (91, false)), (.mov (.t 14)), []⟩, ⟨(some 99), (some (91, false)), (.iaddr (.t 97) (.t 98) 6), []⟩, ⟨(some 100), (some (91, false)), (.faddr (.t 99) 1), []⟩, ⟨(some 101), (some (91, false)), (.ld (.t 100) none), []⟩, ⟨(some 102), (some (91, false)), (.bin .neq (.t 96) (.t 101)), []⟩, ⟨(some 103), none, (.pick (.t 91) (.c (.bool true)) (.t 102)), []⟩, ⟨(some 104), none, (.mov (.t 103)), []⟩, ⟨(some 105), (some (104, false)), (.mov (.t 10)), []⟩, ⟨(some 106), (some (104, false)), (.mov (.t 14)), []⟩, ⟨(some 107), (some (104, false)), (.iaddr (.t 105) (.t 106) 3), []⟩, ⟨(some 108), (some (104, false)), (.faddr (.t 107) 2), []⟩, ⟨(some 109), (some (104, false)), (.ld (.t 108) none), []⟩, ⟨(some 110), (some (104, false)), (.bin .neq (.t 109) (.c (.int .i64 1))), []⟩, ⟨(some 111), (some (104, false)), (.mov (.t 110)), []⟩, ⟨(some 112), (some (111, true)), (.mov (.t 10)), []⟩, ⟨(some 113), (some (111, true)), (.mov (.t 14)), []⟩, ⟨(some 114), (some (111, true)), (.iaddr (.t 112) (.t 113) 3), []⟩, ⟨(some 115), (some (111, true)), (.faddr (.t 114) 2), []⟩, ⟨(some 116), (some (111, true)), (.ld (.t 115) none), []⟩, ⟨(some 117), (some (111, true)), (.bin .neq (.t 116) (.c (.int .i64 3))), []⟩, ⟨(some 118), (some (104, false)), (.pick (.t 111) (.t 117) (.c (.bool false))), []⟩, ⟨(some 119), none, (.pick (.t 104) (.c (.bool true)) (.t 118)), []⟩]) (.cond (.t 119) (.seq (.reg false [⟨(some 8), none, (.mov (.c (.bool false))), []⟩]) .ret) .skip))) (.reg false [⟨(some 78), none, (.mov (.t 14)), []⟩, ⟨(some 79), none, (.bin .add (.t 78) (.c (.int .i64 1))), []⟩, ⟨(some 14), none, (.mov (.t 79)), []⟩])))
def c12 : Cmd := (.seq (.reg false [⟨(some 8), none, (.mov (.c (.bool false))), []⟩]) (.seq (.reg false [⟨(some 15), none, (.bld [(.int .i64 0), (.int .i64 0)] [(1, (1, (.c (.int .i64 1000000000000))))]), []⟩, ⟨(some 16), none, (.bs 1 2 [(.int .i64 0), (.int .i64 0)] [(0, (.t 15))]), []⟩, ⟨(some 9), none, (.mov (.t 16)), []⟩]) (.seq (.reg false [⟨(some 18), none, (.mov (.t 0)), []⟩, ⟨(some 19), none, (.mov (.t 1)), []⟩, ⟨(some 20), none, (.mov (.t 9)), []⟩, ⟨(some 21), none, (.mov (.t 2)), []⟩, ⟨(some 22), none, (.mov (.t 3)), []⟩, ⟨(some 23), none, (.call 41 [(.t 18), (.c .ns), (.t 19), (.t 20), (.t 21), (.t 22)]), []⟩, ⟨(some 17), none, (.mov (.t 23)), []⟩, ⟨(some 24), none, (.ext (.t 17) 0), []⟩, ⟨(some 25), none, (.ext (.t 17) 1), []⟩, ⟨(some 26), none, (.ext (.t 17) 2), []⟩, ⟨(some 10), none, (.mov (.t 24)), []⟩, ⟨(some 11), none, (.mov (.t 25)), []⟩, ⟨(some 12), none, (.mov (.t 26)), []⟩]) (.seq (.seq (.reg false [⟨(some 27), none, (.mov (.t 12)), []⟩, ⟨(some 28), none, (.bin .neq (.t 27) (.c (.int .i64 0))), []⟩]) (.cond (.t 28) (.seq (.reg false [⟨(some 29), none, (.mov (.t 10)), []⟩, ⟨(some 30), none, (.len false (.t 29)), []⟩, ⟨(some 31), none, (.bin .eql (.t 30) (.c (.int .i64 0))), []⟩, ⟨(some 32), none, (.mov (.t 31)), []⟩, ⟨(some 33), (some (32, true)), (.mov (.t 11)), []⟩, ⟨(some 34), (some (32, true)), (.len false (.t 33)), []⟩, ⟨(some 35), (some (32, true)), (.bin .eql (.t 34) (.c (.int .i64 0))), []⟩, ⟨(some 36), none, (.pick (.t 32) (.t 35) (.c (.bool false))), []⟩, ⟨(some 37), none, (.mov (.t 36)), []⟩, ⟨(some 38), (some (37, true)), (.call 24 []), []⟩, ⟨(some 39), none, (.pick (.t 37) (.t 38) (.c (.bool false))), []⟩, ⟨(some 8), none, (.mov (.t 39)), []⟩]) .ret) .skip)) (.seq (.reg false [⟨(some 13), none, (.mov (.c (.int .i64 0))), []⟩]) (.seq (.block 0 (.loop l12_0)) (.seq (.seq (.reg false [⟨(some 63), none, (.mov (.t 10)), []⟩, ⟨(some 64), none, (.len false (.t 63)), []⟩, ⟨(some 65), none, (.mov (.t 13)), []⟩, ⟨(some 66), none, (.bin .neq (.t 64) (.t 65)), []⟩, ⟨(some 67), none, (.mov (.t 66)), []⟩, ⟨(some 68), (some (67, false)), (.mov (.t 11)), []⟩, ⟨(some 69), (some (67, false)), (.mov (.t 0)), []⟩, ⟨(some 70), (some (67, false)), (.mov (.t 13)), []⟩, ⟨(some 71), (some (67, false)), (.slc false (.t 69) (some (.t 70)) none 6), []⟩, ⟨(some 72), (some (67, false)), (.call 33 [(.t 68), (.t 71)]), []⟩, ⟨(some 73), (some (67, false)), (.un .not (.t 72)), []⟩, ⟨(some 74), none, (.pick (.t 67) (.c (.bool true)) (.t 73)), []⟩]) (.cond (.t 74) (.seq (.reg false [⟨(some 8), none, (.mov (.c (.bool false))), []⟩]) .ret) .skip)) (.seq (.seq (.reg false [⟨(some 14), none, (.mov (.c (.int .i64 0))), []⟩]) (.block 2 (.loop l12_1))) (.seq (.reg false [⟨(some 120), none, (.call 24 []), []⟩, ⟨(some 8), none, (.mov (.t 120)), []⟩]) .ret)))))))))
theorem h12 : compF Try.prog shI 12 = some (c12, [8], 121) := by kernel_rfl
def l13_0 : Cmd := (.seq (.seq (.reg false [⟨(some 69), none, (.mov (.t 20)), []⟩, ⟨(some 70), none, (.mov (.t 1)), []⟩, ⟨(some 71), none, (.len false (.t 70)), []⟩, ⟨(some 72), none, (.bin .lss (.t 69) (.t 71)), []⟩]) (.cond (.t 72) .skip (.exit 0))) (.seq (.block 1 (.seq (.reg false [⟨(some 75), none, (.mov (.t 16)), []⟩, ⟨(some 76), none, (.mov (.t 20)), []⟩, ⟨(some 77), none, (.call 43 [(.t 75), (.t 76)]), []⟩, ⟨(some 78), none, (.un .not (.t 77)), []⟩]) (.cond (.t 78) (.reg false [⟨(some 79), none, (.mov (.t 19)), []⟩, ⟨(some 80), none, (.mov (.t 1)), []⟩, ⟨(some 81), none, (.mov (.t 20)), []⟩, ⟨(some 82), none, (.iaddr (.t 80) (.t 81) 11), []⟩, ⟨(some 83), none, (.ld (.t 82) (some 11)), []⟩, ⟨(some 84), none, (.bs 1 11 [(.int .i64 0), (.int .i64 0), (.int .i64 0), (.int .i64 0), (.str []), (.str []), (.str []), (.bool false), (.int .i64 0), (.str []), (.int .i64 0)] [(0, (.t 83))]), []⟩, ⟨(some 85), none, (.app 11 120 (.t 79) (.t 84)), []⟩, ⟨(some 19), none, (.mov (.t 85)), []⟩]) .skip))) (.reg false [⟨(some 73), none, (.mov (.t 20)), []⟩, ⟨(some 74), none, (.bin .add (.t 73) (.c (.int .i64 1))), []⟩, ⟨(some 20), none, (.mov (.t 74)), []⟩])))
def c13 : Cmd := (.seq (.reg false [⟨(some 12), none, (.mov (.c (.bool false))), []⟩]) (.seq (.reg false [⟨(some 26), none, (.mov (.t 0)), []⟩, ⟨(some 27), none, (.mov (.t 1)), []⟩, ⟨(some 28), none, (.mov (.t 2)), []⟩, ⟨(some 29), none, (.mov (.t 3)), []⟩, ⟨(some 30), none, (.mov (.t 4)), []⟩, ⟨(some 31), none, (.mov (.t 5)), []⟩, ⟨(some 32), none, (.call 41 [(.t 26), (.t 27), (.t 28), (.t 29), (.t 30), (.t 31)]), []⟩, ⟨(some 25), none, (.mov (.t 32)), []⟩, ⟨(some 33), none, (.ext (.t 25) 0), []⟩, ⟨(some 34), none, (.ext (.t 25) 1), []⟩, ⟨(some 35), none, (.ext (.t 25) 2), []⟩, ⟨(some 13), none, (.mov (.t 33)), []⟩, ⟨(some 14), none, (.mov (.t 34)), []⟩, ⟨(some 15), none, (.mov (.t 35)), []⟩]) (.seq (.reg false [⟨(some 37), none, (.mov (.t 0)), []⟩, ⟨(some 38), none, (.mov (.t 1)), []⟩, ⟨(some 39), none, (.mov (.t 2)), []⟩, ⟨(some 40), none, (.mov (.t 3)), []⟩, ⟨(some 41), none, (.mov (.t 4)), []⟩, ⟨(some 42), none, (.mov (.t 5)), []⟩, ⟨(some 43), none, (.call 42 [(.t 37), (.t 38), (.t 39), (.t 40), (.t 41), (.t 42)]), []⟩, ⟨(some 36), none, (.mov (.t 43)), []⟩, ⟨(some 44), none, (.ext (.t 36) 0), []⟩, ⟨(some 45), none, (.ext (.t 36) 1), []⟩, ⟨(some 46), none, (.ext (.t 36) 2), []⟩, ⟨(some 16), none, (.mov (.t 44)), []⟩, ⟨(some 17), none, (.mov (.t 45)), []⟩, ⟨(some 18), none, (.mov (.t 46)), []⟩]) (.seq (.seq (.reg false [⟨(some 47), none, (.mov (.t 15)), []⟩, ⟨(some 48), none, (.bin .neq (.t 47) (.c (.int .i64 0))), []⟩, ⟨(some 49), none, (.mov (.t 48)), []⟩, ⟨(some 50), (some (49, false)), (.mov (.t 18)), []⟩, ⟨(some 51), (some (49, false)), (.bin .neq (.t 50) (.c (.int .i64 0))), []⟩, ⟨(some 52), none, (.pick (.t 49) (.c (.bool true)) (.t 51)), []⟩]) (.cond (.t 52) (.seq (.reg false [⟨(some 53), none, (.mov (.t 15)), []⟩, ⟨(some 54), none, (.mov (.t 18)), []⟩, ⟨(some 55), none, (.bin .eql (.t 53) (.t 54)), []⟩, ⟨(some 56), none, (.mov (.t 55)), []⟩, ⟨(some 57), (some (56, true)), (.mov (.t 13)), []⟩, ⟨(some 58), (some (56, true)), (.len false (.t 57)), []⟩, ⟨(some 59), (some (56, true)), (.bin .eql (.t 58) (.c (.int .i64 0))), []⟩, ⟨(some 60), none, (.pick (.t 56) (.t 59) (.c (.bool false))), []⟩, ⟨(some 61), none, (.mov (.t 60)), []⟩, ⟨(some 62), (some (61, true)), (.mov (.t 16)), []⟩, ⟨(some 63), (some (61, true)), (.len false (.t 62)), []⟩, ⟨(some 64), (some (61, true)), (.bin .eql (.t 63) (.c (.int .i64 0))), []⟩, ⟨(some 65), none, (.pick (.t 61) (.t 64) (.c (.bool false))), []⟩, ⟨(some 66), none, (.mov (.t 65)), []⟩, ⟨(some 67), (some (66, true)), (.call 24 []), []⟩, ⟨(some 68), none, (.pick (.t 66) (.t 67) (.c (.bool false))), []⟩, ⟨(some 12), none, (.mov (.t 68)), []⟩]) .ret) .skip)) (.seq (.reg false [⟨(some 19), none, (.mov (.c .ns)), []⟩]) (.seq (.seq (.reg false [⟨(some 20), none, (.mov (.c (.int .i64 0))), []⟩]) (.block 0 (.loop l13_0))) (.seq (.reg false [⟨(some 87), none, (.mov (.t 0)), []⟩, ⟨(some 88), none, (.mov (.t 19)), []⟩, ⟨(some 89), none, (.mov (.t 2)), []⟩, ⟨(some 90), none, (.mov (.t 3)), []⟩, ⟨(some 91), none, (.mov (.t 4)), []⟩, ⟨(some 92), none, (.mov (.t 5)), []⟩, ⟨(some 93), none, (.call 41 [(.t 87), (.t 88), (.t 89), (.t 90), (.t 91), (.t 92)]), []⟩, ⟨(some 86), none, (.mov (.t 93)), []⟩, ⟨(some 94), none, (.ext (.t 86) 0), []⟩, ⟨(some 95), none, (.ext (.t 86) 1), []⟩, ⟨(some 96), none, (.ext (.t 86) 2), []⟩, ⟨(some 21), none, (.mov (.t 94)), []⟩, ⟨(some 22), none, (.mov (.t 95)), []⟩, ⟨(some 15), none, (.mov (.t 96)), []⟩]) (.seq (.reg false [⟨(some 98), none, (.mov (.t 0)), []⟩, ⟨(some 99), none, (.mov (.t 19)), []⟩, ⟨(some 100), none, (.mov (.t 2)), []⟩, ⟨(some 101), none, (.mov (.t 3)), []⟩, ⟨(some 102), none, (.mov (.t 4)), []⟩, ⟨(some 103), none, (.mov (.t 5)), []⟩, ⟨(some 104), none, (.call 42 [(.t 98), (.t 99), (.t 100), (.t 101), (.t 102), (.t 103)]), []⟩, ⟨(some 97), none, (.mov (.t 104)), []⟩, ⟨(some 105), none, (.ext (.t 97) 0), []⟩, ⟨(some 106), none, (.ext (.t 97) 1), []⟩, ⟨(some 107), none, (.ext (.t 97) 2), []⟩, ⟨(some 23), none, (.mov (.t 105)), []⟩, ⟨(some 24), none, (.mov (.t 106)), []⟩, ⟨(some 18), none, (.mov (.t 107)), []⟩]) (.seq (.reg false [⟨(some 108), none, (.mov (.t 15)), []⟩, ⟨(some 109), none, (.bin .eql (.t 108) (.c (.int .i64 0))), []⟩, ⟨(some 110), none, (.mov (.t 109)), []⟩, ⟨(some 111), (some (110, true)), (.mov (.t 13)), []⟩, ⟨(some 112), (some (110, true)), (.mov (.t 21)), []⟩, ⟨(some 113), (some (110, true)), (.call 44 [(.t 111), (.t 112)]), []⟩, ⟨(some 114), none, (.pick (.t 110) (.t 113) (.c (.bool false))), []⟩, ⟨(some 115), none, (.mov (.t 114)), []⟩, ⟨(some 116), (some (115, true)), (.mov (.t 14)), []⟩, ⟨(some 117), (some (115, true)), (.mov (.t 22)), []⟩, ⟨(some 118), (some (115, true)), (.call 33 [(.t 116), (.t 117)]), []⟩, ⟨(some 119), none, (.pick (.t 115) (.t 118) (.c (.bool false))), []⟩, ⟨(some 120), none, (.mov (.t 119)), []⟩, ⟨(some 121), (some (120, true)), (.mov (.t 18)), []⟩, ⟨(some 122), (some (120, true)), (.bin .eql (.t 121) (.c (.int .i64 0))), []⟩, ⟨(some 123), none, (.pick (.t 120) (.t 122) (.c (.bool false))), []⟩, ⟨(some 124), none, (.mov (.t 123)), []⟩, ⟨(some 125), (some (124, true)), (.mov (.t 23)), []⟩, ⟨(some 126), (some (124, true)), (.len false (.t 125)), []⟩, ⟨(some 127), (some (124, true)), (.bin .eql (.t 126) (.c (.int .i64 0))), []⟩, ⟨(some 128), none, (.pick (.t 124) (.t 127) (.c (.bool false))), []⟩, ⟨(some 129), none, (.mov (.t 128)), []⟩, ⟨(some 130), (some (129, true)), (.mov (.t 17)), []⟩, ⟨(some 131), (some (129, true)), (.len false (.t 130)), []⟩, ⟨(some 132), (some (129, true)), (.mov (.t 16)), []⟩, ⟨(some 133), (some (129, true)), (.len false (.t 132)), []⟩, ⟨(some 134), (some (129, true)), (.bin .eql (.t 131) (.t 133)), []⟩, ⟨(some 135), none, (.pick (.t 129) (.t 134) (.c (.bool false))), []⟩, ⟨(some 136), none, (.mov (.t 135)), []⟩, ⟨(some 137), (some (136, true)), (.call 24 []), []⟩, ⟨(some 138), none, (.pick (.t 136) (.t 137) (.c (.bool false))), []⟩, ⟨(some 12), none, (.mov (.t 138)), []⟩]) .ret)))))))))
theorem h13 : compF Try.prog shI 13 = some (c13, [12], 139) := by kernel_rfl
def c14 : Cmd := (.seq (.reg false [⟨(some 12), none, (.mov (.c (.bool false))), []⟩]) (.seq (.reg false [⟨(some 22), none, (.mov (.t 0)), []⟩, ⟨(some 23), none, (.mov (.t 1)), []⟩, ⟨(some 24), none, (.mov (.t 2)), []⟩, ⟨(some 25), none, (.mov (.t 3)), []⟩, ⟨(some 26), none, (.mov (.t 5)), []⟩, ⟨(some 27), none, (.call 41 [(.t 22), (.c .ns), (.t 23), (.t 24), (.t 25), (.t 26)]), []⟩, ⟨(some 21), none, (.mov (.t 27)), []⟩, ⟨(some 28), none, (.ext (.t 21) 0), []⟩, ⟨(some 29), none, (.ext (.t 21) 1), []⟩, ⟨(some 30), none, (.ext (.t 21) 2), []⟩, ⟨(some 13), none, (.mov (.t 28)), []⟩, ⟨(some 14), none, (.mov (.t 29)), []⟩, ⟨(some 15), none, (.mov (.t 30)), []⟩]) (.seq (.reg false [⟨(some 32), none, (.mov (.t 0)), []⟩, ⟨(some 33), none, (.mov (.t 1)), []⟩, ⟨(some 34), none, (.mov (.t 2)), []⟩, ⟨(some 35), none, (.mov (.t 3)), []⟩, ⟨(some 36), none, (.mov (.t 4)), []⟩, ⟨(some 37), none, (.call 41 [(.t 32), (.c .ns), (.t 33), (.t 34), (.t 35), (.t 36)]), []⟩, ⟨(some 31), none, (.mov (.t 37)), []⟩, ⟨(some 38), none, (.ext (.t 31) 0), []⟩, ⟨(some 39), none, (.ext (.t 31) 1), []⟩, ⟨(some 40), none, (.ext (.t 31) 2), []⟩, ⟨(some 16), none, (.mov (.t 38)), []⟩, ⟨(some 17), none, (.mov (.t 39)), []⟩, ⟨(some 18), none, (.mov (.t 40)), []⟩]) (.seq (.seq (.reg false [⟨(some 41), none, (.mov (.t 15)), []⟩, ⟨(some 42), none, (.bin .neq (.t 41) (.c (.int .i64 0))), []⟩, ⟨(some 43), none, (.mov (.t 42)), []⟩, ⟨(some 44), (some (43, false)), (.mov (.t 18)), []⟩, ⟨(some 45), (some (43, false)), (.bin .neq (.t 44) (.c (.int .i64 0))), []⟩, ⟨(some 46), none, (.pick (.t 43) (.c (.bool true)) (.t 45)), []⟩, ⟨(some 47), none, (.mov (.t 46)), []⟩, ⟨(some 48), (some (47, false)), (.mov (.t 4)), []⟩, ⟨(some 49), (some (47, false)), (.mov (.t 5)), []⟩, ⟨(some 50), (some (47, false)), (.bin .gtr (.t 48) (.t 49)), []⟩, ⟨(some 51), none, (.pick (.t 47) (.c (.bool true)) (.t 50)), []⟩]) (.cond (.t 51) (.seq (.reg false [⟨(some 52), none, (.mov (.t 15)), []⟩, ⟨(some 53), none, (.bin .eql (.t 52) (.c (.int .i64 0))), []⟩, ⟨(some 54), none, (.mov (.t 53)), []⟩, ⟨(some 55), (some (54, false)), (.mov (.t 13)), []⟩, ⟨(some 56), (some (54, false)), (.len false (.t 55)), []⟩, ⟨(some 57), (some (54, false)), (.bin .eql (.t 56) (.c (.int .i64 0))), []⟩, ⟨(some 58), none, (.pick (.t 54) (.c (.bool true)) (.t 57)), []⟩, ⟨(some 59), none, (.mov (.t 58)), []⟩, ⟨(some 60), (some (59, true)), (.mov (.t 18)), []⟩, ⟨(some 61), (some (59, true)), (.bin .eql (.t 60) (.c (.int .i64 0))), []⟩, ⟨(some 62), (some (59, true)), (.mov (.t 61)), []⟩, ⟨(some 63), (some (62, false)), (.mov (.t 16)), []⟩, ⟨(some 64), (some (62, false)), (.len false (.t 63)), []⟩, ⟨(some 65), (some (62, false)), (.bin .eql (.t 64) (.c (.int .i64 0))), []⟩, ⟨(some 66), (some (59, true)), (.pick (.t 62) (.c (.bool true)) (.t 65)), []⟩, ⟨(some 67), none, (.pick (.t 59) (.t 66) (.c (.bool false))), []⟩, ⟨(some 68), none, (.mov (.t 67)), []⟩, ⟨(some 69), (some (68, true)), (.call 24 []), []⟩, ⟨(some 70), none, (.pick (.t 68) (.t 69) (.c (.bool false))), []⟩, ⟨(some 12), none, (.mov (.t 70)), []⟩]) .ret) .skip)) (.seq (.reg false [⟨(some 72), none, (.mov (.t 17)), []⟩, ⟨(some 73), none, (.mov (.t 1)), []⟩, ⟨(some 74), none, (.mov (.t 2)), []⟩, ⟨(some 75), none, (.mov (.t 3)), []⟩, ⟨(some 76), none, (.mov (.t 5)), []⟩, ⟨(some 77), none, (.call 41 [(.t 72), (.c .ns), (.t 73), (.t 74), (.t 75), (.t 76)]), []⟩, ⟨(some 71), none, (.mov (.t 77)), []⟩, ⟨(some 78), none, (.ext (.t 71) 0), []⟩, ⟨(some 79), none, (.ext (.t 71) 1), []⟩, ⟨(some 80), none, (.ext (.t 71) 2), []⟩, ⟨(some 19), none, (.mov (.t 78)), []⟩, ⟨(some 20), none, (.mov (.t 79)), []⟩, ⟨(some 15), none, (.mov (.t 80)), []⟩]) (.seq (.reg false [⟨(some 81), none, (.mov (.t 15)), []⟩, ⟨(some 82), none, (.bin .eql (.t 81) (.c (.int .i64 0))), []⟩, ⟨(some 83), none, (.mov (.t 82)), []⟩, ⟨(some 84), (some (83, true)), (.mov (.t 13)), []⟩, ⟨(some 85), (some (83, true)), (.mov (.t 16)), []⟩, ⟨(some 86), (some (83, true)), (.mov (.t 19)), []⟩, ⟨(some 87), (some (83, true)), (.bs 2 1 [.ns] [(0, (.t 85)), (1, (.t 86))]), []⟩, ⟨(some 88), (some (83, true)), (.call 45 [(.t 87)]), []⟩, ⟨(some 89), (some (83, true)), (.call 44 [(.t 84), (.t 88)]), []⟩, ⟨(some 90), none, (.pick (.t 83) (.t 89) (.c (.bool false))), []⟩, ⟨(some 91), none, (.mov (.t 90)), []⟩, ⟨(some 92), (some (91, true)), (.mov (.t 14)), []⟩, ⟨(some 93), (some (91, true)), (.mov (.t 20)), []⟩, ⟨(some 94), (some (91, true)), (.call 33 [(.t 92), (.t 93)]), []⟩, ⟨(some 95), none, (.pick (.t 91) (.t 94) (.c (.bool false))), []⟩, ⟨(some 96), none, (.mov (.t 95)), []⟩, ⟨(some 97), (some (96, true)), (.call 24 []), []⟩, ⟨(some 98), none, (.pick (.t 96) (.t 97) (.c (.bool false))), []⟩, ⟨(some 12), none, (.mov (.t 98)), []⟩]) .ret))))))
theorem h14 : compF Try.prog shI 14 = some (c14, [12], 99) := by kernel_rfl
end Go.Proofs.P6
end
section
set_option linter.unusedVariables false
set_option linter.unusedSimpArgs false
set_option maxRecDepth 10000
set_option maxHeartbeats 4000000
namespace Go.Proofs.P6
open Go.Ex
abbrev Change := Int × Int × Entry × Int × List UInt8 × Int
def chCd : Cd Change := .pair (.int .i64) (.pair (.int .i64) (.pair entCd (.pair (.int .i64) (.pair .str (.int .i64)))))
def chV (x : Change) : List V := [.int .i64 x.1, .int .i64 x.2.1, .int .i64 x.2.2.1.1, .int .i64 x.2.2.1.2.1, .str x.2.2.1.2.2.1, .str x.2.2.1.2.2.2.1, .str x.2.2.1.2.2.2.2.1, .bool x.2.2.1.2.2.2.2.2, .int .i64 x.2.2.2.1, .str x.2.2.2.2.1, .int .i64 x.2.2.2.2.2]
theorem ch_cells (x : Change) : chCd.cells x = chV x := rfl
def chOk (x : Change) : Prop := entOk x.2.2.1 ∧ x.2.2.2.2.1.length < 2 ^ 62
def zeroB (e : Entry) : Bool := decide (e.1 = 0) && (decide (e.2.1 = 0) && (decide (e.2.2.1 = []) && (decide (e.2.2.2.1 = []) && (decide (e.2.2.2.2.1 = []) && !e.2.2.2.2.2))))
def fldB (k : Int) (e : Entry) (id : Int) (g : List UInt8) (by' : Int) : Bool := ((decide (k = 1) || zeroB e) && (decide (k = 2) || decide (k = 3) || decide (id = 0))) && (decide (k = 4) || decide (k = 5) || decide (k = 6) || decide (g = [])) && (decide (k = 3) || decide (k = 4) || decide (by' = 0))
def chE (x : Change) : Int := if !inB x.1 0 1000000000000 then 1 else if !inB x.2.1 1 6 then 4 else if !fldB x.2.1 x.2.2.1 x.2.2.2.1 x.2.2.2.2.1 x.2.2.2.2.2 then 3 else
  if x.2.1 = 1 then entE x.2.2.1 else if (x.2.1 = 2 ∨ x.2.1 = 3) ∧ inB x.2.2.2.1 1 1000000000000 = false then 1 else if x.2.1 = 4 ∧ (¬ x.2.2.2.2.1 = [] ∧ nm x.2.2.2.2.1 = false) then 5 else
  if (x.2.1 = 5 ∨ x.2.1 = 6) ∧ nm x.2.2.2.2.1 = false then 5 else if !inB x.2.2.2.2.2 (-1000000000) 1000000000 then 1 else 0
theorem range_ok (n lo hi : Int) : OkF Try.prog 69 [.int .i64 n, .int .i64 lo, .int .i64 hi] (.int .i64 (if inB n lo hi = false then 1 else 0), []) := by
  refine OkF.W0 hm h69 (of_decide_eq_true rfl) ?_
  unfold c69
  simp -dsimp
  refine call_bool (inB_ok _ _ _) ?_
  simp -dsimp
  refine condK_of ?_ ?_ <;> intro q <;> simp -dsimp [q] <;> simp_all
theorem kinds (k : Int) : k = 1 ∨ k = 2 ∨ k = 3 ∨ k = 4 ∨ k = 5 ∨ k = 6 ∨ (¬ k = 1 ∧ ¬ k = 2 ∧ ¬ k = 3 ∧ ¬ k = 4 ∧ ¬ k = 5 ∧ ¬ k = 6 ∧ inB k 1 6 = false) := by
  by_cases h1 : k = 1
  · exact .inl h1
  by_cases h2 : k = 2
  · exact .inr (.inl h2)
  by_cases h3 : k = 3
  · exact .inr (.inr (.inl h3))
  by_cases h4 : k = 4
  · exact .inr (.inr (.inr (.inl h4)))
  by_cases h5 : k = 5
  · exact .inr (.inr (.inr (.inr (.inl h5))))
  by_cases h6 : k = 6
  · exact .inr (.inr (.inr (.inr (.inr (.inl h6)))))
  refine .inr (.inr (.inr (.inr (.inr (.inr ⟨h1, h2, h3, h4, h5, h6, ?_⟩)))))
  unfold inB
  simp
  omega
theorem in1 : inB 1 1 6 = true := rfl
theorem in2 : inB 2 1 6 = true := rfl
theorem in3 : inB 3 1 6 = true := rfl
theorem in4 : inB 4 1 6 = true := rfl
theorem in5 : inB 5 1 6 = true := rfl
theorem in6 : inB 6 1 6 = true := rfl
theorem checkChange_ok (x : Change) (hx : chOk x) : OkF Try.prog 169 [.agg (chV x)] (.int .i64 (chE x), []) := by
  obtain ⟨at', k, ⟨eid, eat, ec, eg, ei, en⟩, id, g, by'⟩ := x
  obtain ⟨he, hg⟩ := hx
  refine OkF.W0 hm h169 (of_decide_eq_true rfl) ?_
  unfold c169
  simp -dsimp [chV]
  refine call_bool (inB_ok _ _ _) ?_
  simp -dsimp
  refine condK_of ?_ ?_ <;> intro q <;> simp -dsimp [*]
  · simp_all [chE]
  rcases kinds k with rfl | rfl | rfl | rfl | rfl | rfl | ⟨h1, h2, h3, h4, h5, h6, h7⟩
  all_goals
    simp -dsimp [seqA, eqCells, tagOf, fillS, disj, idOf, *]
    repeat' (first
      | (refine condK_of ?_ ?_ <;> intro q <;> simp -dsimp [*, seqA, eqCells, tagOf, fillS, disj, idOf])
      | (refine wantF_of ?_ ?_ <;> intro q <;> simp -dsimp [*, seqA, eqCells, tagOf, fillS, disj, idOf])
      | (refine wantT_of ?_ ?_ <;> intro q <;> simp -dsimp [*, seqA, eqCells, tagOf, fillS, disj, idOf])
      | (refine call_int (checkEntry_ok (eid, eat, ec, eg, ei, en) he) ?_; simp -dsimp)
      | (refine call_bool (inB_ok _ _ _) ?_; simp -dsimp)
      | (refine call_bool (name_ok _) ?_; simp -dsimp)
      | (refine call_int (range_ok _ _ _) ?_; simp -dsimp))
  all_goals (simp_all [chE, fldB, zeroB, in1, in2, in3, in4, in5, in6] <;> (intros; simp_all))
section
variable {h : Hp} {k : Nat} {kk : IntKind} {K : V → List Nat → Prop} {l : List Change} {a : Change}
theorem ch_ia (e : l[k]? = some a) : iaddrK h (.ro l.length (fl chCd l)) (.int kk k) 11 K ⟨⟩ = K (.rp (fl chCd l) (k * 11)) [] := iaddr_fl rfl (by decide) e
theorem ch_ld (e : l[k]? = some a) : ldA h (.rp (fl chCd l) (k * 11)) (some 11) = some (.agg (chV a)) := ld_fls (n := 11) rfl e
theorem ch_l0 (e : l[k]? = some a) : ldA h (.rp (fl chCd l) (k * 11)) none = some (.int .i64 a.1) := ld_fl0 (n := 11) rfl (by decide) e
end
def changeE (l : List Change) (k : Nat) : Int := match l[k]? with
  | none => 0
  | some x => if chE x ≠ 0 then chE x else if before l (fun t => decide (x.1 < t.1)) k then 8 else 0
def changesE (l : List Change) : Int := if 1000 < l.length then 2 else fe (changeE l) l.length
theorem changes_ok (l : List Change) (hl : ∀ x ∈ l, chOk x) : OkF Try.prog 140 [.ro l.length (fl chCd l)] (.int .i64 (changesE l), []) := by
  refine OkF.W0 hm h140 (of_decide_eq_true rfl) ?_
  unfold c140
  by_cases h1 : 1000 < l.length
  · have h1' : (1000 < (l.length : Int)) := by omega
    simp -dsimp [h1', changesE, h1]
  have h1' : ¬ (1000 < (l.length : Int)) := by omega
  simp -dsimp [h1']
  have hfe : changesE l = fe (changeE l) l.length := if_neg h1
  refine for_lt l.length (fun k s' => s'.t 0 = .ro l.length (fl chCd l) ∧ s'.t 9 = .ro l.length (fl chCd l) ∧ fe (changeE l) k = 0) rfl (by omega) (by simp -dsimp [fe]) (by simp -dsimp) (by simp -dsimp) (fun k s' hk hI hi hn => ?_) (fun s' hI hi hn => ?_)
  · obtain ⟨i0, i1, i3⟩ := hI
    have hg : l[k]? = some l[k] := List.getElem?_eq_getElem hk
    have hx := hl l[k] (List.getElem_mem hk)
    generalize l[k] = x at hg hx
    obtain ⟨z, hz⟩ := prev_get hg
    have hwj : 0 < k → IntKind.i64.wrap ((k : Int) - 1) = ((k - 1 : Nat) : Int) := fun h => wrap_pred h (by omega)
    have hbp : ∀ p, 0 < k → before l p k = p z := fun p h => before_pos h (hz h)
    have bad : ∀ v, changeE l k = v → v ≠ 0 → changesE l = v := fun v h1 h2 => by rw [hfe, fe_stop i3 (by rw [h1]; exact h2) hk, h1]
    have hc := checkChange_ok x hx
    have hch : changeE l k = if chE x ≠ 0 then chE x else if before l (fun t => decide (x.1 < t.1)) k then 8 else 0 := by unfold changeE; rw [hg]
    unfold k140_0
    simp -dsimp [i0, i1, hi, hn, ch_ia hg, ch_ld hg]
    unfold chV at hc ⊢
    simp -dsimp
    refine call_int hc ?_
    simp -dsimp
    refine condK_of ?_ ?_ <;> intro a1 <;> simp -dsimp [a1]
    · have a1' : chE x ≠ 0 := by simpa using a1
      rw [bad (chE x) (by rw [hch, if_pos a1']) a1']
    have a1' : chE x = 0 := by simpa using a1
    refine wantT_of ?_ ?_ <;> intro a4 <;> simp -dsimp [a4, i0]
    · have hp : 0 < k := by simpa using a4
      simp -dsimp [hwj hp, ch_ia (hz hp), ch_l0 (hz hp)]
      refine condK_of ?_ ?_ <;> intro a5 <;> simp -dsimp [a5]
      · rw [bad 8 (by rw [hch, hbp _ hp]; simp [a1']; simpa using a5) (by decide)]
      · simp -dsimp [i0, i1, hi, hn]
        exact fe_step i3 (by rw [hch, hbp _ hp]; simp [a1']; simpa using a5)
    · simp -dsimp [i0, i1, hi, hn]
      have hp : ¬ 0 < k := by simpa using a4
      exact fe_step i3 (by rw [hch, before_zero hp]; simp [a1'])
  · simp -dsimp [hfe, hI.2.2]
end Go.Proofs.P6
end
section
set_option linter.unusedVariables false
set_option linter.unusedSimpArgs false
set_option maxRecDepth 10000
set_option maxHeartbeats 8000000
namespace Go.Proofs.P6
open Go.Ex Go.RowKit
abbrev Outc := Int × Int × Int
abbrev Did := Int × List UInt8
def outCd : Cd Outc := .pair (.int .i64) (.pair (.int .i64) (.int .i64))
def didCd : Cd Did := .pair (.int .i64) .str
/-- A board. -/
structure Bd where
  l : List Entry
  off : List (List UInt8 × Bool)
  turned : List (Int × Bool)
  out : List Outc
  did : List Did
  ref : List Int
  why : List Int
def Bd.setL (b : Bd) (r : List Entry × Int) : Bd × Int := if r.2 = 0 then ({ b with l := r.1 }, 0) else (b, r.2)
def drE (l : List Entry) (id : Int) : List Entry × Int := if idI l id < 0 then ([], 9) else (wo l (idI l id).toNat, 0)
def Bd.chg (b : Bd) (c : Change) : Bd × Int :=
  if c.2.1 = 1 then (if (Go.Ex.look c.2.2.1.1 b.turned).getD false = true then (b, 7) else b.setL (putE b.l c.2.2.1))
  else if c.2.1 = 2 then b.setL (drE b.l c.2.2.2.1)
  else if c.2.1 = 3 then (if idI b.l c.2.2.2.1 < 0 then (b, 9) else b.setL (mvAll (fun x => decide (x.1 = c.2.2.2.1)) c.2.2.2.2.2 b.l))
  else if c.2.1 = 4 then b.setL (mvAll (fG c.2.2.2.2.1) c.2.2.2.2.2 b.l)
  else ({ b with off := putM c.2.2.2.2.1 (decide (c.2.1 = 6)) b.off }, 0)
/-- A row of entries: of our own, or one that only reads. -/
def LV (h : Hp) (nx : Nat) (v : V) (l : List Entry) : Prop := Acc entCd h nx v l ∨ v = rE l ∨ (l = [] ∧ v = .em)
section
variable {h h' : Hp} {nx nx' : Nat} {v : V} {l : List Entry}
theorem LV.mono (a : LV h nx v l) (hn : nx ≤ nx') (hh : ∀ j, j < nx → ownOf v = some j → h' j = h j) : LV h' nx' v l := by
  rcases a with a | a | a
  · exact .inl (a.keep hn hh)
  · exact .inr (.inl a)
  · exact .inr (.inr a)
theorem LV.own (a : LV h nx v l) {j : Nat} (hj : ownOf v = some j) : j < nx := by
  rcases a with a | rfl | ⟨_, rfl⟩
  · exact a.own hj
  · cases hj
  · cases hj
theorem LV.len (a : LV h nx v l) : lenA false v = some (.int .i64 l.length) := by
  rcases a with a | rfl | ⟨rfl, rfl⟩
  · exact a.len
  · rfl
  · rfl
theorem LV.ro (a : LV h nx v l) : toRO h 8 v = some (rE l) := by
  rcases a with a | rfl | ⟨rfl, rfl⟩
  · exact a.ro
  · rfl
  · rfl
theorem LV.first {x : Entry} (a : LV h nx v l) (e : l[0]? = some x) : ∃ p q ids, (∀ kk K, iaddrK h v (.int kk 0) 6 K ⟨⟩ = K p ids) ∧ ldA h p (some 6) = some (.agg (entV x)) ∧ faddrA p 1 = some q ∧ ldA h q none = some (.int .i64 x.2.1) := by
  rcases a with a | rfl | ⟨rfl, rfl⟩
  · obtain ⟨id, ver, off, h1, h2, h3, h4, h5, h6⟩ := a.at e (by decide)
    exact ⟨.pt id ver off, .pt id ver (off + 1), [id], fun kk K => h3 kk K, h4, rfl, h5 1 (by decide)⟩
  · exact ⟨.rp (fl entCd l) (0 * 6), .rp (fl entCd l) (0 * 6 + 1), [], fun kk K => ent_ia e, ent_ld e, rfl, ent_l1 e⟩
  · cases e
theorem LV.tail (a : LV h nx v l) (hl : 0 < l.length) : ∃ v' ids, (∀ j, ownOf v' = some j → ownOf v = some j) ∧ LV h nx v' (l.drop 1) ∧ ∀ kk nx' K, slcK false v (some (.int kk 1)) none 6 h nx' K ⟨⟩ = K v' h nx' ids (some []) := by
  rcases a with a | rfl | ⟨rfl, rfl⟩
  · obtain ⟨v', id, h1, h2, h3, h4⟩ := a.tail (n := 1) (by omega) hl
    exact ⟨v', some [id], (fun j hj => by rw [h2] at hj; rw [h1, hj]), .inl h3, fun kk nx2 K => h4 kk nx2 K⟩
  · exact ⟨rE (l.drop 1), some [], (fun j hj => by cases hj), .inr (.inl rfl), fun kk nx2 K => sliceLo (n := 1) (by omega)⟩
  · simp at hl
end
/-- What a function leaves that shares nothing. -/
theorem OkF.ofS {f : Nat} {args : List V} {v : V} {bs : List LB} {n : Nat} (hs : SOk Try.prog f args none0 0 v (addB none0 0 bs) n) (hp : ∀ b ∈ bs, V.pureL b.cells = true ∧ b.mp = none) : OkF Try.prog f args (v, bs) := by
  refine ⟨hp, fun w S φ0 vs hG hS hv => ?_⟩
  have hR0 : Rel Try.prog w φ0 S none0 w := ⟨Below.refl _ _, hG, hS, fun id b hb => (by cases hb), fun i j b c hi => (by cases hi)⟩
  refine (hs w w φ0 S vs (fun _ _ => rfl) hR0 hv).mono ?_
  rintro e w' ⟨x, φ', S', he, h1, h2, h3, h4, h5⟩
  exact ⟨x, φ', S', he, h1, fun r h => h2.s r h, h3, h5⟩
theorem inOwn_ok (g : List UInt8) : OkF Try.prog 93 [.str g] (.fn 139 [.pt 0 0 0], [⟨0, 0, [.str g], none⟩]) := by
  obtain ⟨v, h', nx', ⟨rfl, rfl, rfl⟩, hs⟩ := in_ok (h := none0) (nx := 0) g
  exact OkF.ofS hs (by simp [V.pureL, V.pure])
/-- The closure of a move. -/
theorem idC_ok (c : Change) (x : Entry) {h : Hp} {nx b : Nat} (hb : b < nx) (hh : h b = some ⟨0, 0, chV c, none⟩) : SEx Try.prog 170 ([.agg (entCd.cells x)] ++ [.pt b 0 0]) h nx (Quiet (.bool (decide (x.1 = c.2.2.2.1))) h nx) := by
  have hne : b ≠ nx := by omega
  have e : entCd.cells x = entV x := rfl
  rw [e]
  refine SEx.of hm h170 (of_decide_eq_true rfl) ?_
  unfold c170
  have hq : ∀ (b : Bool), decide (x.1 = c.2.2.2.1) = b → ∀ h' : Hp, (∀ j, j < nx → h' j = h j) → Quiet (.bool (decide (x.1 = c.2.2.2.1))) h nx (.bool b) h' (nx + 1) := fun b e h' hj => ⟨by rw [e], Nat.le_succ _, hj⟩
  have sl : (entV x).length = 6 := rfl
  have h0 : ∀ hh, (entV x)[0]'hh = .int .i64 x.1 := fun _ => rfl
  have h8 : (chV c)[8]? = some (.int .i64 c.2.2.2.1) := rfl
  have h8' : ∀ hh, (chV c)[8]'hh = .int .i64 c.2.2.2.1 := fun _ => rfl
  have slc : (chV c).length = 11 := rfl
  simp -dsimp [hne, hh, sl, h0, h8, h8', slc]
  refine hq _ rfl _ fun j hj => ?_
  have : j ≠ nx := by omega
  simp [upd, this]
end Go.Proofs.P6
end
section
set_option linter.unusedVariables false
set_option linter.unusedSimpArgs false
set_option maxRecDepth 10000
set_option maxHeartbeats 8000000
namespace Go.Proofs.P6
open Go.Ex
abbrev rFc (l : List Fact) : V := .ro l.length (fl factCd l)
abbrev rSp (l : List Span) : V := .ro l.length (fl spanCd l)
abbrev bdC (fs : List Fact) (up : List Span) (late : Int) (lv ov dv rv wv : V) (oid tid : Nat) : Option LB := some ⟨0, 0, [lv, rFc fs, rSp up, .int .i64 late, .mp oid 0, .mp tid 0, ov, dv, rv, wv], none⟩
abbrev offC (l : List (List UInt8 × Bool)) : Option LB := some ⟨0, 0, [], some (kvs (fun a => .str a) (fun b => .bool b) l)⟩
abbrev trnC (l : List (Int × Bool)) : Option LB := some ⟨0, 0, [], some (kvs (fun a => .int .i64 a) (fun b => .bool b) l)⟩
/-- A row of outcomes of our own, as append makes it. -/
def AccC (h : Hp) (nx : Nat) (v : V) (l : List Outc) : Prop := (v = .ns ∧ l = []) ∨ ∃ id ver, v = .sl id ver 0 l.length none ∧ id < nx ∧ h id = some ⟨ver, 3, fl outCd l, none⟩
section
variable {h h' : Hp} {nx nx' : Nat} {v : V} {l : List Outc}
theorem AccC.acc (a : AccC h nx v l) : Acc outCd h nx v l := by
  rcases a with ⟨rfl, rfl⟩ | ⟨id, ver, rfl, h1, h2⟩
  · exact Acc.nil _ _
  · exact Acc.mk h1 h2
theorem AccC.keep (a : AccC h nx v l) (hn : nx ≤ nx') (hh : ∀ j, j < nx → ownOf v = some j → h' j = h j) : AccC h' nx' v l := by
  rcases a with a | ⟨id, ver, rfl, h1, h2⟩
  · exact .inl a
  · exact .inr ⟨id, ver, rfl, by omega, by rw [hh id h1 rfl]; exact h2⟩
theorem AccC.mono (a : AccC h nx v l) (hn : nx ≤ nx') (hh : ∀ j, j < nx → h' j = h j) : AccC h' nx' v l := a.keep hn fun j hj _ => hh j hj
theorem AccC.own (a : AccC h nx v l) {j : Nat} (hj : ownOf v = some j) : j < nx := a.acc.own hj
theorem AccC.nil (h : Hp) (nx : Nat) : AccC h nx .ns [] := .inl ⟨rfl, rfl⟩
theorem push_cW {x : Outc} {b : Option LB} {ids : List Nat} {K : V → Hp → Nat → Option (List Nat) → Option (List Nat) → Prop} (ha : AccC h nx v l) (hl : l.length ≤ 10000)
    (hK : ∀ v' h' nx' i, AccC h' nx' v' (l ++ [x]) → nx + 1 ≤ nx' → (∀ j, j < nx → ownOf v ≠ some j → h' j = h j) → (∀ j, ownOf v' = some j → ownOf v = some j ∨ nx ≤ j) → (ownOf v = some i ∨ i = nx + 1) → ownOf v' = some i → K v' h' nx' (some (i :: ids)) (some [i])) :
    appK 3 24 v (some (1, outCd.cells x)) (upd h nx b) (nx + 1) ids K ⟨⟩ := by
  have e62 := Go.Ex.e62
  have e47 := Go.Ex.e47
  have hx : fl outCd [x] = outCd.cells x := by simp [fl]
  rcases ha with ⟨rfl, rfl⟩ | ⟨id, ver, rfl, h1, h2⟩
  · simp only [appK, appA]
    rw [if_pos ⟨by omega, by omega⟩, if_neg (by decide)]
    refine hK (.sl (nx + 1) 0 0 1 none) _ (nx + 2) (nx + 1) (.inr ⟨nx + 1, 0, rfl, by omega, ?_⟩) (by omega) (fun j hj _ => ?_) (fun j hj => ?_) (.inr rfl) rfl
    · rw [List.nil_append, hx]
      exact upd_self _ _ _
    · simp only [upd]
      rw [if_neg (by omega), if_neg (by omega)]
    · simp [ownOf] at hj
      right
      omega
  · have hfl : (fl outCd l).length = l.length * 3 := flat_len l
    have ht : (fl outCd l).take (l.length * 3) = fl outCd l := List.take_of_length_le (by omega)
    have hb : (upd h nx b) id = some ⟨ver, 3, fl outCd l, none⟩ := by
      simp only [upd]
      rw [if_neg (by omega)]
      exact h2
    simp only [appK, appA, hb]
    rw [if_pos ⟨trivial, trivial, trivial, by omega, by omega, by omega⟩]
    simp only [List.drop_zero, ht, ite_self]
    refine hK (.sl id (ver + 1) 0 (l.length + 1) none) _ (nx + 1) id (.inr ⟨id, ver + 1, by rw [List.length_append]; rfl, by omega, ?_⟩) (Nat.le_refl _) (fun j hj hne => ?_) (fun j hj => .inl ?_) (.inl rfl) rfl
    · rw [fl_append, hx]
      exact upd_self _ _ _
    · have h3 : ¬ j = id := fun e => hne (by rw [e]; rfl)
      simp only [upd]
      rw [if_neg h3, if_neg (by omega)]
    · simpa [ownOf] using hj
end
structure BX (fs : List Fact) (up : List Span) (late : Int) (h : Hp) (nx rid : Nat) (b : Bd) (lv ov dv rv wv : V) (oid tid : Nat) (tag : Nat → Nat) : Prop where
  r : h rid = bdC fs up late lv ov dv rv wv oid tid
  o : h oid = offC b.off
  t : h tid = trnC b.turned
  al : LV h nx lv b.l
  ao : AccC h nx ov b.out
  ad : Acc didCd h nx dv b.did
  ar : Acc (Cd.int .i64) h nx rv b.ref
  aw : Acc (Cd.int .i64) h nx wv b.why
  lr : rid < nx
  lo : oid < nx
  lt : tid < nx
  tr : tag rid = 0
  to : tag oid = 1
  tt : tag tid = 2
  tl : ∀ j, ownOf lv = some j → tag j = 3
  tO : ∀ j, ownOf ov = some j → tag j = 4
  td : ∀ j, ownOf dv = some j → tag j = 5
  tR : ∀ j, ownOf rv = some j → tag j = 6
  tw : ∀ j, ownOf wv = some j → tag j = 7
section
variable {fs : List Fact} {up : List Span} {late : Int} {h h' : Hp} {nx nx' rid : Nat} {b : Bd} {lv ov dv rv wv : V} {oid tid : Nat} {tag : Nat → Nat}
theorem BX.keep (x : BX fs up late h nx rid b lv ov dv rv wv oid tid tag) (hn : nx ≤ nx') (hh : ∀ j, j < nx → h' j = h j) : BX fs up late h' nx' rid b lv ov dv rv wv oid tid tag :=
  ⟨by rw [hh _ x.lr]; exact x.r, by rw [hh _ x.lo]; exact x.o, by rw [hh _ x.lt]; exact x.t, x.al.mono hn fun j hj _ => hh j hj, x.ao.mono hn hh, x.ad.mono hn hh, x.ar.mono hn hh, x.aw.mono hn hh,
    Nat.lt_of_lt_of_le x.lr hn, Nat.lt_of_lt_of_le x.lo hn, Nat.lt_of_lt_of_le x.lt hn, x.tr, x.to, x.tt, x.tl, x.tO, x.td, x.tR, x.tw⟩
theorem BX.n1 (x : BX fs up late h nx rid b lv ov dv rv wv oid tid tag) : oid ≠ rid := fun e => by have := x.to; rw [e, x.tr] at this; cases this
theorem BX.n2 (x : BX fs up late h nx rid b lv ov dv rv wv oid tid tag) : tid ≠ rid := fun e => by have := x.tt; rw [e, x.tr] at this; cases this
theorem BX.n3 (x : BX fs up late h nx rid b lv ov dv rv wv oid tid tag) : tid ≠ oid := fun e => by have := x.tt; rw [e, x.to] at this; cases this
/-- Everything at once: what is in the heap behind a change of the board. -/
theorem BX.mk' (x : BX fs up late h nx rid b lv ov dv rv wv oid tid tag) {b' : Bd} {lv' ov' dv' rv' wv' : V} (hn : nx ≤ nx') (k : Nat) (hk : 3 ≤ k)
    (r : h' rid = bdC fs up late lv' ov' dv' rv' wv' oid tid) (o : h' oid = offC b'.off) (t : h' tid = trnC b'.turned)
    (al : LV h' nx' lv' b'.l) (ao : AccC h' nx' ov' b'.out) (ad : Acc didCd h' nx' dv' b'.did) (ar : Acc (Cd.int .i64) h' nx' rv' b'.ref) (aw : Acc (Cd.int .i64) h' nx' wv' b'.why)
    (tl : ∀ j, ownOf lv' = some j → ownOf lv = some j ∨ (nx ≤ j ∧ k = 3)) (tO : ∀ j, ownOf ov' = some j → ownOf ov = some j ∨ (nx ≤ j ∧ k = 4)) (td : ∀ j, ownOf dv' = some j → ownOf dv = some j ∨ (nx ≤ j ∧ k = 5)) (tR : ∀ j, ownOf rv' = some j → ownOf rv = some j ∨ (nx ≤ j ∧ k = 6)) (tw : ∀ j, ownOf wv' = some j → ownOf wv = some j ∨ (nx ≤ j ∧ k = 7)) :
    BX fs up late h' nx' rid b' lv' ov' dv' rv' wv' oid tid (fun j => if nx ≤ j then k else tag j) := by
  have old : ∀ j, j < nx → (if nx ≤ j then k else tag j) = tag j := fun j hj => if_neg (by omega)
  have new : ∀ (v v' : V) (m : Nat), (∀ j, ownOf v = some j → j < nx) → (∀ j, ownOf v = some j → tag j = m) → (∀ j, ownOf v' = some j → ownOf v = some j ∨ (nx ≤ j ∧ k = m)) → ∀ j, ownOf v' = some j → (if nx ≤ j then k else tag j) = m := by
    intro v v' m h1 h2 h3 j hj
    rcases h3 j hj with q | ⟨q, e⟩
    · rw [old j (h1 j q)]; exact h2 j q
    · rw [if_pos q]; exact e
  have a := x.lr
  have b := x.lo
  have c := x.lt
  refine ⟨r, o, t, al, ao, ad, ar, aw, by omega, by omega, by omega, ?_, ?_, ?_, new _ _ _ (fun j => x.al.own) x.tl tl, new _ _ _ (fun j => x.ao.own) x.tO tO, new _ _ _ (fun j => x.ad.own) x.td td, new _ _ _ (fun j => x.ar.own) x.tR tR, new _ _ _ (fun j => x.aw.own) x.tw tw⟩
  · rw [old _ x.lr]; exact x.tr
  · rw [old _ x.lo]; exact x.to
  · rw [old _ x.lt]; exact x.tt
/-- Blocks that aren't the board's own and aren't old. -/
theorem own_ne {tag : Nat → Nat} {v : V} {k m rid : Nat} (hv : ∀ j, ownOf v = some j → tag j = k) (hr : tag rid = m) (hne : k ≠ m) : ∀ j, ownOf v = some j → j ≠ rid := fun j hj e => hne (by rw [← hv j hj, e, hr])
theorem own_ne2 {tag : Nat → Nat} {v u : V} {k m : Nat} (hv : ∀ j, ownOf v = some j → tag j = k) (hu : ∀ j, ownOf u = some j → tag j = m) (hne : k ≠ m) : ∀ j, ownOf v = some j → ownOf u ≠ some j := fun j hj e => hne (by rw [← hv j hj, hu j e])
/-- Another row of entries. -/
theorem BX.setL (x : BX fs up late h nx rid b lv ov dv rv wv oid tid tag) (hn : nx ≤ nx') (hh : ∀ j, j < nx → h' j = h j) {lv' : V} {l' : List Entry} (al : LV h' nx' lv' l') (tl : ∀ j, ownOf lv' = some j → ownOf lv = some j ∨ nx ≤ j) :
    BX fs up late (upd h' rid (bdC fs up late lv' ov dv rv wv oid tid)) nx' rid { b with l := l' } lv' ov dv rv wv oid tid (fun j => if nx ≤ j then 3 else tag j) := by
  have y := x.keep hn hh
  have k : ∀ v : V, (∀ j, ownOf v = some j → j ≠ rid) → ∀ j, j < nx' → ownOf v = some j → (upd h' rid (bdC fs up late lv' ov dv rv wv oid tid)) j = h' j := fun v hv j _ hj => by simp only [upd]; rw [if_neg (hv j hj)]
  refine x.mk' hn 3 (by omega) (upd_self _ _ _) ?_ ?_ (al.mono (Nat.le_refl _) (k _ fun j hj => ?_)) (y.ao.keep (Nat.le_refl _) (k _ (own_ne x.tO x.tr (by decide)))) (y.ad.keep (Nat.le_refl _) (k _ (own_ne x.td x.tr (by decide)))) (y.ar.keep (Nat.le_refl _) (k _ (own_ne x.tR x.tr (by decide)))) (y.aw.keep (Nat.le_refl _) (k _ (own_ne x.tw x.tr (by decide))))
    (fun j hj => (tl j hj).imp _root_.id fun q => ⟨q, rfl⟩) (fun j hj => .inl hj) (fun j hj => .inl hj) (fun j hj => .inl hj) (fun j hj => .inl hj)
  · simp only [upd]; rw [if_neg x.n1]; exact y.o
  · simp only [upd]; rw [if_neg x.n2]; exact y.t
  · rcases tl j hj with q | q
    · exact own_ne x.tl x.tr (by decide) j q
    · have := x.lr; omega
theorem BX.setO (x : BX fs up late h nx rid b lv ov dv rv wv oid tid tag) (off' : List (List UInt8 × Bool)) : BX fs up late (upd h oid (offC off')) nx rid { b with off := off' } lv ov dv rv wv oid tid tag := by
  have k : ∀ v : V, (∀ j, ownOf v = some j → j ≠ oid) → ∀ j, j < nx → ownOf v = some j → (upd h oid (offC off')) j = h j := fun v hv j _ hj => by simp only [upd]; rw [if_neg (hv j hj)]
  refine ⟨?_, upd_self _ _ _, ?_, x.al.mono (Nat.le_refl _) (k _ (own_ne x.tl x.to (by decide))), x.ao.keep (Nat.le_refl _) (k _ (own_ne x.tO x.to (by decide))), x.ad.keep (Nat.le_refl _) (k _ (own_ne x.td x.to (by decide))), x.ar.keep (Nat.le_refl _) (k _ (own_ne x.tR x.to (by decide))), x.aw.keep (Nat.le_refl _) (k _ (own_ne x.tw x.to (by decide))), x.lr, x.lo, x.lt, x.tr, x.to, x.tt, x.tl, x.tO, x.td, x.tR, x.tw⟩
  · simp only [upd]; rw [if_neg (Ne.symm x.n1)]; exact x.r
  · simp only [upd]; rw [if_neg x.n3]; exact x.t
theorem BX.setT (x : BX fs up late h nx rid b lv ov dv rv wv oid tid tag) (t' : List (Int × Bool)) : BX fs up late (upd h tid (trnC t')) nx rid { b with turned := t' } lv ov dv rv wv oid tid tag := by
  have k : ∀ v : V, (∀ j, ownOf v = some j → j ≠ tid) → ∀ j, j < nx → ownOf v = some j → (upd h tid (trnC t')) j = h j := fun v hv j _ hj => by simp only [upd]; rw [if_neg (hv j hj)]
  refine ⟨?_, ?_, upd_self _ _ _, x.al.mono (Nat.le_refl _) (k _ (own_ne x.tl x.tt (by decide))), x.ao.keep (Nat.le_refl _) (k _ (own_ne x.tO x.tt (by decide))), x.ad.keep (Nat.le_refl _) (k _ (own_ne x.td x.tt (by decide))), x.ar.keep (Nat.le_refl _) (k _ (own_ne x.tR x.tt (by decide))), x.aw.keep (Nat.le_refl _) (k _ (own_ne x.tw x.tt (by decide))), x.lr, x.lo, x.lt, x.tr, x.to, x.tt, x.tl, x.tO, x.td, x.tR, x.tw⟩
  · simp only [upd]; rw [if_neg (Ne.symm x.n2)]; exact x.r
  · simp only [upd]; rw [if_neg (Ne.symm x.n3)]; exact x.o
/-- One more outcome. -/
theorem BX.pushO (x : BX fs up late h nx rid b lv ov dv rv wv oid tid tag) (hn : nx ≤ nx') {ov' : V} {y : Outc} (ha : AccC h' nx' ov' (b.out ++ [y])) (hh : ∀ j, j < nx → ownOf ov ≠ some j → h' j = h j) (ho : ∀ j, ownOf ov' = some j → ownOf ov = some j ∨ nx ≤ j) :
    BX fs up late (upd h' rid (bdC fs up late lv ov' dv rv wv oid tid)) nx' rid { b with out := b.out ++ [y] } lv ov' dv rv wv oid tid (fun j => if nx ≤ j then 4 else tag j) := by
  have a := x.lr
  have b := x.lo
  have c := x.lt
  have ne : ∀ i, tag i ≠ 4 → ownOf ov ≠ some i := fun i hi e => hi (x.tO i e)
  have k : ∀ v : V, (∀ j, ownOf v = some j → j ≠ rid) → (∀ j, ownOf v = some j → ownOf ov ≠ some j) → ∀ j, j < nx → ownOf v = some j → (upd h' rid (bdC fs up late lv ov' dv rv wv oid tid)) j = h j := fun v h1 h2 j hlt hj => by simp only [upd]; rw [if_neg (h1 j hj)]; exact hh j hlt (h2 j hj)
  refine x.mk' hn 4 (by omega) (upd_self _ _ _) ?_ ?_ (x.al.mono hn (k _ (own_ne x.tl x.tr (by decide)) (own_ne2 x.tl x.tO (by decide)))) (ha.keep (Nat.le_refl _) fun j _ hj => ?_) (x.ad.keep hn (k _ (own_ne x.td x.tr (by decide)) (own_ne2 x.td x.tO (by decide)))) (x.ar.keep hn (k _ (own_ne x.tR x.tr (by decide)) (own_ne2 x.tR x.tO (by decide)))) (x.aw.keep hn (k _ (own_ne x.tw x.tr (by decide)) (own_ne2 x.tw x.tO (by decide))))
    (fun j hj => .inl hj) (fun j hj => (ho j hj).imp _root_.id fun q => ⟨q, rfl⟩) (fun j hj => .inl hj) (fun j hj => .inl hj) (fun j hj => .inl hj)
  · simp only [upd]; rw [if_neg x.n1, hh _ b (ne _ (by rw [x.to]; decide))]; exact x.o
  · simp only [upd]; rw [if_neg x.n2, hh _ c (ne _ (by rw [x.tt]; decide))]; exact x.t
  · have : j ≠ rid := by
      rcases ho j hj with q | q
      · exact own_ne x.tO x.tr (by decide) j q
      · omega
    simp only [upd]; rw [if_neg this]
theorem BX.pushD (x : BX fs up late h nx rid b lv ov dv rv wv oid tid tag) (hn : nx ≤ nx') {dv' : V} {y : Did} (ha : Acc didCd h' nx' dv' (b.did ++ [y])) (hh : ∀ j, j < nx → ownOf dv ≠ some j → h' j = h j) (ho : ∀ j, ownOf dv' = some j → ownOf dv = some j ∨ nx ≤ j) :
    BX fs up late (upd h' rid (bdC fs up late lv ov dv' rv wv oid tid)) nx' rid { b with did := b.did ++ [y] } lv ov dv' rv wv oid tid (fun j => if nx ≤ j then 5 else tag j) := by
  have a := x.lr
  have b := x.lo
  have c := x.lt
  have ne : ∀ i, tag i ≠ 5 → ownOf dv ≠ some i := fun i hi e => hi (x.td i e)
  have k : ∀ v : V, (∀ j, ownOf v = some j → j ≠ rid) → (∀ j, ownOf v = some j → ownOf dv ≠ some j) → ∀ j, j < nx → ownOf v = some j → (upd h' rid (bdC fs up late lv ov dv' rv wv oid tid)) j = h j := fun v h1 h2 j hlt hj => by simp only [upd]; rw [if_neg (h1 j hj)]; exact hh j hlt (h2 j hj)
  refine x.mk' hn 5 (by omega) (upd_self _ _ _) ?_ ?_ (x.al.mono hn (k _ (own_ne x.tl x.tr (by decide)) (own_ne2 x.tl x.td (by decide)))) (x.ao.keep hn (k _ (own_ne x.tO x.tr (by decide)) (own_ne2 x.tO x.td (by decide)))) (ha.keep (Nat.le_refl _) fun j _ hj => ?_) (x.ar.keep hn (k _ (own_ne x.tR x.tr (by decide)) (own_ne2 x.tR x.td (by decide)))) (x.aw.keep hn (k _ (own_ne x.tw x.tr (by decide)) (own_ne2 x.tw x.td (by decide))))
    (fun j hj => .inl hj) (fun j hj => .inl hj) (fun j hj => (ho j hj).imp _root_.id fun q => ⟨q, rfl⟩) (fun j hj => .inl hj) (fun j hj => .inl hj)
  · simp only [upd]; rw [if_neg x.n1, hh _ b (ne _ (by rw [x.to]; decide))]; exact x.o
  · simp only [upd]; rw [if_neg x.n2, hh _ c (ne _ (by rw [x.tt]; decide))]; exact x.t
  · have : j ≠ rid := by
      rcases ho j hj with q | q
      · exact own_ne x.td x.tr (by decide) j q
      · omega
    simp only [upd]; rw [if_neg this]
theorem BX.pushR (x : BX fs up late h nx rid b lv ov dv rv wv oid tid tag) (hn : nx ≤ nx') {rv' : V} {y : Int} (ha : Acc (Cd.int .i64) h' nx' rv' (b.ref ++ [y])) (hh : ∀ j, j < nx → ownOf rv ≠ some j → h' j = h j) (ho : ∀ j, ownOf rv' = some j → ownOf rv = some j ∨ nx ≤ j) :
    BX fs up late (upd h' rid (bdC fs up late lv ov dv rv' wv oid tid)) nx' rid { b with ref := b.ref ++ [y] } lv ov dv rv' wv oid tid (fun j => if nx ≤ j then 6 else tag j) := by
  have a := x.lr
  have b := x.lo
  have c := x.lt
  have ne : ∀ i, tag i ≠ 6 → ownOf rv ≠ some i := fun i hi e => hi (x.tR i e)
  have k : ∀ v : V, (∀ j, ownOf v = some j → j ≠ rid) → (∀ j, ownOf v = some j → ownOf rv ≠ some j) → ∀ j, j < nx → ownOf v = some j → (upd h' rid (bdC fs up late lv ov dv rv' wv oid tid)) j = h j := fun v h1 h2 j hlt hj => by simp only [upd]; rw [if_neg (h1 j hj)]; exact hh j hlt (h2 j hj)
  refine x.mk' hn 6 (by omega) (upd_self _ _ _) ?_ ?_ (x.al.mono hn (k _ (own_ne x.tl x.tr (by decide)) (own_ne2 x.tl x.tR (by decide)))) (x.ao.keep hn (k _ (own_ne x.tO x.tr (by decide)) (own_ne2 x.tO x.tR (by decide)))) (x.ad.keep hn (k _ (own_ne x.td x.tr (by decide)) (own_ne2 x.td x.tR (by decide)))) (ha.keep (Nat.le_refl _) fun j _ hj => ?_) (x.aw.keep hn (k _ (own_ne x.tw x.tr (by decide)) (own_ne2 x.tw x.tR (by decide))))
    (fun j hj => .inl hj) (fun j hj => .inl hj) (fun j hj => .inl hj) (fun j hj => (ho j hj).imp _root_.id fun q => ⟨q, rfl⟩) (fun j hj => .inl hj)
  · simp only [upd]; rw [if_neg x.n1, hh _ b (ne _ (by rw [x.to]; decide))]; exact x.o
  · simp only [upd]; rw [if_neg x.n2, hh _ c (ne _ (by rw [x.tt]; decide))]; exact x.t
  · have : j ≠ rid := by
      rcases ho j hj with q | q
      · exact own_ne x.tR x.tr (by decide) j q
      · omega
    simp only [upd]; rw [if_neg this]
theorem BX.pushW (x : BX fs up late h nx rid b lv ov dv rv wv oid tid tag) (hn : nx ≤ nx') {wv' : V} {y : Int} (ha : Acc (Cd.int .i64) h' nx' wv' (b.why ++ [y])) (hh : ∀ j, j < nx → ownOf wv ≠ some j → h' j = h j) (ho : ∀ j, ownOf wv' = some j → ownOf wv = some j ∨ nx ≤ j) :
    BX fs up late (upd h' rid (bdC fs up late lv ov dv rv wv' oid tid)) nx' rid { b with why := b.why ++ [y] } lv ov dv rv wv' oid tid (fun j => if nx ≤ j then 7 else tag j) := by
  have a := x.lr
  have b := x.lo
  have c := x.lt
  have ne : ∀ i, tag i ≠ 7 → ownOf wv ≠ some i := fun i hi e => hi (x.tw i e)
  have k : ∀ v : V, (∀ j, ownOf v = some j → j ≠ rid) → (∀ j, ownOf v = some j → ownOf wv ≠ some j) → ∀ j, j < nx → ownOf v = some j → (upd h' rid (bdC fs up late lv ov dv rv wv' oid tid)) j = h j := fun v h1 h2 j hlt hj => by simp only [upd]; rw [if_neg (h1 j hj)]; exact hh j hlt (h2 j hj)
  refine x.mk' hn 7 (by omega) (upd_self _ _ _) ?_ ?_ (x.al.mono hn (k _ (own_ne x.tl x.tr (by decide)) (own_ne2 x.tl x.tw (by decide)))) (x.ao.keep hn (k _ (own_ne x.tO x.tr (by decide)) (own_ne2 x.tO x.tw (by decide)))) (x.ad.keep hn (k _ (own_ne x.td x.tr (by decide)) (own_ne2 x.td x.tw (by decide)))) (x.ar.keep hn (k _ (own_ne x.tR x.tr (by decide)) (own_ne2 x.tR x.tw (by decide)))) (ha.keep (Nat.le_refl _) fun j _ hj => ?_)
    (fun j hj => .inl hj) (fun j hj => .inl hj) (fun j hj => .inl hj) (fun j hj => .inl hj) (fun j hj => (ho j hj).imp _root_.id fun q => ⟨q, rfl⟩)
  · simp only [upd]; rw [if_neg x.n1, hh _ b (ne _ (by rw [x.to]; decide))]; exact x.o
  · simp only [upd]; rw [if_neg x.n2, hh _ c (ne _ (by rw [x.tt]; decide))]; exact x.t
  · have : j ≠ rid := by
      rcases ho j hj with q | q
      · exact own_ne x.tw x.tr (by decide) j q
      · omega
    simp only [upd]; rw [if_neg this]
/-- Some board there. -/
def BS (fs : List Fact) (up : List Span) (late : Int) (h : Hp) (nx rid : Nat) (b : Bd) : Prop := ∃ lv ov dv rv wv oid tid tag, BX fs up late h nx rid b lv ov dv rv wv oid tid tag
end
end Go.Proofs.P6
end
section
set_option linter.unusedVariables false
set_option linter.unusedSimpArgs false
set_option maxRecDepth 10000
set_option maxHeartbeats 8000000
namespace Go.Proofs.P6
open Go.Ex
theorem put_own (l : List Entry) (x : Entry) (he : entsE l = 0) (R : V × List LB) (r0 : (putE l x).2 = 0 → R = (.tup [.sl 0 0 0 (putE l x).1.length none, .int .i64 0], [⟨0, 6, fl entCd (putE l x).1, none⟩])) (r1 : (putE l x).2 ≠ 0 → R = (.tup [.ro 0 [], .int .i64 (putE l x).2], [])) :
    OkF Try.prog 78 [.ro l.length (fl entCd l), .agg (entV x)] R := by
  have e62 := Go.Ex.e62
  have hl := ents_le he
  have hil := ins_len l x
  have bad : ∀ f, putE l x = ([], f) → f ≠ 0 → ∀ h, ∃ own : List Nat, own.Nodup ∧ V.tup [.ro 0 [], .int .i64 f] = R.1 ∧ own.mapM (expB h own) = some R.2 := fun f q q1 h => by
    rw [r1 (by rw [q]; exact q1), q]
    exact ⟨[], List.nodup_nil, rfl, rfl⟩
  have good : ∀ m, putE l x = (m, 0) → ∀ (h : Hp) id ver, h id = some ⟨ver, 6, fl entCd m, none⟩ → ∃ own : List Nat, own.Nodup ∧ (exp1 h own (.sl id ver 0 m.length none)).bind (Option.map V.tup ∘ fun x => some [x, .int .i64 0]) = some R.1 ∧ own.mapM (expB h own) = some R.2 := fun m q h id ver hb => by
    rw [r0 (by rw [q]), q]
    have hpure : V.pureL (fl entCd m) = true := fl_pure _
    refine ⟨[id], by simp, ?_, ?_⟩
    · simp [expV, exp1, expC, hb, ixOf]
    · simp [expB, hb, roL, hpure]
  refine OkF.WO h78 (of_decide_eq_true rfl) ?_ (fun q hq => ?_)
  rotate_left
  · by_cases z : (putE l x).2 = 0
    · rw [r0 z] at hq
      simp at hq
      subst hq
      exact ⟨fl_pure _, rfl⟩
    · rw [r1 z] at hq
      cases hq
  unfold c78
  simp -dsimp [entV]
  generalize hh : upd none0 0 _ = h0
  have hx0 : h0 0 = some ⟨0, 0, entV x, none⟩ := by rw [← hh]; simp [entV]
  clear hh
  have sl : (entV x).length = 6 := rfl
  refine call_int (index_ok l x.1 (by omega)) ?_
  simp -dsimp
  refine condK_of ?_ ?_ <;> intro q <;> simp -dsimp [q, hx0, sl]
  · have : putE l x = ([], 7) := by unfold putE; rw [if_pos (by simpa using q)]
    exact bad 7 this (by decide) _
  have q' : ¬ 0 ≤ idI l x.1 := by simpa using q
  have hE : putE l x = if 1000 < (ins l x).length ∨ 50 < grpN (ins l x) (ins l x).length then ([], 2) else (ins l x, 0) := by unfold putE; rw [if_neg q']
  refine shr_ex (bs_ok l x (insK l x l.length) (by omega) (insK_le _ _ _) (insK_half he (by omega))) ?_
  rintro v h' nx' ⟨⟨b, rfl⟩, q1, q2⟩
  have hx1 : h' 0 = some ⟨0, 0, entV x, none⟩ := by rw [q2 0 (by omega), hx0]
  have n0 : ¬ 0 = nx' := by omega
  have n1 : ¬ nx' = nx' + 1 := by omega
  simp -dsimp
  by_cases hne : l = []
  · subst hne
    have hi : ins [] x = [x] := rfl
    have hk0 : insK [] x ([] : List Entry).length = 0 := rfl
    have hput : putL [V.int IntKind.i64 0, V.int IntKind.i64 0, V.str [], V.str [], V.str [], V.bool false] 0 (entV x) = entV x := rfl
    have tk6 : List.take 6 (entV x) = entV x := rfl
    rw [hi] at hE
    have hce : OkF Try.prog 132 [.ro ([] : List Entry).length (fl entCd [])] (.em, []) := clone_empty hm h132
    refine call_own hce (okRes_of (by simp)) ?_
    have hdj : ∀ b, disj (some []) b = true := fun b => by cases b <;> rfl
    simp -dsimp [shift, addB, hx1, n0, sl, fillA, callRd, callWr, tk6, hput, rdOf, hdj]
    have hsx := insert_em x (h := upd h' nx' (some ⟨0, 6, entV x, none⟩)) (nx := nx' + 1) (vid := nx') (vver := 0) (by simp [upd])
    refine shr_ex (Q := fun v h2 nx2 => v = _ ∧ h2 = _ ∧ nx2 = _) ⟨_, _, _, ⟨rfl, rfl, rfl⟩, hsx⟩ ?_
    rintro v h2 nx2 ⟨rfl, rfl, rfl⟩
    have ha : ∀ h : Hp, Acc entCd (upd h (nx' + 1) (some ⟨0, 6, entV x, none⟩)) (nx' + 2) (.sl (nx' + 1) 0 0 1 none) [x] := fun h => Acc.mk (l := [x]) (by omega) (by simp [upd]; exact ⟨rfl, by simp [fl_cons, fl_nil, ent_cells]⟩)
    have e6 : ∀ h : Hp, toRO (upd h (nx' + 1) (some ⟨0, 6, entV x, none⟩)) 8 (.sl (nx' + 1) 0 0 1 none) = some (.ro 1 (fl entCd [x])) := fun h => (ha h).ro (n := 7)
    have e7 : ∀ h : Hp, exp1 (upd h (nx' + 1) (some ⟨0, 6, entV x, none⟩)) [] (.sl (nx' + 1) 0 0 1 none) = some (.ro 1 (fl entCd [x])) := fun h => (ha h).ex1
    have hg := manyGroups_ok [x] (by simp only [List.length_singleton]; omega)
    rw [List.length_singleton] at hg
    simp -dsimp [e6]
    refine call_bool hg ?_
    by_cases g : 50 < grpN [x] 1
    · simp -dsimp [g]
      exact bad 2 (by rw [hE, if_pos (.inr g)]) (by decide) _
    · simp -dsimp [g]
      refine good [x] (by
        rw [hE, if_neg]
        rintro (h | h)
        · simp at h
        · exact g h) _ (nx' + 1) 0 ?_
      rw [upd_self]
      simp [fl_cons, fl_nil, ent_cells]
  refine call_own (entClone l (by omega) hne) (okRes_of (by simp)) ?_
  have hdj : disj (some (newIds nx' 1)) (some [0]) = true := by simp [disj, newIds, n0]; omega
  have hins : l.take (insK l x l.length) ++ [x] ++ l.drop (insK l x l.length) = ins l x := rfl
  have tk6 : List.take 6 (entV x) = entV x := rfl
  have hdj2 : disj (some (newIds nx' 1)) (some [nx' + 1]) = true := by simp [disj, newIds]
  have hput : putL [V.int IntKind.i64 0, V.int IntKind.i64 0, V.str [], V.str [], V.str [], V.bool false] 0 (entV x) = entV x := rfl
  have n2 : ¬ nx' + 1 = nx' := by omega
  simp -dsimp [shift, addB, hx1, n0, sl, fillA, callRd, callWr, hdj, tk6, hdj2, hput]
  have hsx := insert_ok l x (insK l x l.length) (insK_le _ _ _) (List.length_pos_iff.2 hne) (by omega) (h := upd (upd h' nx' (some ⟨0, 6, fl entCd l, none⟩)) (nx' + 1) (some ⟨0, 6, entV x, none⟩)) (nx := nx' + 1 + 1) (id := nx') (ver := 0) (vid := nx' + 1) (vver := 0) (by simp [upd]) (by simp [upd]) (by omega) (by omega)
  rw [hins] at hsx
  refine shr_ex (Q := fun v h2 nx2 => v = _ ∧ h2 = _ ∧ nx2 = _) ⟨_, _, _, ⟨rfl, rfl, rfl⟩, hsx⟩ ?_
  rintro v h2 nx2 ⟨rfl, rfl, rfl⟩
  rw [← hil]
  generalize ins l x = r at *
  have e6 : ∀ h : Hp, toRO (upd h nx' (some ⟨1, 6, fl entCd r, none⟩)) 8 (.sl nx' 1 0 r.length none) = some (.ro r.length (fl entCd r)) := fun h =>
    Acc.ro (d := entCd) (h := upd h nx' (some ⟨1, 6, fl entCd r, none⟩)) (nx := nx' + 1) (v := .sl nx' 1 0 r.length none) (l := r) (Acc.mk (by omega) (by simp [upd]; rfl)) (n := 7)
  have e7 : ∀ h : Hp, exp1 (upd h nx' (some ⟨1, 6, fl entCd r, none⟩)) [] (.sl nx' 1 0 r.length none) = some (.ro r.length (fl entCd r)) := fun h =>
    Acc.ex1 (d := entCd) (h := upd h nx' (some ⟨1, 6, fl entCd r, none⟩)) (nx := nx' + 1) (v := .sl nx' 1 0 r.length none) (l := r) (Acc.mk (by omega) (by simp [upd]; rfl))
  by_cases big : 1000 < r.length
  · have big' : (1000 : Int) < (r.length : Int) := by omega
    simp -dsimp [big']
    exact bad 2 (by rw [hE, if_pos (.inl big)]) (by decide) _
  · have big' : ¬ (1000 : Int) < (r.length : Int) := by omega
    simp -dsimp [big', e6]
    refine call_bool (manyGroups_ok r (by omega)) ?_
    by_cases g : 50 < grpN r r.length
    · simp -dsimp [g]
      exact bad 2 (by rw [hE, if_pos (.inr g)]) (by decide) _
    · simp -dsimp [g]
      refine good r (by rw [hE, if_neg (by rintro (h | h) <;> contradiction)]) _ nx' 1 ?_
      exact upd_self _ _ _
theorem drop_own (l : List Entry) (id : Int) (hl : l.length ≤ 1000) (R : V × List LB) (r0 : ¬ idI l id < 0 → R = (.tup [.sl 0 0 0 (wo l (idI l id).toNat).length none, .int .i64 0], [⟨0, 6, fl entCd (wo l (idI l id).toNat), none⟩])) (r1 : idI l id < 0 → R = (.tup [.ro 0 [], .int .i64 9], [])) :
    OkF Try.prog 79 [.ro l.length (fl entCd l), .int .i64 id] R := by
  have e62 := Go.Ex.e62
  have good : ∀ m, ¬ idI l id < 0 → wo l (idI l id).toNat = m → ∀ (h : Hp) id' ver, h id' = some ⟨ver, 6, fl entCd m, none⟩ → ∃ own : List Nat, own.Nodup ∧ (exp1 h own (.sl id' ver 0 m.length none)).bind (Option.map V.tup ∘ fun x => some [x, .int .i64 0]) = some R.1 ∧ own.mapM (expB h own) = some R.2 := fun m q0 q h id' ver hb => by
    rw [r0 q0, q]
    have hpure : V.pureL (fl entCd m) = true := fl_pure _
    refine ⟨[id'], by simp, ?_, ?_⟩
    · simp [expV, exp1, expC, hb, ixOf]
    · simp [expB, hb, roL, hpure]
  refine OkF.WO h79 (of_decide_eq_true rfl) ?_ (fun q hq => ?_)
  rotate_left
  · by_cases z : idI l id < 0
    · rw [r1 z] at hq
      cases hq
    · rw [r0 z] at hq
      simp at hq
      subst hq
      exact ⟨fl_pure _, rfl⟩
  unfold c79
  simp -dsimp
  refine call_int (index_ok l id (by omega)) ?_
  simp -dsimp
  refine condK_of ?_ ?_ <;> intro q <;> simp -dsimp [q]
  · have q' : idI l id < 0 := by simpa using q
    rw [r1 q']
    exact ⟨[], List.nodup_nil, rfl, rfl⟩
  have q' : ¬ idI l id < 0 := by simpa using q
  have hlt := idI_lt l id
  obtain ⟨i, hi⟩ := Int.eq_ofNat_of_zero_le (show 0 ≤ idI l id by omega)
  have good2 := fun m (q : wo l i = m) => good m q' (by rw [hi, Int.toNat_natCast]; exact q)
  have hne : l ≠ [] := fun e => by rw [e] at hlt q'; simp at hlt; omega
  have hw : IntKind.i64.wrap ((i : Int) + 1) = (i : Int) + 1 := IntWalk.i64_in _ (by omega)
  refine call_own (entClone l (by omega) hne) (okRes_of (by simp)) ?_
  simp -dsimp [shift, addB, callRd, callWr, hi, hw]
  have hsx := delete_ok l i (by omega) (by omega) (h := upd (none0) 0 (some ⟨0, 6, fl entCd l, none⟩)) (nx := 1) (id := 0) (ver := 0) (by simp [upd]) (by omega)
  refine shr_ex (Q := fun v h2 nx2 => v = _ ∧ h2 = _ ∧ nx2 = _) ⟨_, _, _, ⟨rfl, rfl, rfl⟩, hsx⟩ ?_
  rintro v h2 nx2 ⟨rfl, rfl, rfl⟩
  generalize wo l i = r at good2 ⊢
  simp -dsimp
  refine good2 r rfl _ 0 1 ?_
  exact upd_self _ _ _
end Go.Proofs.P6
end
section
set_option linter.unusedVariables false
set_option linter.unusedSimpArgs false
set_option maxRecDepth 10000
set_option maxHeartbeats 8000000
namespace Go.Proofs.P6
open Go.Ex
section
variable {fs : List Fact} {up : List Span} {late : Int} {h : Hp} {nx rid : Nat} {b : Bd} {lv ov dv rv wv : V} {oid tid : Nat} {tag : Nat → Nat}
/-- What a change leaves. -/
def ChQ (fs : List Fact) (up : List Span) (late : Int) (nx rid : Nat) (r : Bd × Int) : V → Hp → Nat → Prop := fun v h' nx' => v = .int .i64 r.2 ∧ nx ≤ nx' ∧ BS fs up late h' nx' rid r.1
theorem change_ok (hX : BX fs up late h nx rid b lv ov dv rv wv oid tid tag) (hv : entsE b.l = 0) (c : Change) (hc : chE c = 0) : SEx Try.prog 142 [.pt rid 0 0, .agg (chV c)] h nx (ChQ fs up late nx rid (b.chg c)) := by
  have e62 := Go.Ex.e62
  have gd := ents_ok hv
  have hbl := ents_le hv
  have hid := fun x h nx b (hb : b < nx) hh => idC_ok c x (h := h) (nx := nx) (b := b) hb hh
  obtain ⟨at', k, ⟨eid, eat, ec, eg, ei, en⟩, id, g, by'⟩ := c
  refine SEx.of hm h142 (of_decide_eq_true rfl) ?_
  unfold c142
  simp only [chV] at hid ⊢
  simp -dsimp
  generalize hh : upd h nx (some ⟨0, 0, [V.int IntKind.i64 at', V.int IntKind.i64 k, V.int IntKind.i64 eid, V.int IntKind.i64 eat, V.str ec, V.str eg, V.str ei, V.bool en, V.int IntKind.i64 id, V.str g, V.int IntKind.i64 by'], none⟩) = h1
  have hfr : ∀ j, j < nx → h1 j = h j := fun j hj => by rw [← hh]; simp only [upd]; rw [if_neg (by omega)]
  have hX1 := hX.keep (Nat.le_succ nx) hfr
  have hc1 : h1 nx = some ⟨0, 0, [V.int IntKind.i64 at', V.int IntKind.i64 k, V.int IntKind.i64 eid, V.int IntKind.i64 eat, V.str ec, V.str eg, V.str ei, V.bool en, V.int IntKind.i64 id, V.str g, V.int IntKind.i64 by'], none⟩ := by rw [← hh]; exact upd_self _ _ _
  have hr1 := hX1.r
  have ho1 := hX1.o
  have ht1 := hX1.t
  have hro := hX1.al.ro
  have nr : ¬ nx = rid := by have := hX.lr; omega
  have nr' : ¬ rid = nx := by have := hX.lr; omega
  have nr2 : ¬ rid = nx + 1 := by have := hX.lr; omega
  clear hh
  have mg : ∀ K, mgetK false (some .i64) (.bool false) (.mp tid 0) (.int .i64 eid) h1 (nx + 1) K ⟨⟩ = K (.bool ((Go.Ex.look eid b.turned).getD false)) h1 (nx + 1) (some [tid]) (some []) := fun K => mget_ok (keyInt .i64) ht1 false false eid
  -- how it ends
  have keepQ : ∀ (f : Int) (r : Bd × Int), r = (b, f) → ChQ fs up late nx rid r (.int .i64 f) h1 (nx + 1) := fun f r e => by rw [e]; exact ⟨rfl, Nat.le_succ _, _, _, _, _, _, _, _, _, hX1⟩
  have badL : ∀ (m : List Entry) (f : Int) (r : Bd × Int), f ≠ 0 → r = b.setL (m, f) → r = (b, f) := fun m f r h1 h2 => by rw [h2]; unfold Bd.setL; rw [if_neg h1]
  have goodL : ∀ (m : List Entry) (r : Bd × Int), r = b.setL (m, 0) → r = ({ b with l := m }, 0) := fun m r h2 => by rw [h2]; unfold Bd.setL; rw [if_pos rfl]
  have newQ : ∀ (m : List Entry) (r : Bd × Int) (h2 : Hp) (nx2 : Nat) (lv' : V), r = ({ b with l := m }, 0) → nx ≤ nx2 → (∀ j, j < nx → h2 j = h j) → LV h2 nx2 lv' m → (∀ j, ownOf lv' = some j → ownOf lv = some j ∨ nx ≤ j) → ChQ fs up late nx rid r (.int .i64 0) (upd h2 rid (bdC fs up late lv' ov dv rv wv oid tid)) nx2 := fun m r h2 nx2 lv' e hn hf hL hown => by
    rw [e]
    exact ⟨rfl, hn, _, _, _, _, _, _, _, _, hX.setL hn hf hL hown⟩
  by_cases k1 : k = 1
  · subst k1
    have hch : b.chg (at', 1, (eid, eat, ec, eg, ei, en), id, g, by') = if (Go.Ex.look eid b.turned).getD false = true then (b, 7) else b.setL (putE b.l (eid, eat, ec, eg, ei, en)) := rfl
    simp -dsimp [hr1, hc1, mg]
    refine condK_of ?_ ?_ <;> intro q <;> simp -dsimp
    · exact keepQ 7 _ (by rw [hch, if_pos q])
    have q' : ¬ (Go.Ex.look eid b.turned).getD false = true := by simp [q]
    rw [if_neg q'] at hch
    have hpo := put_own b.l (eid, eat, ec, eg, ei, en) hv
    have hpn : (putE b.l (eid, eat, ec, eg, ei, en)).2 ≠ 0 → (putE b.l (eid, eat, ec, eg, ei, en)).1 = [] := fun q => by
      unfold putE at q ⊢
      split
      · rfl
      rename_i z1
      rw [if_neg z1] at q
      split
      · rfl
      rename_i z2
      rw [if_neg z2] at q
      exact absurd rfl q
    generalize putE b.l (eid, eat, ec, eg, ei, en) = w at *
    obtain ⟨m, f⟩ := w
    simp only at hpo hpn
    by_cases z : f = 0
    · subst z
      have hp2 := hpo _ (fun _ => rfl) (fun q => absurd rfl q)
      simp only [entV] at hp2
      simp -dsimp [hr1, hc1, hro]
      refine call_own hp2 (by simp [okRes, roFree, roFreeL, ent_roFree]) ?_
      simp -dsimp [shift, shiftL, addB, cfB, nr, nr', nr2, hr1, V.storable, V.cells]
      refine newQ m _ _ _ _ (goodL _ _ hch) ?_ ?_ (.inl (Acc.mk ?_ (upd_self _ _ _))) ?_
      · omega
      · intro j hj
        have : ¬ j = nx + 1 := by omega
        simp only [upd]; rw [if_neg this]; exact hfr j hj
      · omega
      · intro j hj
        simp [ownOf] at hj
        right
        omega
    · have hp2 := hpo _ (fun q => absurd q z) (fun _ => rfl)
      simp only [entV] at hp2
      simp -dsimp [hr1, hc1, hro]
      refine call_own hp2 (by simp [okRes, roFree, roFreeL]) ?_
      simp -dsimp [shift, shiftL, addB, cfB, nr, nr', hr1, z]
      exact keepQ f _ (badL _ f _ z hch)
  by_cases k2 : k = 2
  · subst k2
    have hch : b.chg (at', 2, (eid, eat, ec, eg, ei, en), id, g, by') = b.setL (drE b.l id) := rfl
    have hpo := drop_own b.l id hbl
    by_cases z : idI b.l id < 0
    · have hp2 := hpo _ (fun q => absurd z q) (fun _ => rfl)
      rw [show drE b.l id = ([], 9) by unfold drE; rw [if_pos z]] at hch
      simp -dsimp [hr1, hc1, hro]
      refine call_own hp2 (by simp [okRes, roFree, roFreeL]) ?_
      simp -dsimp [shift, shiftL, addB, cfB, nr, nr', hr1, z]
      exact keepQ 9 _ (badL _ 9 _ (by decide) hch)
    · have hp2 := hpo _ (fun _ => rfl) (fun q => absurd q z)
      rw [show drE b.l id = (wo b.l (idI b.l id).toNat, 0) by unfold drE; rw [if_neg z]] at hch
      generalize wo b.l (idI b.l id).toNat = m at *
      simp -dsimp [hr1, hc1, hro]
      refine call_own hp2 (by simp [okRes, roFree, roFreeL, ent_roFree]) ?_
      simp -dsimp [shift, shiftL, addB, cfB, nr, nr', nr2, hr1, z, V.storable, V.cells]
      refine newQ m _ _ _ _ (goodL _ _ hch) ?_ ?_ (.inl (Acc.mk ?_ (upd_self _ _ _))) ?_
      · omega
      · intro j hj
        have : ¬ j = nx + 1 := by omega
        simp only [upd]; rw [if_neg this]; exact hfr j hj
      · omega
      · intro j hj
        simp [ownOf] at hj
        right
        omega
  -- shifts
  have shiftG : ∀ (f : Entry → Bool) (r : Bd × Int) (hn : Hp) (nn : Nat), r = b.setL (mvAll f by' b.l) → nx ≤ nn → (∀ j, j < nx → hn j = h j) → ∀ v h' nx', ShF f by' b.l hn nn v h' nx' → (∃ u, v = .tup [u, .int .i64 0] ∧ ChQ fs up late nx rid r (.int .i64 0) (upd h' rid (bdC fs up late u ov dv rv wv oid tid)) nx' ∧ h' rid = h rid ∧ (u = .em ∨ u = .ns ∨ ∃ i ve o n c, u = .sl i ve o n c)) ∨ (v = .tup [.ns, .int .i64 1] ∧ ChQ fs up late nx rid r (.int .i64 1) h' nx') := by
    intro f r hn nn hr hle hfn v h' nx' ⟨hq, q1, q2, q3⟩
    have fr : ∀ j, j < nx → h' j = h j := fun j hj => by rw [q2 j (by omega), hfn j hj]
    rcases hq with ⟨hall, u, rfl, hu⟩ | ⟨hall, rfl⟩
    · left
      have hE : mvAll f by' b.l = (insAll [] (b.l.map (mvE f by')), 0) := by unfold mvAll; rw [if_pos hall]
      rw [hE] at hr
      have hown : ∀ j, ownOf u = some j → ownOf lv = some j ∨ nx ≤ j := fun j hj => .inr (by have := q3 _ _ rfl j hj; omega)
      have hst : u = .em ∨ u = .ns ∨ ∃ i ve o n c, u = .sl i ve o n c := by
        rcases hu with ⟨_, rfl⟩ | ⟨_, ac⟩
        · exact .inl rfl
        · rcases ac.isV with rfl | ⟨i, ve, o, c, rfl⟩
          · exact .inr (.inl rfl)
          · exact .inr (.inr ⟨i, ve, o, _, c, rfl⟩)
      refine ⟨u, rfl, newQ _ _ _ _ _ (goodL _ _ hr) (by omega) fr ?_ hown, fr _ hX.lr, hst⟩
      rcases hu with ⟨e, rfl⟩ | ⟨hne, ac⟩
      · refine .inr (.inr ⟨?_, rfl⟩)
        rw [e]; rfl
      · have hp := srtE_ok (b.l.map (mvE f by'))
        have hids : Ids (srtE (b.l.map (mvE f by'))) := ((hp.1.map (·.1)).nodup_iff).2 (mv_ids gd.ids)
        have := mv_sorted gd.ids (srt_of hp.2 hids) hp.1
        rw [this] at ac
        exact .inl ac
    · right
      have hE : mvAll f by' b.l = ([], 1) := by unfold mvAll; rw [if_neg (by rw [hall]; simp)]
      rw [hE] at hr
      refine ⟨rfl, ?_⟩
      rw [badL _ 1 _ (by decide) hr]
      exact ⟨rfl, by omega, _, _, _, _, _, _, _, _, hX.keep (by omega) fr⟩
  have hby : k = 3 ∨ k = 4 → -1000000000 ≤ by' ∧ by' ≤ 1000000000 := fun q => by
    unfold chE at hc
    simp only at hc
    repeat' split at hc
    all_goals first
      | (exfalso; revert hc; decide)
      | omega
      | (rename_i z; simp [inB] at z; omega)
  by_cases k3 : k = 3
  · subst k3
    have hch : b.chg (at', 3, (eid, eat, ec, eg, ei, en), id, g, by') = if idI b.l id < 0 then (b, 9) else b.setL (mvAll (fun x => decide (x.1 = id)) by' b.l) := rfl
    simp -dsimp [hr1, hc1, hro]
    refine call_int (index_ok b.l id (by omega)) ?_
    by_cases z : idI b.l id < 0
    · rw [if_pos z] at hch
      simp -dsimp [cfB, nr, nr', hr1, z]
      exact keepQ 9 _ hch
    rw [if_neg z] at hch
    simp -dsimp [cfB, nr, nr', hr1, hc1, z]
    have hsx := shift_fr byTime_runs (f := fun x => decide (x.1 = id)) (by' := by') (F := 170) (b := nx) (nx := nx + 1) (h := h1) (lv := lv) hro (by kernel_rfl) gd.most (fun x hx => entE_at (gd.each x hx)) (hby (.inl rfl)) (by omega) hc1 (fun x h' nx' q1 q2 => hid x h' nx' nx q1 q2)
    refine shr_ex hsx ?_
    intro v h' nx' hq
    rcases shiftG _ _ h1 (nx + 1) hch (by omega) hfr v h' nx' hq with ⟨u, rfl, hcq, e1, e2⟩ | ⟨rfl, hcq⟩
    · rw [hX.r] at e1
      rcases e2 with rfl | rfl | ⟨i, ve, o, n, ca, rfl⟩
      all_goals
        simp -dsimp [cfB, e1, V.cells, V.storable]
        exact hcq
    · simp -dsimp [cfB]
      exact hcq
  by_cases k4 : k = 4
  · subst k4
    have hch : b.chg (at', 4, (eid, eat, ec, eg, ei, en), id, g, by') = b.setL (mvAll (fG g) by' b.l) := rfl
    simp -dsimp [hr1, hc1, hro]
    refine call_own (inOwn_ok g) (by simp [okRes, noRef]) ?_
    have dj1 : disj (some [rid]) (some (newIds (nx + 1) 1)) = true := by simp [disj, newIds]; omega
    have dj2 : disj (some [nx]) (some (newIds (nx + 1) 1)) = true := by simp [disj, newIds]
    simp -dsimp [shift, shiftL, addB, cfB, callRd, callWr, nr, nr', nr2, hr1, hc1, dj1, dj2]
    generalize hh2 : upd h1 (nx + 1) (some ⟨0, 0, [.str g], none⟩) = h2
    have f2 : ∀ j, j < nx + 1 → h2 j = h1 j := fun j hj => by
      have : ¬ j = nx + 1 := by omega
      rw [← hh2]
      simp only [upd]
      rw [if_neg this]
    have hg2 : h2 (nx + 1) = some ⟨0, 0, [.str g], none⟩ := by rw [← hh2]; exact upd_self _ _ _
    have hro2 : toRO h2 8 lv = some (rE b.l) := (hX1.al.mono (nx' := nx + 1) (Nat.le_refl _) fun j hj _ => f2 j hj).ro
    have hsx := shift_fr byTime_runs (f := fG g) (by' := by') (F := 139) (b := nx + 1) (nx := nx + 1 + 1) (h := h2) (lv := lv) hro2 (by kernel_rfl) gd.most (fun x hx => entE_at (gd.each x hx)) (hby (.inr rfl)) (by omega) hg2 (fun x h' nx' q1 q2 => inG_ok g x q1 q2)
    refine shr_ex hsx ?_
    intro v h' nx' hq
    rcases shiftG _ _ h2 (nx + 1 + 1) hch (by omega) (fun j hj => by rw [f2 j (by omega), hfr j hj]) v h' nx' hq with ⟨u, rfl, hcq, e1, e2⟩ | ⟨rfl, hcq⟩
    · rw [hX.r] at e1
      rcases e2 with rfl | rfl | ⟨i, ve, o, n, ca, rfl⟩
      all_goals
        simp -dsimp [cfB, e1, V.cells, V.storable]
        exact hcq
    · simp -dsimp [cfB]
      exact hcq
  -- on and off
  have hch : b.chg (at', k, (eid, eat, ec, eg, ei, en), id, g, by') = ({ b with off := putM g (decide (k = 6)) b.off }, 0) := by
    unfold Bd.chg
    simp only
    rw [if_neg k1, if_neg k2, if_neg k3, if_neg k4]
  have ms : ∀ K, msetK none (.mp oid 0) (.str g) (.bool (decide (k = 6))) h1 (nx + 1) K ⟨⟩ = K (.tup []) (upd h1 oid (offC (putM g (decide (k = 6)) b.off))) (nx + 1) (some [oid]) (some [oid]) := fun K => mset_ok keyStr ho1 g (decide (k = 6))
  simp -dsimp [k1, k2, k3, k4, hr1, hc1, ms]
  rw [hch]
  exact ⟨rfl, Nat.le_succ _, _, _, _, _, _, _, _, _, hX1.setO _⟩
end
end Go.Proofs.P6
end
section
set_option linter.unusedVariables false
set_option linter.unusedSimpArgs false
set_option maxRecDepth 10000
set_option maxHeartbeats 8000000
namespace Go.Proofs.P6
open Go.Ex
/-- What becomes of an entry. -/
def outK (fs : List Fact) (late : Int) (off : List (List UInt8 × Bool)) (x : Entry) (at' : Int) : Int :=
  if (Go.Ex.look x.2.2.2.1 off).getD false = true then 2 else if late < at' - x.2.1 then 4 else if x.2.2.2.2.1 ≠ [] ∧ isF fs x.2.2.2.2.1 at' = x.2.2.2.2.2 then 3 else if x.2.1 < at' then 5 else 1
section
variable {fs : List Fact} {up : List Span} {late : Int} {h : Hp} {nx rid : Nat} {b : Bd} {lv ov dv rv wv : V} {oid tid : Nat} {tag : Nat → Nat}
theorem outcome_ok (hX : BX fs up late h nx rid b lv ov dv rv wv oid tid tag) (hF : factsE fs = 0) (x : Entry) (at' : Int) (hx : 0 ≤ x.2.1 ∧ x.2.1 ≤ 1000000000000) (ha : 0 ≤ at' ∧ at' ≤ 1000000000000) :
    SEx Try.prog 171 [.pt rid 0 0, .agg (entV x), .int .i64 at'] h nx (Quiet (.int .i64 (outK fs late b.off x at')) h nx) := by
  have hf := is_ok fs x.2.2.2.2.1 at' (by have := (facts_small hF).1; have := Go.Ex.e62; omega) (by have := (spansOf_small hF x.2.2.2.2.1).1; have := Go.Ex.e62; omega)
  have hw : IntKind.i64.wrap (at' - x.2.1) = at' - x.2.1 := IntWalk.i64_in _ (by omega)
  obtain ⟨xi, xa, xc, xg, xf, xn⟩ := x
  simp only at hf hw
  refine SEx.of hm h171 (of_decide_eq_true rfl) ?_
  unfold c171
  have nr : ¬ rid = nx := by have := hX.lr; omega
  obtain ⟨H, hH⟩ : ∃ H, H = upd h nx (some ⟨0, 0, [V.int IntKind.i64 xi, V.int IntKind.i64 xa, V.str xc, V.str xg, V.str xf, V.bool xn], none⟩) := ⟨_, rfl⟩
  have hfr : ∀ j, j < nx → H j = h j := fun j hj => by rw [hH]; simp only [upd]; rw [if_neg (by omega)]
  have hX1 := hX.keep (Nat.le_succ nx) hfr
  have hr := hX.r
  have mg : ∀ K, mgetK false none (.bool false) (.mp oid 0) (.str xg) H (nx + 1) K ⟨⟩ = K (.bool ((Go.Ex.look xg b.off).getD false)) H (nx + 1) (some [oid]) (some []) := fun K => mget_ok keyStr hX1.o false false xg
  rw [hH] at mg
  have fin : ∀ n : Int, outK fs late b.off (xi, xa, xc, xg, xf, xn) at' = n → Quiet (.int .i64 (outK fs late b.off (xi, xa, xc, xg, xf, xn) at')) h nx (.int .i64 n) H (nx + 1) := fun n e => ⟨by rw [e], Nat.le_succ _, hfr⟩
  rw [hH] at fin
  simp -dsimp [entV, hr, nr, mg]
  refine condK_of ?_ ?_ <;> intro q
  · simp -dsimp
    exact fin 2 (by unfold outK; rw [if_pos q])
  have q' : ¬ (Go.Ex.look xg b.off).getD false = true := by simp [q]
  simp -dsimp [hr, nr, hw]
  by_cases q1 : late < at' - xa
  · simp -dsimp [q1]
    exact fin 4 (by unfold outK; rw [if_neg q', if_pos q1])
  simp -dsimp [q1, hr, nr]
  by_cases q2 : xf = []
  · subst q2
    simp -dsimp [hr, nr]
    by_cases q3 : xa < at'
    · simp -dsimp [q3]
      exact fin 5 (by unfold outK; rw [if_neg q', if_neg q1, if_neg (by simp), if_pos q3])
    · simp -dsimp [q3]
      exact fin 1 (by unfold outK; rw [if_neg q', if_neg q1, if_neg (by simp), if_neg q3])
  · simp -dsimp [q2, hr, nr]
    refine call_bool hf ?_
    have dj : ∀ o, disj o (some []) = true := fun o => by
      cases o with
      | none => rfl
      | some a => cases a <;> rfl
    simp -dsimp [hr, nr, cfB, dj]
    by_cases q3 : isF fs xf at' = xn
    · have q3' : (isF fs xf at' == xn) = true := by rw [q3]; simp
      simp -dsimp [q3, q3']
      exact fin 3 (by unfold outK; rw [if_neg q', if_neg q1, if_pos ⟨q2, q3⟩])
    · have q3' : (isF fs xf at' == xn) = false := by simp [q3]
      simp -dsimp [q3, q3', hr, nr]
      have q4 : ¬ (xf ≠ [] ∧ isF fs xf at' = xn) := fun q => q3 q.2
      by_cases q5 : xa < at'
      · simp -dsimp [q5]
        exact fin 5 (by unfold outK; rw [if_neg q', if_neg q1, if_neg q4, if_pos q5])
      · simp -dsimp [q5]
        exact fin 1 (by unfold outK; rw [if_neg q', if_neg q1, if_neg q4, if_neg q5])
end
end Go.Proofs.P6
end
section
set_option linter.unusedVariables false
set_option linter.unusedSimpArgs false
set_option maxRecDepth 10000
set_option maxHeartbeats 8000000
namespace Go.Proofs.P6
open Go.Ex
theorem acc_st {α : Type} {d : Cd α} {h : Hp} {nx : Nat} {v : V} {l : List α} (a : Acc d h nx v l) : v.cells = [v] ∧ v.storable = true := by
  rcases a.isV with rfl | ⟨_, _, _, _, rfl⟩ <;> exact ⟨rfl, rfl⟩
/-- The first entry has its turn. -/
def Bd.turn (fs : List Fact) (late at' : Int) (b : Bd) (x : Entry) (r : List Entry) : Bd :=
  { l := r, off := b.off, turned := putM x.1 true b.turned, out := b.out ++ [(x.1, at', outK fs late b.off x at')], did := if outK fs late b.off x at' = 1 ∨ outK fs late b.off x at' = 5 then b.did ++ [(at', x.2.2.1)] else b.did, ref := b.ref, why := b.why }
def Bd.turnsN (fs : List Fact) (late at' : Int) : Nat → Bd → Bd
  | 0, b => b
  | n + 1, b => match b.l with
    | [] => b
    | x :: r => if x.2.1 ≤ at' then Bd.turnsN fs late at' n (b.turn fs late at' x r) else b
def Bd.turns (fs : List Fact) (late at' : Int) (b : Bd) : Bd := Bd.turnsN fs late at' b.l.length b
theorem turnsN_nil {fs : List Fact} {late at' : Int} {n : Nat} {b : Bd} (h : b.l = []) : Bd.turnsN fs late at' n b = b := by
  cases n with
  | zero => rfl
  | succ n => unfold Bd.turnsN; rw [h]
theorem turnsN_stop {fs : List Fact} {late at' : Int} {n : Nat} {b : Bd} {x : Entry} {r : List Entry} (h : b.l = x :: r) (hx : ¬ x.2.1 ≤ at') : Bd.turnsN fs late at' n b = b := by
  cases n with
  | zero => rfl
  | succ n =>
    unfold Bd.turnsN
    rw [h]
    exact if_neg hx
theorem turnsN_go {fs : List Fact} {late at' : Int} {n : Nat} {b : Bd} {x : Entry} {r : List Entry} (h : b.l = x :: r) (hx : x.2.1 ≤ at') : Bd.turnsN fs late at' (n + 1) b = Bd.turnsN fs late at' n (b.turn fs late at' x r) := by
  show (match b.l with | [] => b | x :: r => if x.2.1 ≤ at' then Bd.turnsN fs late at' n (b.turn fs late at' x r) else b) = _
  rw [h]
  exact if_pos hx
/-- What stays in bounds. -/
structure Bnd (b : Bd) : Prop where
  at' : ∀ x ∈ b.l, 0 ≤ x.2.1 ∧ x.2.1 ≤ 1000000000000
  out : b.out.length + b.l.length ≤ 5000
  did : b.did.length ≤ b.out.length
theorem Bnd.turn {b : Bd} (hb : Bnd b) {fs : List Fact} {late at' : Int} {x : Entry} {r : List Entry} (h : b.l = x :: r) : Bnd (b.turn fs late at' x r) := by
  have ho := hb.out
  have hd := hb.did
  rw [h, List.length_cons] at ho
  refine ⟨fun y hy => hb.at' y (by rw [h]; exact List.mem_cons_of_mem _ hy), ?_, ?_⟩
  · show (b.out ++ [_]).length + r.length ≤ _
    rw [List.length_append, List.length_singleton]
    omega
  · show (if _ then b.did ++ [_] else b.did).length ≤ (b.out ++ [_]).length
    rw [List.length_append, List.length_singleton]
    split
    · rw [List.length_append, List.length_singleton]; omega
    · omega
section
variable {fs : List Fact} {up : List Span} {late : Int} {h : Hp} {nx rid : Nat} {b : Bd} {lv ov dv rv wv : V} {oid tid : Nat} {tag : Nat → Nat}
def TI (fs : List Fact) (up : List Span) (late at' : Int) (nx rid : Nat) (B : Bd) (k : Nat) (t : St) : Prop := ∃ b lv ov dv rv wv oid tid tag, BX fs up late t.h t.nx rid b lv ov dv rv wv oid tid tag ∧ t.t 0 = .pt rid 0 0 ∧ t.t 1 = .int .i64 at' ∧ b.l.length = k ∧ Bd.turnsN fs late at' k b = B ∧ nx ≤ t.nx ∧ Bnd b
def TQ (fs : List Fact) (up : List Span) (late : Int) (nx rid : Nat) (B : Bd) : V → Hp → Nat → Prop := fun v h' nx' => nx ≤ nx' ∧ BS fs up late h' nx' rid B
theorem turns_ok (hX : BX fs up late h nx rid b lv ov dv rv wv oid tid tag) (hF : factsE fs = 0) (at' : Int) (ha : 0 ≤ at' ∧ at' ≤ 1000000000000) (hb : Bnd b) :
    SEx Try.prog 143 [.pt rid 0 0, .int .i64 at'] h nx (TQ fs up late nx rid (b.turns fs late at')) := by
  have e62 := Go.Ex.e62
  have e47 := Go.Ex.e47
  refine SEx.of hm h143 (of_decide_eq_true rfl) ?_
  unfold c143
  simp -dsimp
  refine loop_dec (TI fs up late at' nx rid (b.turns fs late at')) b.l.length ⟨b, lv, ov, dv, rv, wv, oid, tid, tag, hX, by simp -dsimp, by simp -dsimp, rfl, rfl, Nat.le_refl _, hb⟩ (fun k t hI => ?_)
  clear hX
  clear hb
  obtain ⟨b', lv, ov, dv, rv, wv, oid, tid, tag, hX, i0, i1, hk, hT, hn, hb⟩ := hI
  have hr := hX.r
  have hlen := hX.al.len
  unfold l143_0
  rcases hl : b'.l with _ | ⟨x, r⟩
  · rw [hl] at hlen
    simp -dsimp [i0, hr, hlen]
    rw [turnsN_nil hl] at hT
    rw [← hT]
    exact ⟨hn, _, _, _, _, _, _, _, _, hX⟩
  have hg : b'.l[0]? = some x := by rw [hl]; rfl
  obtain ⟨p, q, ids, f1, f2, f3, f4⟩ := hX.al.first hg
  have hll : b'.l.length = r.length + 1 := by rw [hl]; rfl
  simp only [faddrA] at f3
  have f1' : ∀ K, iaddrK t.h lv (.int .i64 0) 6 K ⟨⟩ = K p ids := fun K => f1 .i64 K
  have hpos : 0 < b'.l.length := by omega
  by_cases hx : x.2.1 ≤ at'
  rotate_left
  · simp -dsimp [i0, i1, hr, hlen, hpos, f1', f3, f4, hx]
    rw [turnsN_stop hl hx] at hT
    rw [← hT]
    exact ⟨hn, _, _, _, _, _, _, _, _, hX⟩
  have hxb := hb.at' x (by rw [hl]; simp)
  have hbt := hb.turn (fs := fs) (late := late) (at' := at') hl
  have hbo := hb.out
  have hbd := hb.did
  subst hk
  rw [hll, turnsN_go hl hx] at hT
  have sl : (entV x).length = 6 := rfl
  have tk6 : List.take 6 (entV x) = entV x := rfl
  have hput : putL [V.int IntKind.i64 0, V.int IntKind.i64 0, V.str [], V.str [], V.str [], V.bool false] 0 (entV x) = entV x := rfl
  have e0q : (entV x)[0]? = some (.int .i64 x.1) := rfl
  have e2q : (entV x)[2]? = some (.str x.2.2.1) := rfl
  have e0 : ∀ hh, (entV x)[0]'hh = .int .i64 x.1 := fun _ => rfl
  have nr : ¬ rid = t.nx := by have := hX.lr; omega
  obtain ⟨H1, hH1⟩ : ∃ H1, H1 = upd (upd t.h t.nx (some ⟨0, 0, [V.int IntKind.i64 0, V.int IntKind.i64 0, V.str [], V.str [], V.str [], V.bool false], none⟩)) t.nx (some ⟨0, 0, entV x, none⟩) := ⟨_, rfl⟩
  have hfr1 : ∀ j, j < t.nx → H1 j = t.h j := fun j hj => by rw [hH1]; simp only [upd]; rw [if_neg (by omega), if_neg (by omega)]
  have hX1 := hX.keep (Nat.le_succ t.nx) hfr1
  obtain ⟨lv', ids', g1, g2, g3⟩ := hX1.al.tail (by omega)
  rw [hl, List.drop_succ_cons, List.drop_zero] at g2
  have hX2 := hX1.setL (Nat.le_refl _) (fun j _ => rfl) g2 (fun j hj => .inl (g1 j hj))
  have hX3 := hX2.setT (putM x.1 true b'.turned)
  have ms : ∀ K, msetK (some .i64) (.mp tid 0) (.int .i64 x.1) (.bool true) (upd H1 rid (bdC fs up late lv' ov dv rv wv oid tid)) (t.nx + 1) K ⟨⟩ = K (.tup []) (upd (upd H1 rid (bdC fs up late lv' ov dv rv wv oid tid)) tid (trnC (putM x.1 true b'.turned))) (t.nx + 1) (some [tid]) (some [tid]) := fun K => mset_ok (keyInt .i64) hX2.t x.1 true
  have g3' : ∀ nx' K, slcK false lv (some (.int .i64 1)) none 6 H1 nx' K ⟨⟩ = K lv' H1 nx' ids' (some []) := fun nx' K => g3 .i64 nx' K
  have hst : lv'.cells = [lv'] ∧ lv'.storable = true := by
    rcases g2 with a | a | ⟨_, a⟩
    · rcases a.isV with a | ⟨_, _, _, _, a⟩ <;> rw [a] <;> exact ⟨rfl, rfl⟩
    · rw [a]; exact ⟨rfl, rfl⟩
    · rw [a]; exact ⟨rfl, rfl⟩
  simp only [V.cells, V.storable] at hst
  have nrt : ¬ rid = tid := fun e => hX.n2 e.symm
  have nxt : ¬ t.nx = tid := by have := hX.lt; omega
  have nxr : ¬ t.nx = rid := fun e => nr e.symm
  rw [hH1] at ms g3'
  simp -dsimp [i0, i1, hr, hlen, hpos, f1', f2, f3, f4, hx, sl, tk6, hput, e0, nr, g3', hst.1, hst.2, nxr, nrt, nxt, ms]
  rw [← hH1]
  refine shr_ex (outcome_ok hX3 hF x at' hxb ha) ?_
  rintro v h4 nx4 ⟨rfl, q1, q2⟩
  have hX4 := hX3.keep q1 q2
  have hx4 : h4 t.nx = some ⟨0, 0, entV x, none⟩ := by
    rw [q2 _ (Nat.lt_succ_self _)]
    simp only [upd]
    rw [if_neg nxt, if_neg nxr, hH1]
    exact upd_self _ _ _
  have hr4 := hX4.r
  have hl4 := hX4.lr
  have nr4 : ¬ rid = nx4 := by omega
  have nr4' : ¬ nx4 = rid := by omega
  have nx44 : ¬ t.nx = nx4 := by omega

  obtain ⟨k, hk⟩ : ∃ k, k = outK fs late b'.off x at' := ⟨_, rfl⟩
  rw [← hk]
  simp -dsimp [i0, i1, hr4, hx4, e0q, cfB, disj, nr4, nr4', fillA, fillS]
  have hao : AccC h4 nx4 ov b'.out := hX4.ao
  refine push_cW (x := ((x.1, at', k) : Outc)) hao (by omega) fun ov' h5 nx5 i b1 b2 b3 b4 b5 b6 => ?_
  have hX5 := hX4.pushO (by omega) b1 b3 b4
  obtain ⟨s1, s2⟩ := acc_st b1.acc
  have hr5 : h5 rid = bdC fs up late lv' ov dv rv wv oid tid := by rw [b3 rid hl4 (fun e => by have := hX4.tO _ e; rw [hX4.tr] at this; cases this)]; exact hr4
  have hx5 : h5 t.nx = some ⟨0, 0, entV x, none⟩ := by rw [b3 _ (by omega) (fun e => by have := hX.ao.own e; omega)]; exact hx4
  have nri : ¬ rid = i := fun e => by
    rcases b5 with q | q
    · have := hX4.tO _ q; rw [← e, hX4.tr] at this; cases this
    · omega
  have nxi : ¬ t.nx = i := fun e => by
    rcases b5 with q | q
    · have := hX.ao.own q; omega
    · omega
  have hT' : b'.turn fs late at' x r = { l := r, off := b'.off, turned := putM x.1 true b'.turned, out := b'.out ++ [(x.1, at', k)], did := if k = 1 ∨ k = 5 then b'.did ++ [(at', x.2.2.1)] else b'.did, ref := b'.ref, why := b'.why } := by rw [hk]; rfl
  generalize hb5 : b'.turn fs late at' x r = b5' at *
  have hl5 : b5'.l.length = r.length := by rw [hT']
  have noD : ¬ (k = 1 ∨ k = 5) → BX fs up late (upd h5 rid (bdC fs up late lv' ov' dv rv wv oid tid)) nx5 rid b5' lv' ov' dv rv wv oid tid (fun j => if nx4 ≤ j then 4 else (if t.nx + 1 ≤ j then 3 else tag j)) := fun q => by
    rw [hT', if_neg q]
    exact hX5
  have yesD : (k = 1 ∨ k = 5) → ∀ (K : V → Hp → Nat → Option (List Nat) → Option (List Nat) → Prop) ids (bl : Option LB), (∀ dv' h7 nx7 i, BX fs up late (upd h7 rid (bdC fs up late lv' ov' dv' rv wv oid tid)) nx7 rid b5' lv' ov' dv' rv wv oid tid (fun j => if nx5 ≤ j then 5 else if nx4 ≤ j then 4 else (if t.nx + 1 ≤ j then 3 else tag j)) → dv'.cells = [dv'] → dv'.storable = true → h7 rid = bdC fs up late lv' ov' dv rv wv oid tid → nx5 ≤ nx7 → ¬ rid = i → ¬ t.nx = i → K dv' h7 nx7 (some (i :: ids)) (some [i])) →
      appK 2 24 dv (some (1, [.int .i64 at', .str x.2.2.1])) (upd (upd h5 rid (bdC fs up late lv' ov' dv rv wv oid tid)) nx5 bl) (nx5 + 1) ids K ⟨⟩ := by
    intro q K ids bl hK
    have had : Acc didCd (upd h5 rid (bdC fs up late lv' ov' dv rv wv oid tid)) nx5 dv b'.did := hX5.ad
    refine push_accW (d := didCd) (x := ((at', x.2.2.1) : Did)) had rfl rfl (by omega) (by omega) fun dv' h7 nx7 i c1 c2 c3 c4 c5 c6 => ?_
    have hX7 := hX5.pushD (by omega) c1 c3 c4
    obtain ⟨u1, u2⟩ := acc_st c1
    refine hK dv' h7 nx7 i ?_ u1 u2 ?_ (by omega) (fun e => ?_) (fun e => ?_)
    · rw [hT', if_pos q]
      exact hX7
    · rw [c3 rid (by omega) (fun e => by have := hX5.td _ e; rw [hX5.tr] at this; cases this)]
      exact upd_self _ _ _
    · rcases c5 with q | q
      · have := hX5.td _ q; rw [← e, hX5.tr] at this; cases this
      · omega
    · rcases c5 with q | q
      · have := hX.ad.own q; omega
      · omega
  have nr5 : ¬ rid = nx5 := by omega
  have nr5' : ¬ nx5 = rid := by omega
  have nx55 : ¬ t.nx = nx5 := by omega
  have fin : ∀ (t' : St) dv' tag', BX fs up late t'.h t'.nx rid b5' lv' ov' dv' rv wv oid tid tag' → t'.t 0 = .pt rid 0 0 → t'.t 1 = .int .i64 at' → nx ≤ t'.nx → ∃ m, m < b'.l.length ∧ TI fs up late at' nx rid (b.turns fs late at') m t' := fun t' dv' tag' h1 h2 h3 h4 => ⟨r.length, by omega, b5', lv', ov', dv', rv, wv, oid, tid, tag', h1, h2, h3, hl5, hT, h4, hbt⟩
  simp -dsimp [-V.cells, -V.storable, i0, i1, hr5, hx5, e0q, cfB, disj, nr4, nr4', s1, s2, nri, nxi]
  by_cases z1 : k = 1
  · simp -dsimp [z1, i0, i1, hr5, hx5, e2q, cfB, disj, nr5, nr5', nx55, nxr, nr, fillA, fillS]
    refine yesD (.inl z1) _ _ _ fun dv' h7 nx7 i2 c1 c2 c3 c4 c5 c6 c7 => ?_
    simp -dsimp [-V.cells, -V.storable, i0, i1, c2, c3, c4, cfB, disj, c6, c7, nr5, nr5', nx55]
    exact fin _ dv' _ c1 (by simp -dsimp [i0]) (by simp -dsimp [i1]) (by show nx ≤ nx7; omega)
  simp -dsimp [-V.cells, -V.storable, z1]
  by_cases z5 : k = 5
  · simp -dsimp [z5, i0, i1, hr5, hx5, e2q, cfB, disj, nr5, nr5', nx55, nxr, nr, fillA, fillS]
    refine yesD (.inr z5) _ _ _ fun dv' h7 nx7 i2 c1 c2 c3 c4 c5 c6 c7 => ?_
    simp -dsimp [-V.cells, -V.storable, i0, i1, c2, c3, c4, cfB, disj, c6, c7, nr5, nr5', nx55]
    exact fin _ dv' _ c1 (by simp -dsimp [i0]) (by simp -dsimp [i1]) (by show nx ≤ nx7; omega)
  simp -dsimp [-V.cells, -V.storable, z5]
  exact fin _ dv _ (noD (by omega)) (by simp -dsimp [i0]) (by simp -dsimp [i1]) (by show nx ≤ nx5; omega)
end
end Go.Proofs.P6
end
section
set_option linter.unusedVariables false
set_option linter.unusedSimpArgs false
namespace Go.Proofs.P6
open Go.Ex
theorem ents_sub {l m : List Entry} (g : EntsOk l) (h : m.Sublist l) : EntsOk m := by
  refine ⟨Nat.le_trans h.length_le g.most, fun x hx => g.each x (h.subset hx), g.srt.sublist h, (h.map (·.1)).nodup g.ids, ?_⟩
  exact Nat.le_trans (grp_le fun y hy => ⟨y, h.subset hy, rfl⟩) g.grp
theorem wo_sub (l : List Entry) (i : Nat) : (wo l i).Sublist l := by
  unfold wo
  have h : l.take i ++ l.drop i = l := List.take_append_drop i l
  have h2 : (l.take i ++ l.drop (i + 1)).Sublist (l.take i ++ l.drop i) := (List.Sublist.refl _).append (by rw [← List.drop_drop]; exact List.drop_sublist _ _)
  rw [h] at h2
  exact h2
/-- What a change makes, with its number if it is refused. -/
def Bd.made (b : Bd) (y : Change) (i : Nat) : Bd := if (b.chg y).2 = 0 then (b.chg y).1 else { b with ref := b.ref ++ [(i : Int)], why := b.why ++ [(b.chg y).2] }
theorem setL_cases (b : Bd) (r : List Entry × Int) : (r.2 = 0 ∧ b.setL r = ({ b with l := r.1 }, 0)) ∨ (r.2 ≠ 0 ∧ b.setL r = (b, r.2)) := by
  unfold Bd.setL
  by_cases q : r.2 = 0
  · rw [if_pos q]; exact .inl ⟨q, rfl⟩
  · rw [if_neg q]; exact .inr ⟨q, rfl⟩
/-- Either it is refused, and nothing is changed; or the groups that are off are changed; or the schedule is. -/
theorem chg_cases {b : Bd} {c : Change} (hv : entsE b.l = 0) (hc : chE c = 0) : ((b.chg c).2 ≠ 0 ∧ (b.chg c).1 = b) ∨ ((b.chg c).2 = 0 ∧ ∃ o, (b.chg c).1 = { b with off := o }) ∨
    ((b.chg c).2 = 0 ∧ ∃ m, (b.chg c).1 = { b with l := m } ∧ entsE m = 0 ∧ m.length ≤ b.l.length + 1 ∧ ∀ x ∈ m, (∃ y ∈ b.l, y.1 = x.1) ∨ (Go.Ex.look x.1 b.turned).getD false = false) := by
  have gd := ents_ok hv
  have sL : ∀ r : List Entry × Int, (r.2 = 0 → entsE r.1 = 0 ∧ r.1.length ≤ b.l.length + 1 ∧ ∀ x ∈ r.1, (∃ y ∈ b.l, y.1 = x.1) ∨ (Go.Ex.look x.1 b.turned).getD false = false) → b.chg c = b.setL r → ((b.chg c).2 ≠ 0 ∧ (b.chg c).1 = b) ∨ ((b.chg c).2 = 0 ∧ ∃ o, (b.chg c).1 = { b with off := o }) ∨
      ((b.chg c).2 = 0 ∧ ∃ m, (b.chg c).1 = { b with l := m } ∧ entsE m = 0 ∧ m.length ≤ b.l.length + 1 ∧ ∀ x ∈ m, (∃ y ∈ b.l, y.1 = x.1) ∨ (Go.Ex.look x.1 b.turned).getD false = false) := by
    intro r hr he
    rcases setL_cases b r with ⟨q, e⟩ | ⟨q, e⟩
    · rw [he, e]
      exact .inr (.inr ⟨rfl, r.1, rfl, (hr q).1, (hr q).2.1, (hr q).2.2⟩)
    · rw [he, e]
      exact .inl ⟨q, rfl⟩
  have mv : ∀ f : Entry → Bool, (mvAll f c.2.2.2.2.2 b.l).2 = 0 → entsE (mvAll f c.2.2.2.2.2 b.l).1 = 0 ∧ (mvAll f c.2.2.2.2.2 b.l).1.length ≤ b.l.length + 1 ∧ ∀ x ∈ (mvAll f c.2.2.2.2.2 b.l).1, (∃ y ∈ b.l, y.1 = x.1) ∨ (Go.Ex.look x.1 b.turned).getD false = false := by
    intro f hf
    unfold mvAll at hf ⊢
    split at hf
    · rename_i q
      rw [if_pos q]
      refine ⟨ents_mk (mv_ok gd q), ?_, fun x hx => .inl ?_⟩
      · show (insAll [] _).length ≤ _
        rw [insAll_len]
        simp
      · obtain ⟨h1, h2⟩ := insAll_ok (b.l.map (mvE f c.2.2.2.2.2)) [] List.Pairwise.nil (by simpa using mv_ids gd.ids)
        have := h2.mem_iff.1 hx
        simp only [List.nil_append, List.mem_map] at this
        obtain ⟨y, hy, rfl⟩ := this
        exact ⟨y, hy, (mvE_id _ _ _).symm⟩
    · cases hf
  by_cases k1 : c.2.1 = 1
  · by_cases z : (Go.Ex.look c.2.2.1.1 b.turned).getD false = true
    · refine .inl ?_
      unfold Bd.chg
      rw [if_pos k1, if_pos z]
      exact ⟨by show (7 : Int) ≠ 0; decide, rfl⟩
    · refine sL (putE b.l c.2.2.1) (fun q => ?_) (by unfold Bd.chg; rw [if_pos k1, if_neg z])
      have he : entE c.2.2.1 = 0 := by
        unfold chE at hc
        split at hc
        · cases hc
        split at hc
        · cases hc
        split at hc
        · cases hc
        exact hc
      have hP : PutE b.l c.2.2.1 = ((putE b.l c.2.2.1).1, 0) := by unfold PutE; rw [if_neg (by simp [hv]), if_neg (by simp [he]), ← q]
      obtain ⟨p1, p2, p3, p4⟩ := put_right hP
      refine ⟨p1, by omega, fun x hx => ?_⟩
      have hins : (putE b.l c.2.2.1).1 = ins b.l c.2.2.1 := by
        unfold putE at q ⊢
        split at q
        · cases q
        rename_i z1
        rw [if_neg z1]
        split at q
        · cases q
        rename_i z2
        rw [if_neg z2]
      rw [hins, (ins_perm b.l c.2.2.1).mem_iff] at hx
      rcases List.mem_cons.1 hx with rfl | hx
      · right; simpa using z
      · exact .inl ⟨x, hx, rfl⟩
  by_cases k2 : c.2.1 = 2
  · refine sL (drE b.l c.2.2.2.1) (fun q => ?_) (by unfold Bd.chg; rw [if_neg k1, if_pos k2])
    unfold drE at q ⊢
    split at q
    · cases q
    rename_i z
    rw [if_neg z]
    have hs := wo_sub b.l (idI b.l c.2.2.2.1).toNat
    exact ⟨ents_mk (ents_sub gd hs), Nat.le_succ_of_le hs.length_le, fun x hx => .inl ⟨x, hs.subset hx, rfl⟩⟩
  by_cases k3 : c.2.1 = 3
  · by_cases z : idI b.l c.2.2.2.1 < 0
    · refine .inl ?_
      unfold Bd.chg
      rw [if_neg k1, if_neg k2, if_pos k3, if_pos z]
      exact ⟨by show (9 : Int) ≠ 0; decide, rfl⟩
    · exact sL _ (mv _) (by unfold Bd.chg; rw [if_neg k1, if_neg k2, if_pos k3, if_neg z])
  by_cases k4 : c.2.1 = 4
  · exact sL _ (mv _) (by unfold Bd.chg; rw [if_neg k1, if_neg k2, if_neg k3, if_pos k4])
  refine .inr (.inl ?_)
  unfold Bd.chg
  rw [if_neg k1, if_neg k2, if_neg k3, if_neg k4]
  exact ⟨rfl, _, rfl⟩
/-- The changes of a moment. -/
def chgsL (now : Int) : List Change → Nat → Bd → List Change × Nat × Bd
  | [], i, b => ([], i, b)
  | y :: r, i, b => if y.1 = now then chgsL now r (i + 1) (b.made y i) else (y :: r, i, b)
/-- The next moment at which something is. -/
def nextL (up : List Span) (until' now : Int) (b : Bd) : Int := match b.l with
  | [] => until' + 1
  | x :: _ => if (since up (max x.2.1 now)).2 = true then min (until' + 1) (since up (max x.2.1 now)).1 else until' + 1
def nextT (up : List Span) (until' : Int) (rest : List Change) (now : Int) (b : Bd) : Int := match rest with
  | [] => nextL up until' now b
  | y :: _ => min (nextL up until' now b) y.1
def upB (up : List Span) (n : Int) : Bool := (since up n).2 && decide ((since up n).1 = n)
def Bd.turnsIf (fs : List Fact) (up : List Span) (late n : Int) (b : Bd) : Bd := if upB up n = true then b.turns fs late n else b
/-- The run, with so many steps at most. -/
def runR (fs : List Fact) (up : List Span) (late until' : Int) : Nat → List Change → Nat → Int → Bd → Bd
  | 0, _, _, _, b => b
  | k + 1, rest, i, now, b => if until' < nextT up until' rest now b then b else
    runR fs up late until' k (chgsL (nextT up until' rest now b) rest i b).1 (chgsL (nextT up until' rest now b) rest i b).2.1 (nextT up until' rest now b) ((chgsL (nextT up until' rest now b) rest i b).2.2.turnsIf fs up late (nextT up until' rest now b))
def mu (rest : List Change) (b : Bd) : Nat := rest.length * 3000 + b.l.length
/-- What stays so while a schedule is run. -/
structure RI (rest : List Change) (i : Nat) (now : Int) (b : Bd) : Prop where
  ok : entsE b.l = 0
  chs : ∀ y ∈ rest, chE y = 0
  ord : rest.Pairwise fun x y => x.1 ≤ y.1
  out : b.out.length + b.l.length + rest.length ≤ 2000
  did : b.did.length ≤ b.out.length
  ref : b.ref.length + rest.length ≤ 1000
  why : b.why.length = b.ref.length
  num : i + rest.length ≤ 1000
  now0 : 0 ≤ now
theorem RI.bnd {rest : List Change} {i : Nat} {now : Int} {b : Bd} (h : RI rest i now b) : Bnd b :=
  ⟨fun x hx => entE_at ((ents_ok h.ok).each x hx), by have := h.out; omega, h.did⟩
theorem RI.made {y : Change} {rest : List Change} {i : Nat} {now : Int} {b : Bd} (h : RI (y :: rest) i now b) : RI rest (i + 1) now (b.made y i) := by
  have h4 := h.out
  have h6 := h.ref
  have h7 := h.num
  rw [List.length_cons] at h4 h6 h7
  have hcs : ∀ z ∈ rest, chE z = 0 := fun z hz => h.chs z (List.mem_cons_of_mem _ hz)
  have hor := (List.pairwise_cons.1 h.ord).2
  have hw := h.why
  unfold Bd.made
  rcases chg_cases (b := b) (c := y) h.ok (h.chs y (by simp)) with ⟨q, e⟩ | ⟨q, o, e⟩ | ⟨q, m, e, m1, m2, m3⟩
  · rw [if_neg q]
    exact ⟨h.ok, hcs, hor, by show b.out.length + b.l.length + _ ≤ _; omega, h.did, by simp; omega, by simp; omega, by omega, h.now0⟩
  · rw [if_pos q, e]
    exact ⟨h.ok, hcs, hor, by show b.out.length + b.l.length + _ ≤ _; omega, h.did, by show b.ref.length + _ ≤ _; omega, h.why, by omega, h.now0⟩
  · rw [if_pos q, e]
    exact ⟨m1, hcs, hor, by show b.out.length + m.length + _ ≤ _; omega, h.did, by show b.ref.length + _ ≤ _; omega, h.why, by omega, h.now0⟩
theorem RI.chgs : ∀ {rest : List Change} {i : Nat} {now : Int} {b : Bd} (n : Int), RI rest i now b → RI (chgsL n rest i b).1 (chgsL n rest i b).2.1 now (chgsL n rest i b).2.2
  | [], i, now, b, n, h => h
  | y :: r, i, now, b, n, h => by
    unfold chgsL
    split
    · exact RI.chgs n h.made
    · exact h
theorem RI.turn {rest : List Change} {i : Nat} {now : Int} {b : Bd} (h : RI rest i now b) {fs : List Fact} {late at' : Int} {x : Entry} {r : List Entry} (hl : b.l = x :: r) : RI rest i now (b.turn fs late at' x r) := by
  have hb := h.bnd.turn (fs := fs) (late := late) (at' := at') hl
  have ho := h.out
  rw [hl, List.length_cons] at ho
  refine ⟨?_, h.chs, h.ord, ?_, hb.did, h.ref, h.why, h.num, h.now0⟩
  · have hs : r.Sublist b.l := by rw [hl]; exact List.sublist_cons_self _ _
    exact ents_mk (ents_sub (ents_ok h.ok) hs)
  · show (b.out ++ [_]).length + r.length + _ ≤ _
    rw [List.length_append, List.length_singleton]
    omega
theorem RI.turnsN {rest : List Change} {i : Nat} {now : Int} {fs : List Fact} {late at' : Int} : ∀ (n : Nat) {b : Bd}, RI rest i now b → RI rest i now (Bd.turnsN fs late at' n b)
  | 0, b, h => h
  | n + 1, b, h => by
    rcases hl : b.l with _ | ⟨x, r⟩
    · rw [turnsN_nil hl]; exact h
    · by_cases hx : x.2.1 ≤ at'
      · rw [turnsN_go hl hx]; exact RI.turnsN n (h.turn hl)
      · rw [turnsN_stop hl hx]; exact h
theorem RI.turnsIf {rest : List Change} {i : Nat} {now : Int} {b : Bd} (h : RI rest i now b) (fs : List Fact) (up : List Span) (late n : Int) : RI rest i now (b.turnsIf fs up late n) := by
  unfold Bd.turnsIf
  split
  · exact h.turnsN _
  · exact h
theorem RI.at {rest : List Change} {i : Nat} {now n : Int} {b : Bd} (h : RI rest i now b) (hn : 0 ≤ n) : RI rest i n b := ⟨h.ok, h.chs, h.ord, h.out, h.did, h.ref, h.why, h.num, hn⟩
end Go.Proofs.P6
end
section
set_option linter.unusedVariables false
set_option linter.unusedSimpArgs false
namespace Go.Proofs.P6
open Go.Ex
/-- Spans that end behind their beginning. -/
def SpOk (up : List Span) : Prop := ∀ s ∈ up, s.1 < s.2
theorem since_ge {l : List Span} {n : Int} (h : (since l n).2 = true) : n ≤ (since l n).1 := by
  unfold since at h ⊢
  split
  · simp; omega
  · rename_i q; rw [q] at h; cases h
/-- From a moment at which it is so on, it is so. -/
theorem since_mid : ∀ {up : List Span}, SpOk up → ∀ {m n : Int}, m ≤ n → (since up m).2 = true → n ≤ (since up m).1 → since up n = since up m
  | [], _, _, _, _, h, _ => by cases h
  | s :: up, ho, m, n, hmn, h, hn => by
    have hs := ho s (by simp)
    by_cases q : m < s.2
    · have e : since (s :: up) m = (max m s.1, true) := by unfold since; simp [q]
      rw [e] at hn ⊢
      simp only at hn
      have q2 : n < s.2 := by omega
      have e2 : since (s :: up) n = (max n s.1, true) := by unfold since; simp [q2]
      rw [e2]
      congr 1
      omega
    · have q2 : ¬ n < s.2 := by omega
      have e : since (s :: up) m = since up m := by unfold since; simp [q]
      have e2 : since (s :: up) n = since up n := by unfold since; simp [q2]
      rw [e] at h hn
      rw [e, e2]
      exact since_mid (fun x hx => ho x (by simp [hx])) hmn h hn
theorem since_up {up : List Span} (ho : SpOk up) {m : Int} (h : (since up m).2 = true) : upB up (since up m).1 = true := by
  have := since_mid ho (since_ge h) h (Int.le_refl _)
  unfold upB
  rw [this, h]
  simp
theorem upB_since {up : List Span} {n : Int} (h : upB up n = true) : since up n = (n, true) := by
  unfold upB at h
  simp only [Bool.and_eq_true, decide_eq_true_eq] at h
  exact Prod.ext h.2 h.1
section
variable {fs : List Fact} {up : List Span} {late until' : Int}
theorem chgsL_len (n : Int) : ∀ (rest : List Change) (i : Nat) (b : Bd), (chgsL n rest i b).1.length ≤ rest.length
  | [], i, b => Nat.le_refl _
  | y :: r, i, b => by
    unfold chgsL
    split
    · exact Nat.le_succ_of_le (chgsL_len n r (i + 1) _)
    · exact Nat.le_refl _
theorem turnsN_len (at' : Int) : ∀ (n : Nat) (b : Bd), (Bd.turnsN fs late at' n b).l.length ≤ b.l.length
  | 0, b => Nat.le_refl _
  | n + 1, b => by
    rcases hl : b.l with _ | ⟨x, r⟩
    · rw [turnsN_nil hl, hl]; exact Nat.le_refl _
    · by_cases hx : x.2.1 ≤ at'
      · rw [turnsN_go hl hx]
        exact Nat.le_trans (turnsN_len at' n _) (by show r.length ≤ _; simp)
      · rw [turnsN_stop hl hx, hl]; exact Nat.le_refl _
theorem turns_less {at' : Int} {b : Bd} {x : Entry} {r : List Entry} (hl : b.l = x :: r) (hx : x.2.1 ≤ at') : (b.turns fs late at').l.length < b.l.length := by
  unfold Bd.turns
  have : b.l.length = r.length + 1 := by rw [hl]; rfl
  rw [this, turnsN_go hl hx]
  exact Nat.lt_succ_of_le (turnsN_len (fs := fs) (late := late) at' r.length (b.turn fs late at' x r))
theorem turnsIf_len (n : Int) (b : Bd) : (b.turnsIf fs up late n).l.length ≤ b.l.length := by
  unfold Bd.turnsIf
  split
  · exact turnsN_len _ _ _
  · exact Nat.le_refl _
/-- Where the next moment comes of. -/
theorem nextT_cases {rest : List Change} {now : Int} {b : Bd} (h : nextT up until' rest now b ≤ until') : (∃ y r, rest = y :: r ∧ nextT up until' rest now b = y.1) ∨
    (∃ x r, b.l = x :: r ∧ (since up (max x.2.1 now)).2 = true ∧ nextT up until' rest now b = (since up (max x.2.1 now)).1 ∧ ∀ y r, rest = y :: r → (since up (max x.2.1 now)).1 < y.1) := by
  have hL : ∀ m, nextL up until' now b = m → m ≤ until' → ∃ x r, b.l = x :: r ∧ (since up (max x.2.1 now)).2 = true ∧ m = (since up (max x.2.1 now)).1 := by
    intro m hm hle
    unfold nextL at hm
    rcases hl : b.l with _ | ⟨x, r⟩
    · rw [hl] at hm; simp only at hm; omega
    · rw [hl] at hm
      simp only at hm
      split at hm
      · rename_i q
        exact ⟨x, r, rfl, q, by omega⟩
      · omega
  unfold nextT at h ⊢
  rcases rest with _ | ⟨y, r⟩
  · simp only at h ⊢
    obtain ⟨x, r, h1, h2, h3⟩ := hL _ rfl h
    exact .inr ⟨x, r, h1, h2, h3, fun y r h => by cases h⟩
  · simp only at h ⊢
    by_cases q : y.1 ≤ nextL up until' now b
    · exact .inl ⟨y, r, rfl, by omega⟩
    · obtain ⟨x, r', h1, h2, h3⟩ := hL _ rfl (by omega)
      refine .inr ⟨x, r', h1, h2, by omega, fun y' r'' e => ?_⟩
      injection e with e1 e2
      subst e1
      omega
theorem nextT_ge {rest : List Change} {now : Int} {b : Bd} (hr : ∀ y ∈ rest, now ≤ y.1) (hu : now ≤ until' + 1) : now ≤ nextT up until' rest now b := by
  have hL : now ≤ nextL up until' now b := by
    unfold nextL
    split
    · exact hu
    · split
      · rename_i q
        have := since_ge q
        omega
      · exact hu
  unfold nextT
  split
  · exact hL
  · rename_i y r
    have := hr y (by simp)
    omega
/-- What is left of the changes comes later. -/
theorem chgsL_later (n : Int) : ∀ {rest : List Change} {i : Nat} {b : Bd}, (rest.Pairwise fun x y => x.1 ≤ y.1) → (∀ y ∈ rest, n ≤ y.1) → ∀ y ∈ (chgsL n rest i b).1, n < y.1
  | [], i, b, _, _, y, hy => by cases hy
  | z :: r, i, b, ho, hr, y, hy => by
    unfold chgsL at hy
    split at hy
    · exact chgsL_later n (List.pairwise_cons.1 ho).2 (fun y hy => hr y (by simp [hy])) y hy
    · rename_i q
      have h1 := hr z (by simp)
      rcases List.mem_cons.1 hy with rfl | hy
      · omega
      · have := (List.pairwise_cons.1 ho).1 y hy
        omega
theorem mu_less (ho : SpOk up) {rest : List Change} {i : Nat} {now : Int} {b : Bd} (hI : RI rest i now b) (h : ¬ until' < nextT up until' rest now b) (hr : ∀ y ∈ rest, now ≤ y.1) :
    mu (chgsL (nextT up until' rest now b) rest i b).1 ((chgsL (nextT up until' rest now b) rest i b).2.2.turnsIf fs up late (nextT up until' rest now b)) < mu rest b := by
  have hI2 := (hI.chgs (nextT up until' rest now b)).out
  have hlen := turnsIf_len (fs := fs) (up := up) (late := late) (nextT up until' rest now b) (chgsL (nextT up until' rest now b) rest i b).2.2
  unfold mu
  rcases nextT_cases (up := up) (until' := until') (rest := rest) (now := now) (b := b) (by omega) with ⟨y, r, rfl, e⟩ | ⟨x, r, hl, h1, e, h2⟩
  · have hc : chgsL (nextT up until' (y :: r) now b) (y :: r) i b = chgsL (nextT up until' (y :: r) now b) r (i + 1) (b.made y i) := by
      rw [e]
      show (if y.1 = y.1 then _ else _) = _
      rw [if_pos rfl]
    have := chgsL_len (nextT up until' (y :: r) now b) r (i + 1) (b.made y i)
    rw [← hc] at this
    rw [List.length_cons]
    omega
  · have hc : chgsL (nextT up until' rest now b) rest i b = (rest, i, b) := by
      rcases rest with _ | ⟨y, r'⟩
      · rfl
      · have := h2 y r' rfl
        unfold chgsL
        rw [if_neg (by omega)]
    rw [hc] at hlen ⊢
    simp only at hlen ⊢
    have hx : x.2.1 ≤ nextT up until' rest now b := by
      have := since_ge h1
      omega
    have hu : upB up (nextT up until' rest now b) = true := by rw [e]; exact since_up ho h1
    have hlt := turns_less (fs := fs) (late := late) (at' := nextT up until' rest now b) hl hx
    have ht : b.turnsIf fs up late (nextT up until' rest now b) = b.turns fs late (nextT up until' rest now b) := by unfold Bd.turnsIf; rw [if_pos hu]
    rw [ht]
    omega
end
end Go.Proofs.P6
end
section
set_option linter.unusedVariables false
set_option linter.unusedSimpArgs false
set_option maxRecDepth 10000
set_option maxHeartbeats 8000000
namespace Go.Proofs.P6
open Go.Ex
/-- The check of what is run. -/
def rgE (n lo hi : Int) : Int := if inB n lo hi = false then 1 else 0
def upName : List UInt8 := [117, 112]
def errL (l : List Entry) (c : List Change) (f : List Fact) (up : List Span) (late until' : Int) : List Int := [entsE l, changesE c, factsE f, factsE [(upName, up)], rgE late 0 1000000000, rgE until' 0 1000000000000]
def runE (l : List Entry) (c : List Change) (f : List Fact) (up : List Span) (late until' : Int) : Int := fe (fsE (errL l c f up late until')) 6
theorem runE_zero {l : List Entry} {c : List Change} {f : List Fact} {up : List Span} {late until' : Int} (h : runE l c f up late until' = 0) : entsE l = 0 ∧ changesE c = 0 ∧ factsE f = 0 ∧ factsE [(upName, up)] = 0 ∧ (0 ≤ late ∧ late ≤ 1000000000) ∧ (0 ≤ until' ∧ until' ≤ 1000000000000) := by
  have z := fun k hk => fe_zero h k hk
  have z0 := z 0 (by decide)
  have z1 := z 1 (by decide)
  have z2 := z 2 (by decide)
  have z3 := z 3 (by decide)
  have z4 := z 4 (by decide)
  have z5 := z 5 (by decide)
  simp [fsE, errL] at z0 z1 z2 z3 z4 z5
  refine ⟨z0, z1, z2, z3, ?_, ?_⟩
  · unfold rgE at z4; simp [inB] at z4; omega
  · unfold rgE at z5; simp [inB] at z5; omega
theorem changes_ok0 {c : List Change} (h : changesE c = 0) : c.length ≤ 1000 ∧ (∀ y ∈ c, chE y = 0) ∧ c.Pairwise fun x y => x.1 ≤ y.1 := by
  unfold changesE at h
  split at h
  · cases h
  rename_i h1
  have hz := fun k hk => fe_zero h k hk
  have each : ∀ k (hk : k < c.length), chE c[k] = 0 ∧ (0 < k → c[k - 1].1 ≤ c[k].1) := by
    intro k hk
    have := hz k hk
    unfold changeE at this
    rw [List.getElem?_eq_getElem hk] at this
    simp only at this
    split at this
    · rename_i q; exact absurd this q
    rename_i q
    split at this
    · cases this
    rename_i q2
    refine ⟨by simpa using q, fun hp => ?_⟩
    rw [before_pos hp (List.getElem?_eq_getElem (by omega))] at q2
    simpa using q2
  refine ⟨by omega, fun y hy => ?_, ?_⟩
  · obtain ⟨k, hk, rfl⟩ := List.getElem_of_mem hy
    exact (each k hk).1
  · rw [List.pairwise_iff_getElem]
    intro i j hi hj hij
    induction j with
    | zero => omega
    | succ j ih =>
      have h2 := (each (j + 1) hj).2 (by omega)
      simp only [Nat.add_sub_cancel] at h2
      by_cases q : i = j
      · subst q; exact h2
      · have := ih (by omega) (by omega)
        omega
theorem spOk_of {up : List Span} (h : factsE [(upName, up)] = 0) : up.length ≤ 200 ∧ SpOk up := by
  obtain ⟨h1, h2⟩ := (facts_small h).2 (upName, up) (by simp)
  refine ⟨h1, fun s hs => ?_⟩
  obtain ⟨k, hk, rfl⟩ := List.getElem_of_mem hs
  have := fe_zero h2 k hk
  unfold spE at this
  rw [List.getElem?_eq_getElem hk] at this
  simp only at this
  split at this
  · cases this
  split at this
  · cases this
  · omega
section
variable {fs : List Fact} {up : List Span} {late : Int} {h h5 h6 : Hp} {nx nx5 nx6 rid : Nat} {b : Bd} {lv ov dv rv wv : V} {oid tid : Nat} {tag : Nat → Nat}
theorem BX.pushRW (x : BX fs up late h nx rid b lv ov dv rv wv oid tid tag) {rv' wv' : V} {y z : Int} (n5 : nx ≤ nx5) (a5 : Acc (Cd.int .i64) h5 nx5 rv' (b.ref ++ [y])) (f5 : ∀ j, j < nx → ownOf rv ≠ some j → h5 j = h j) (o5 : ∀ j, ownOf rv' = some j → ownOf rv = some j ∨ nx ≤ j)
    (n6 : nx5 ≤ nx6) (a6 : Acc (Cd.int .i64) h6 nx6 wv' (b.why ++ [z])) (f6 : ∀ j, j < nx5 → ownOf wv ≠ some j → h6 j = h5 j) (o6 : ∀ j, ownOf wv' = some j → ownOf wv = some j ∨ nx5 ≤ j) :
    BX fs up late (upd (upd h6 rid (bdC fs up late lv ov dv rv' wv oid tid)) rid (bdC fs up late lv ov dv rv' wv' oid tid)) nx6 rid { b with ref := b.ref ++ [y], why := b.why ++ [z] } lv ov dv rv' wv' oid tid (fun j => if nx5 ≤ j then 7 else if nx ≤ j then 6 else tag j) := by
  have x1 := x.pushR n5 a5 f5 o5
  have hl := x.lr
  refine x1.pushW n6 (a6.keep (Nat.le_refl _) fun j _ hj => ?_) (fun j hj hne => ?_) o6
  · have : j ≠ rid := by
      rcases o6 j hj with q | q
      · exact own_ne x.tw x.tr (by decide) j q
      · omega
    simp only [upd]
    rw [if_neg this]
  · simp only [upd]
    split
    · rfl
    · exact f6 j hj hne
def CHI (fs : List Fact) (up : List Span) (late until' : Int) (c : List Change) (nx rid : Nat) (n : Int) (R : List Change × Nat × Bd) (k : Nat) (t : St) : Prop := ∃ i b lv ov dv rv wv oid tid tag, BX fs up late t.h t.nx rid b lv ov dv rv wv oid tid tag ∧
  t.t 1 = .ro c.length (fl chCd c) ∧ t.t 3 = rSp up ∧ t.t 5 = .int .i64 until' ∧ t.t 15 = .pt rid 0 0 ∧ t.t 16 = .int .i64 (i : Nat) ∧ t.t 17 = .int .i64 n ∧ (c.drop i).length = k ∧ chgsL n (c.drop i) i b = R ∧ RI (c.drop i) i n b ∧ nx ≤ t.nx
end
theorem chgs_walk {fs : List Fact} {up : List Span} {late until' : Int} {c : List Change} {nx rid : Nat} {n : Int} {R : List Change × Nat × Bd} {k0 : Nat} {t0 : St} {Q : E → St → Prop} (h0 : CHI fs up late until' c nx rid n R k0 t0) (hc : c.length ≤ 1000)
    (hend : ∀ t i b lv ov dv rv wv oid tid tag, BX fs up late t.h t.nx rid b lv ov dv rv wv oid tid tag → R = (c.drop i, i, b) → t.t 1 = .ro c.length (fl chCd c) → t.t 3 = rSp up → t.t 5 = .int .i64 until' → t.t 15 = .pt rid 0 0 → t.t 16 = .int .i64 (i : Nat) → t.t 17 = .int .i64 n → RI (c.drop i) i n b → nx ≤ t.nx → Q (.exit 2) t) : LP Try.prog l96_0 Q t0 ⟨⟩ ⟨⟩ := by
  have e62 := Go.Ex.e62
  have e47 := Go.Ex.e47
  refine loop_dec (CHI fs up late until' c nx rid n R) k0 h0 (fun k t hI => ?_)
  obtain ⟨i, b, lv, ov, dv, rv, wv, oid, tid, tag, hX, i1, i3, i5, i15, i16, i17, hk, hR, hI, hn⟩ := hI
  have hr := hX.r
  have hnum := hI.num
  have endQ : ∀ t' : St, t'.h = t.h → t'.nx = t.nx → R = (c.drop i, i, b) → t'.t 1 = .ro c.length (fl chCd c) → t'.t 3 = rSp up → t'.t 5 = .int .i64 until' → t'.t 15 = .pt rid 0 0 → t'.t 16 = .int .i64 (i : Nat) → t'.t 17 = .int .i64 n → Q (.exit 2) t' := fun t' e1 e2 e3 e4 e5 e6 e7 e8 e9 => hend t' i b lv ov dv rv wv oid tid tag (by rw [e1, e2]; exact hX) e3 e4 e5 e6 e7 e8 e9 hI (by rw [e2]; exact hn)
  unfold l96_0
  rcases hd : c.drop i with _ | ⟨y, r⟩
  · have hi : ¬ i < c.length := by
      have := List.drop_eq_nil_iff.1 hd
      omega
    simp -dsimp [i1, i16, hi]
    exact endQ _ rfl rfl (by rw [← hR, hd]; rfl) (by simp -dsimp [i1]) (by simp -dsimp [i3]) (by simp -dsimp [i5]) (by simp -dsimp [i15]) (by simp -dsimp [i16]) (by simp -dsimp [i17])
  have hi : i < c.length := by
    apply Classical.byContradiction
    intro q
    rw [List.drop_eq_nil_iff.2 (by omega)] at hd
    cases hd
  have hg : c[i]? = some y := by
    have : (c.drop i)[0]? = some y := by rw [hd]; rfl
    rwa [List.getElem?_drop, Nat.add_zero] at this
  have hdr : c.drop (i + 1) = r := by
    have : (c.drop i).drop 1 = r := by rw [hd]; rfl
    rwa [List.drop_drop] at this
  by_cases hy : y.1 = n
  rotate_left
  · simp -dsimp [i1, i16, i17, hi, ch_ia hg, ch_l0 hg, hy]
    exact endQ _ rfl rfl (by rw [← hR, hd]; show (if y.1 = n then _ else _) = _; rw [if_neg hy]) (by simp -dsimp [i1]) (by simp -dsimp [i3]) (by simp -dsimp [i5]) (by simp -dsimp [i15]) (by simp -dsimp [i16]) (by simp -dsimp [i17])
  have hRI := hI
  rw [hd] at hRI hR hk
  rw [List.length_cons] at hk
  have hR' : chgsL n r (i + 1) (b.made y i) = R := by
    rw [← hR]
    show _ = (if y.1 = n then _ else _)
    rw [if_pos hy]
  have hce := hRI.chs y (by simp)
  have hm := hRI.made
  have slc : (chV y).length = 11 := rfl
  have hwi : IntKind.i64.wrap ((i : Int) + 1) = (i : Int) + 1 := IntWalk.i64_in _ (by omega)
  have fin : ∀ (t' : St), (∃ lv ov dv rv wv oid tid tag, BX fs up late t'.h t'.nx rid (b.made y i) lv ov dv rv wv oid tid tag) → t'.t 1 = .ro c.length (fl chCd c) → t'.t 3 = rSp up → t'.t 5 = .int .i64 until' → t'.t 15 = .pt rid 0 0 → t'.t 16 = .int .i64 ((i : Int) + 1) → t'.t 17 = .int .i64 n → nx ≤ t'.nx → ∃ m, m < k ∧ CHI fs up late until' c nx rid n R m t' := by
    rintro t' ⟨lv, ov, dv, rv, wv, oid, tid, tag, hX⟩ e1 e3 e5 e15 e16 e17 hn'
    exact ⟨r.length, by omega, i + 1, _, lv, ov, dv, rv, wv, oid, tid, tag, hX, e1, e3, e5, e15, by rw [e16]; rfl, e17, by rw [hdr], by rw [hdr]; exact hR', by rw [hdr]; exact hm, hn'⟩
  simp -dsimp [i1, i15, i16, i17, hi, ch_ia hg, ch_l0 hg, ch_ld hg, hy]
  refine shr_ex (change_ok hX hI.ok y hce) ?_
  rintro v h4 nx4 ⟨rfl, q1, lv4, ov4, dv4, rv4, wv4, oid4, tid4, tag4, hX4⟩
  unfold Bd.made at fin
  by_cases z : (b.chg y).2 = 0
  · rw [if_pos z] at fin
    simp -dsimp [z, i16, hwi]
    exact fin _ ⟨lv4, ov4, dv4, rv4, wv4, oid4, tid4, tag4, hX4⟩ (by simp -dsimp [i1]) (by simp -dsimp [i3]) (by simp -dsimp [i5]) (by simp -dsimp [i15]) (by simp -dsimp [i16, hwi]) (by simp -dsimp [i17]) (by show nx ≤ nx4; omega)
  rw [if_neg z] at fin
  have hbc : (b.chg y).1 = b := by
    rcases chg_cases hI.ok hce with ⟨_, e⟩ | ⟨q, _⟩ | ⟨q, _⟩
    · exact e
    · exact absurd q z
    · exact absurd q z
  rw [hbc] at hX4
  generalize (b.chg y).2 = e at *
  have hr4 := hX4.r
  have hl4 := hX4.lr
  have nr4 : ¬ rid = nx4 := by omega
  have nr4' : ¬ nx4 = rid := by omega
  simp -dsimp [z, i15, i16, hr4, cfB, disj, nr4, nr4', fillA, fillS]
  have har : Acc (Cd.int .i64) h4 nx4 rv4 b.ref := hX4.ar
  have haw : Acc (Cd.int .i64) h4 nx4 wv4 b.why := hX4.aw
  have hrl := hI.ref
  have hwl := hI.why
  refine push_accW (d := Cd.int .i64) (x := (i : Int)) har rfl rfl (by omega) (by omega) fun rv' h5 nx5 j5 b1 b2 b3 b4 b5 b6 => ?_
  obtain ⟨s1, s2⟩ := acc_st b1
  have hr5 : h5 rid = bdC fs up late lv4 ov4 dv4 rv4 wv4 oid4 tid4 := by rw [b3 rid hl4 (fun e => by have := hX4.tR _ e; rw [hX4.tr] at this; cases this)]; exact hr4
  have nrj : ¬ rid = j5 := fun e => by
    rcases b5 with q | q
    · have := hX4.tR _ q; rw [← e, hX4.tr] at this; cases this
    · omega
  have nrj' : ¬ j5 = rid := fun e => nrj e.symm
  have n45 : ¬ nx4 = nx5 := by omega
  have n45' : ¬ nx5 = nx4 := by omega
  have nr5 : ¬ rid = nx5 := by omega
  have nr5' : ¬ nx5 = rid := by omega
  have hj5 : j5 < nx5 := b1.own b6
  have nj5 : ¬ j5 = nx5 := by omega
  have nj5' : ¬ nx5 = j5 := by omega
  have haw5 : Acc (Cd.int .i64) h5 nx5 wv4 b.why := haw.keep (by omega) fun j hj ho => b3 j hj (own_ne2 hX4.tw hX4.tR (by decide) j ho)
  simp -dsimp [i15, i16, hr5, cfB, disj, nr4, nr4', nrj, nrj', n45, n45', nr5, nr5', nj5, nj5', fillA, fillS]
  refine push_accW (esz := 1) (bytes := 8) (d := Cd.int .i64) (x := e) haw5 rfl rfl (by omega) (by omega) fun wv' h6 nx6 j6 c1 c2 c3 c4 c5 c6 => ?_
  obtain ⟨u1, u2⟩ := acc_st c1
  have hr6 : h6 rid = bdC fs up late lv4 ov4 dv4 rv4 wv4 oid4 tid4 := by rw [c3 rid (by omega) (fun e => by have := hX4.tw _ e; rw [hX4.tr] at this; cases this)]; exact hr5
  have hX6 := hX4.pushRW (by omega) b1 b3 b4 (by omega) c1 c3 c4
  simp -dsimp [-V.cells, -V.storable, i15, i16, hr6, cfB, s1, s2, u1, u2, hwi]
  exact fin _ ⟨lv4, ov4, dv4, rv', wv', oid4, tid4, _, hX6⟩ (by simp -dsimp [i1]) (by simp -dsimp [i3]) (by simp -dsimp [i5]) (by simp -dsimp [i15]) (by simp -dsimp [i16, hwi]) (by simp -dsimp [i17]) (by show nx ≤ nx6; omega)
end Go.Proofs.P6
end
section
set_option linter.unusedVariables false
set_option linter.unusedSimpArgs false
set_option maxRecDepth 10000
set_option maxHeartbeats 8000000
namespace Go.Proofs.P6
open Go.Ex
def Cut (I : St → Prop) (e : E) (s : St) : Prop := e = .norm ∧ I s
theorem W_cut {P : Program} {A B : Cmd} {Q : E → St → Prop} {s : St} (I : St → Prop) (h1 : W P A (Cut I) s ⟨⟩ ⟨⟩) (h2 : ∀ s', I s' → W P B Q s' ⟨⟩ ⟨⟩) : W P (.seq A B) Q s ⟨⟩ ⟨⟩ := by
  rw [wpA_seq]
  refine wpA_mono A (fun e s' he => ?_) h1
  obtain ⟨rfl, hI⟩ := he
  exact h2 s' hI
/-- The registers of a run. -/
structure RG (c : List Change) (up : List Span) (until' : Int) (rid i : Nat) (now : Int) (t : St) : Prop where
  r1 : t.t 1 = .ro c.length (fl chCd c)
  r3 : t.t 3 = rSp up
  r5 : t.t 5 = .int .i64 until'
  r15 : t.t 15 = .pt rid 0 0
  r16 : t.t 16 = .int .i64 (i : Nat)
  r17 : t.t 17 = .int .i64 now
structure N18 (c : List Change) (up : List Span) (until' : Int) (rid i : Nat) (now : Int) (n : Int) (t s : St) : Prop where
  h : s.h = t.h
  nx : s.nx = t.nx
  g : RG c up until' rid i now s
  r18 : s.t 18 = .int .i64 n
/-- What is so at the beginning of a step. -/
structure OI (fs : List Fact) (up : List Span) (late until' : Int) (c : List Change) (nx rid : Nat) (B : Bd) (k : Nat) (t : St) : Prop where
  ex : ∃ i now b lv ov dv rv wv oid tid tag, BX fs up late t.h t.nx rid b lv ov dv rv wv oid tid tag ∧ RG c up until' rid i now t ∧ RI (c.drop i) i now b ∧ (∀ y ∈ c.drop i, now ≤ y.1) ∧ now ≤ until' ∧ mu (c.drop i) b = k ∧ (∃ fuel, k < fuel ∧ runR fs up late until' fuel (c.drop i) i now b = B) ∧ nx ≤ t.nx
/-- How a run ends. -/
def RQ (fs : List Fact) (up : List Span) (late : Int) (B : Bd) (nx : Nat) : V → Hp → Nat → Prop := fun v h' nx' => ∃ rid lv ov dv rv wv oid tid tag, v = .tup [.pt rid 0 0, .int .i64 0] ∧ nx ≤ nx' ∧ BX fs up late h' nx' rid B lv ov dv rv wv oid tid tag ∧ (B.l = [] → lv = .em) ∧ (B.l ≠ [] → ∃ id, lv = .sl id 0 0 B.l.length none ∧ h' id = some ⟨0, 6, fl entCd B.l, none⟩)
theorem step_walk {fs : List Fact} {up : List Span} {late until' : Int} {c : List Change} {nx rid : Nat} {B : Bd} {k : Nat} {t : St} {Q : E → St → Prop} (hI : OI fs up late until' c nx rid B k t) (hF : factsE fs = 0) (hup : up.length ≤ 200 ∧ SpOk up) (hu : 0 ≤ until' ∧ until' ≤ 1000000000000) (hc : c.length ≤ 1000)
    (hret : ∀ s, RQ fs up late B nx (resV [12, 13] s.t) s.h s.nx → Q .ret s) (hgo : ∀ s, (∃ m, m < k ∧ OI fs up late until' c nx rid B m s) → Q .norm s) : W Try.prog l96_1 Q t ⟨⟩ ⟨⟩ := by
  have e62 := Go.Ex.e62
  have e47 := Go.Ex.e47
  obtain ⟨i, now, b, lv, ov, dv, rv, wv, oid, tid, tag, hX, hG, hR, hcn, hnu, hk, ⟨fuel, hfu, hB⟩, hn⟩ := hI.ex
  have hr := hX.r
  have hlen := hX.al.len
  have hnum := hR.num
  obtain ⟨r1, r3, r5, r15, r16, r17⟩ := hG
  have hwu : IntKind.i64.wrap (until' + 1) = until' + 1 := IntWalk.i64_in _ (by omega)
  unfold l96_1
  rw [wpA_block]
  refine W_cut (N18 c up until' rid i now (until' + 1) t) ?_ fun s0 h0 => ?_
  · simp -dsimp [r5, hwu]
    exact ⟨rfl, rfl, rfl, ⟨by simp -dsimp [r1], by simp -dsimp [r3], by simp -dsimp [r5], by simp -dsimp [r15], by simp -dsimp [r16], by simp -dsimp [r17]⟩, by simp -dsimp⟩
  refine W_cut (N18 c up until' rid i now (nextL up until' now b) t) ?_ fun s1 h1 => ?_
  · obtain ⟨g1, g2, ⟨q1, q3, q5, q15, q16, q17⟩, q18⟩ := h0
    rcases hl : b.l with _ | ⟨x, r⟩
    · rw [hl] at hlen
      have hz : nextL up until' now b = until' + 1 := by unfold nextL; rw [hl]
      simp -dsimp [q15, g1, hr, hlen]
      exact ⟨rfl, rfl, g2, ⟨by simp -dsimp [q1], by simp -dsimp [q3], by simp -dsimp [q5], by simp -dsimp [q15], by simp -dsimp [q16], by simp -dsimp [q17]⟩, by simp -dsimp [q18, hz]⟩
    · have hg : b.l[0]? = some x := by rw [hl]; rfl
      obtain ⟨p, q, ids, f1, f2, f3, f4⟩ := hX.al.first hg
      simp only [faddrA] at f3
      have f1' : ∀ K, iaddrK t.h lv (.int .i64 0) 6 K ⟨⟩ = K p ids := fun K => f1 .i64 K
      have hpos : 0 < b.l.length := by rw [hl]; simp
      have hz : nextL up until' now b = if (since up (max x.2.1 now)).2 = true then min (until' + 1) (since up (max x.2.1 now)).1 else until' + 1 := by unfold nextL; rw [hl]
      simp -dsimp [q3, q15, q17, g1, hr, hlen, hpos, f1', f3, f4]
      refine call_pure (since_ok up (max x.2.1 now) (by omega)) (by simp) (by simp [V.pure, V.pureL]) ?_
      cases z : (since up (max x.2.1 now)).2 with
      | false =>
        rw [if_neg (by rw [z]; simp)] at hz
        simp -dsimp
        exact ⟨rfl, rfl, g2, ⟨by simp -dsimp [q1], by simp -dsimp [q3], by simp -dsimp [q5], by simp -dsimp [q15], by simp -dsimp [q16], by simp -dsimp [q17]⟩, by simp -dsimp [q18, hz]⟩
      | true =>
        rw [if_pos z] at hz
        simp -dsimp [q18]
        exact ⟨rfl, rfl, g2, ⟨by simp -dsimp [q1], by simp -dsimp [q3], by simp -dsimp [q5], by simp -dsimp [q15], by simp -dsimp [q16], by simp -dsimp [q17]⟩, by simp -dsimp [hz]⟩
  refine W_cut (N18 c up until' rid i now (nextT up until' (c.drop i) now b) t) ?_ fun s2 h2 => ?_
  · obtain ⟨g1, g2, ⟨q1, q3, q5, q15, q16, q17⟩, q18⟩ := h1
    rcases hd : c.drop i with _ | ⟨y, r⟩
    · have hi : ¬ i < c.length := by
        have := List.drop_eq_nil_iff.1 hd
        omega
      have hz : nextT up until' [] now b = nextL up until' now b := rfl
      simp -dsimp [q1, q16, hi]
      exact ⟨rfl, g1, g2, ⟨by simp -dsimp [q1], by simp -dsimp [q3], by simp -dsimp [q5], by simp -dsimp [q15], by simp -dsimp [q16], by simp -dsimp [q17]⟩, by simp -dsimp [q18, hz]⟩
    · have hi : i < c.length := by
        apply Classical.byContradiction
        intro q
        rw [List.drop_eq_nil_iff.2 (by omega)] at hd
        cases hd
      have hg : c[i]? = some y := by
        have : (c.drop i)[0]? = some y := by rw [hd]; rfl
        rwa [List.getElem?_drop, Nat.add_zero] at this
      have hz : nextT up until' (y :: r) now b = min (nextL up until' now b) y.1 := rfl
      simp -dsimp [q1, q16, q18, hi, ch_ia hg, ch_l0 hg]
      exact ⟨rfl, g1, g2, ⟨by simp -dsimp [q1], by simp -dsimp [q3], by simp -dsimp [q5], by simp -dsimp [q15], by simp -dsimp [q16], by simp -dsimp [q17]⟩, by simp -dsimp [hz]⟩
  obtain ⟨g1, g2, ⟨q1, q3, q5, q15, q16, q17⟩, q18⟩ := h2
  have hml : fuel = (fuel - 1) + 1 := by omega
  rw [hml] at hB
  by_cases z : until' < nextT up until' (c.drop i) now b
  · have hB' : B = b := by
      rw [← hB]
      unfold runR
      rw [if_pos z]
    rw [hB'] at hret
    have hro := hX.al.ro
    have nrt : ¬ rid = t.nx := by have := hX.lr; omega
    by_cases hne : b.l = []
    · have hce : OkF Try.prog 132 [rE b.l] (.em, []) := by rw [hne]; exact clone_empty hm h132
      simp -dsimp [q18, q5, q15, z, g1, hr, hro]
      refine call_own hce (by simp [okRes, roFree]) ?_
      have hX2 := hX.setL (Nat.le_refl _) (fun j _ => rfl) (lv' := .em) (l' := b.l) (.inr (.inr ⟨hne, rfl⟩)) (fun j hj => by cases hj)
      simp -dsimp [shift, shiftL, addB, q15, hr, V.cells, V.storable]
      exact hret _ ⟨rid, _, _, _, _, _, _, _, _, by simp [resV], by show nx ≤ s2.nx; omega, by rw [g2]; exact hX2, fun _ => rfl, fun q => absurd hne q⟩
    · have hbl := ents_le hR.ok
      simp -dsimp [q18, q5, q15, z, g1, hr, hro]
      refine call_own (entClone b.l (by omega) hne) (by simp [okRes, roFree, ent_roFree]) ?_
      have hX2 := hX.setL (nx' := t.nx + 1) (h' := upd t.h t.nx (some ⟨0, 6, fl entCd b.l, none⟩)) (Nat.le_succ _) (fun j hj => by simp only [upd]; rw [if_neg (by omega)]) (lv' := .sl t.nx 0 0 b.l.length none) (l' := b.l) (.inl (Acc.mk (by omega) (upd_self _ _ _))) (fun j hj => by simp [ownOf] at hj; right; omega)
      rw [g2]
      simp -dsimp [shift, shiftL, addB, q15, hr, nrt, V.cells, V.storable]
      exact hret _ ⟨rid, _, _, _, _, _, _, _, _, by simp [resV], by show nx ≤ t.nx + 1; omega, hX2, fun q => absurd q hne, fun _ => ⟨t.nx, rfl, by simp [upd, show ¬ t.nx = rid from fun e => nrt e.symm]⟩⟩
  rw [show runR fs up late until' (fuel - 1 + 1) (c.drop i) i now b = runR fs up late until' (fuel - 1) (chgsL (nextT up until' (c.drop i) now b) (c.drop i) i b).1 (chgsL (nextT up until' (c.drop i) now b) (c.drop i) i b).2.1 (nextT up until' (c.drop i) now b) ((chgsL (nextT up until' (c.drop i) now b) (c.drop i) i b).2.2.turnsIf fs up late (nextT up until' (c.drop i) now b)) by
    show (if until' < nextT up until' (c.drop i) now b then b else _) = _
    rw [if_neg z]] at hB
  have hnge := nextT_ge (up := up) (until' := until') (b := b) hcn (by omega)
  have hnow := hR.now0
  have hRn := hR.at (n := nextT up until' (c.drop i) now b) (by omega)
  have hRc := hRn.chgs (nextT up until' (c.drop i) now b)
  have hmu := mu_less (fs := fs) (late := late) hup.2 hR z hcn
  have hge : ∀ y ∈ c.drop i, nextT up until' (c.drop i) now b ≤ y.1 := fun y hy => by
    rcases hd : c.drop i with _ | ⟨y0, r⟩
    · rw [hd] at hy; cases hy
    · have h1 : nextT up until' (y0 :: r) now b ≤ y0.1 := by
        show min _ _ ≤ _
        omega
      rw [hd] at hy
      rcases List.mem_cons.1 hy with rfl | hy
      · exact h1
      · have ho := hR.ord
        rw [hd] at ho
        have := (List.pairwise_cons.1 ho).1 y hy
        omega
  have hlat := fun b0 => chgsL_later (nextT up until' (c.drop i) now b) (i := i) (b := b0) hR.ord hge
  generalize nextT up until' (c.drop i) now b = n at *
  simp -dsimp [q18, q5, z]
  refine chgs_walk (R := chgsL n (c.drop i) i b) (k0 := (c.drop i).length) (n := n) (rid := rid) (nx := nx) (c := c) (up := up) (until' := until') (fs := fs) (late := late) ⟨i, b, lv, ov, dv, rv, wv, oid, tid, tag, by simp -dsimp; rw [g1, g2]; exact hX, by simp -dsimp [q1], by simp -dsimp [q3], by simp -dsimp [q5], by simp -dsimp [q15], by simp -dsimp [q16], by simp -dsimp, rfl, rfl, hRn, by show nx ≤ s2.nx; omega⟩ hc ?_
  intro t4 i4 b4 lv4 ov4 dv4 rv4 wv4 oid4 tid4 tag4 hX4 hE e1 e3 e5 e15 e16 e17 hR4 hn4
  have hl4 := hlat b
  rw [hE] at hB hmu hl4
  simp only at hB hmu hl4
  have hn' : n ≤ until' := by omega
  simp -dsimp [e3, e17]
  refine call_pure (since_ok up n (by omega)) (by simp) (by simp [V.pure, V.pureL]) ?_
  by_cases u : upB up n = true
  · have hs := upB_since u
    have ht : b4.turnsIf fs up late n = b4.turns fs late n := by unfold Bd.turnsIf; rw [if_pos u]
    rw [ht] at hB hmu
    have hR5 := (RI.turnsIf hR4 fs up late n)
    rw [ht] at hR5
    rw [hs]
    simp -dsimp [e15, e17]
    refine shr_ex (turns_ok hX4 hF n (by omega) hR4.bnd) ?_
    rintro v h5 nx5 ⟨m1, lv5, ov5, dv5, rv5, wv5, oid5, tid5, tag5, hX5⟩
    simp -dsimp
    exact hgo _ ⟨_, by rw [hk] at hmu; exact hmu, ⟨i4, n, _, lv5, ov5, dv5, rv5, wv5, oid5, tid5, tag5, hX5, ⟨by simp -dsimp [e1], by simp -dsimp [e3], by simp -dsimp [e5], by simp -dsimp [e15], by simp -dsimp [e16], by simp -dsimp [e17]⟩, hR5, fun y hy => by have := hl4 y hy; omega, hn', rfl, ⟨fuel - 1, by omega, hB⟩, by show nx ≤ nx5; omega⟩⟩
  · have hf : b4.turnsIf fs up late n = b4 := by unfold Bd.turnsIf; rw [if_neg u]
    rw [hf] at hB hmu
    have goOn : ∀ s : St, s.h = t4.h → s.nx = t4.nx → RG c up until' rid i4 n s → Q .norm s := fun s w1 w2 w3 => hgo s ⟨_, by rw [hk] at hmu; exact hmu, ⟨i4, n, b4, lv4, ov4, dv4, rv4, wv4, oid4, tid4, tag4, by rw [w1, w2]; exact hX4, w3, hR4, fun y hy => by have := hl4 y hy; omega, hn', rfl, ⟨fuel - 1, by omega, hB⟩, by rw [w2]; exact hn4⟩⟩
    unfold upB at u
    cases w : (since up n).2 with
    | false =>
      simp -dsimp [e15, e17]
      exact goOn _ rfl rfl ⟨by simp -dsimp [e1], by simp -dsimp [e3], by simp -dsimp [e5], by simp -dsimp [e15], by simp -dsimp [e16], by simp -dsimp [e17]⟩
    | true =>
      have w2 : ¬ (since up n).1 = n := fun q => u (by rw [w, q]; simp)
      simp -dsimp [e15, e17, w2]
      exact goOn _ rfl rfl ⟨by simp -dsimp [e1], by simp -dsimp [e3], by simp -dsimp [e5], by simp -dsimp [e15], by simp -dsimp [e16], by simp -dsimp [e17]⟩
end Go.Proofs.P6
end
section
set_option linter.unusedVariables false
set_option linter.unusedSimpArgs false
set_option maxRecDepth 10000
set_option maxHeartbeats 8000000
namespace Go.Proofs.P6
open Go.Ex
abbrev rCh (l : List Change) : V := .ro l.length (fl chCd l)
def b0 (l : List Entry) : Bd := ⟨l, [], [], [], [], [], []⟩
/-- The run's end. -/
def endB (l : List Entry) (c : List Change) (f : List Fact) (up : List Span) (late until' : Int) : Bd := runR f up late until' (mu c (b0 l) + 1) c 0 0 (b0 l)
def RunQ (err : Int) (f : List Fact) (up : List Span) (late : Int) (B : Bd) (nx : Nat) : V → Hp → Nat → Prop := fun v h' nx' => (err ≠ 0 ∧ v = .tup [.np, .int .i64 err]) ∨ (err = 0 ∧ RQ f up late B nx v h' nx')
theorem run_ok (l : List Entry) (c : List Change) (f : List Fact) (up : List Span) (late until' : Int) (hl : ∀ x ∈ l, entOk x) (hc : ∀ x ∈ c, chOk x) {h : Hp} {nx : Nat} :
    SEx Try.prog 96 [rE l, rCh c, rFc f, rSp up, .int .i64 late, .int .i64 until'] h nx (RunQ (runE l c f up late until') f up late (endB l c f up late until') nx) := by
  have e62 := Go.Ex.e62
  have p1 := CheckEntries_ok l hl
  have p2 := changes_ok c hc
  have p3 := facts_ok f
  have p4 := facts_ok [(upName, up)]
  have p5 := range_ok late 0 1000000000
  have p6 := range_ok until' 0 1000000000000
  have p7 := firstN_ok (errL l c f up late until') (by simp [errL])
  have z1 := @runE_zero l c f up late until'
  have e1 : fe (fsE (errL l c f up late until')) (errL l c f up late until').length = runE l c f up late until' := rfl
  rw [e1] at p7
  generalize runE l c f up late until' = err at *
  simp only [errL] at p7
  refine SEx.of hm h96 (of_decide_eq_true rfl) ?_
  unfold c96
  simp -dsimp
  refine call_int p1 ?_
  simp -dsimp
  refine call_int p2 ?_
  simp -dsimp
  refine call_int p3 ?_
  have t1 : ∀ h : Hp, toRO (upd h nx (some ⟨0, 2, [V.str [117, 112], rSp up], none⟩)) 8 (.sl nx 0 0 1 (some 1)) = some (.ro 1 [V.str [117, 112], rSp up]) := fun h => by
    simp [toRO, cellRO, V.pureL, V.pure]
  have p4' : OkF Try.prog 68 [.ro 1 [V.str [117, 112], rSp up]] (.int .i64 (factsE [(upName, up)]), []) := p4
  have t2 : ∀ (h : Hp) (n : Nat) (a b c d e g : Int), toRO (upd h n (some ⟨0, 1, [V.int .i64 a, V.int .i64 b, V.int .i64 c, V.int .i64 d, V.int .i64 e, V.int .i64 g], none⟩)) 8 (.sl n 0 0 6 (some 6)) = some (.ro 6 [V.int .i64 a, V.int .i64 b, V.int .i64 c, V.int .i64 d, V.int .i64 e, V.int .i64 g]) := fun h n a b c d e g => by
    simp [toRO, cellRO, V.pureL, V.pure]
  have p7' : OkF Try.prog 67 [.ro 6 [V.int .i64 (entsE l), V.int .i64 (changesE c), V.int .i64 (factsE f), V.int .i64 (factsE [(upName, up)]), V.int .i64 (rgE late 0 1000000000), V.int .i64 (rgE until' 0 1000000000000)]] (.int .i64 err, []) := p7
  have p5' : OkF Try.prog 69 [.int .i64 late, .int .i64 0, .int .i64 1000000000] (.int .i64 (rgE late 0 1000000000), []) := p5
  have p6' : OkF Try.prog 69 [.int .i64 until', .int .i64 0, .int .i64 1000000000000] (.int .i64 (rgE until' 0 1000000000000), []) := p6
  simp -dsimp [fillA, fillS, t1]
  refine call_int p4' ?_
  simp -dsimp
  refine call_int p5' ?_
  simp -dsimp
  refine call_int p6' ?_
  simp -dsimp [fillA, t2]
  refine call_int p7' ?_
  simp -dsimp
  by_cases ez : err = 0
  rotate_left
  · simp -dsimp [ez]
    exact .inl ⟨ez, rfl⟩
  obtain ⟨v1, v2, v3, v4, v5, v6⟩ := z1 ez
  obtain ⟨c1, c2, c3⟩ := changes_ok0 v2
  have hup := spOk_of v4
  have gd := ents_ok v1
  have hbl := gd.most
  simp -dsimp [ez]
  generalize upd (upd h nx (some ⟨0, 2, [V.str [117, 112], rSp up], none⟩)) (nx + 1) _ = H
  -- the board
  have start : ∀ (H : Hp) (n rid : Nat) (lv : V) (oid tid : Nat), LV H n lv l → oid < n → tid < n → rid < n → oid ≠ tid → oid ≠ rid → tid ≠ rid → (∀ j, ownOf lv = some j → j ≠ oid ∧ j ≠ tid ∧ j ≠ rid) → H rid = bdC f up late lv .ns .ns .ns .ns oid tid → H oid = offC [] → H tid = trnC [] →
      BX f up late H n rid (b0 l) lv .ns .ns .ns .ns oid tid (fun j => if j = rid then 0 else if j = oid then 1 else if j = tid then 2 else 3) := by
    intro H n rid lv oid tid w1 w2 w3 w4 n1 n2 n3 w5 w6 w7 w8
    refine ⟨w6, w7, w8, w1, AccC.nil _ _, Acc.nil _ _, Acc.nil _ _, Acc.nil _ _, w4, w2, w3, ?_, ?_, ?_, fun j hj => ?_, fun j hj => (by cases hj), fun j hj => (by cases hj), fun j hj => (by cases hj), fun j hj => (by cases hj)⟩
    · simp
    · simp [n2]
    · simp [n3, Ne.symm n1]
    · obtain ⟨y1, y2, y3⟩ := w5 j hj
      simp [y1, y2, y3]
  have hri : RI c 0 0 (b0 l) := ⟨v1, c2, c3, by simp [b0]; omega, by simp [b0], by simp [b0]; omega, rfl, by omega, Int.le_refl _⟩
  have hcn : ∀ y ∈ c, 0 ≤ y.1 := fun y hy => by
    have := c2 y hy
    unfold chE at this
    split at this
    · cases this
    · rename_i q; simp [inB] at q; omega
  have go : ∀ (t : St) (nx : Nat) (rid : Nat), BS f up late t.h t.nx rid (b0 l) → RG c up until' rid 0 0 t → nx ≤ t.nx → OI f up late until' c nx rid (endB l c f up late until') (mu c (b0 l)) t := by
    rintro t nx rid ⟨lv, ov, dv, rv, wv, oid, tid, tag, hX⟩ hG hn
    exact ⟨⟨0, 0, b0 l, lv, ov, dv, rv, wv, oid, tid, tag, hX, hG, hri, hcn, by omega, rfl, ⟨_, Nat.lt_succ_self _, rfl⟩, hn⟩⟩
  by_cases hne : l = []
  · have hce : OkF Try.prog 132 [rE l] (.em, []) := by rw [hne]; exact clone_empty hm h132
    refine call_own hce (by simp [okRes, roFree]) ?_
    simp -dsimp [shift, shiftL, addB, fillS]
    refine loop_dec (OI f up late until' c nx (nx + 4) (endB l c f up late until')) (mu c (b0 l)) (go _ nx (nx + 4) ⟨.em, .ns, .ns, .ns, .ns, (nx + 2), (nx + 3), _, start _ _ (nx + 4) .em (nx + 2) (nx + 3) ?_ ?_ ?_ ?_ ?_ ?_ ?_ ?_ ?_ ?_ ?_⟩ ⟨?_, ?_, ?_, ?_, ?_, ?_⟩ ?_) (fun k t hI => step_walk hI v3 hup v6 c1 (fun s hs => .inr ⟨ez, hs⟩) (fun s hs => hs))
    · exact .inr (.inr ⟨hne, rfl⟩)
    all_goals first
      | (show _ < nx + _; omega)
      | omega
      | (intro j hj; cases hj; done)
      | (intro j hj; simp [ownOf] at hj; omega)
      | (simp -dsimp; omega)
      | (simp [upd, kvs]; done)
      | (simp -dsimp; done)
      | skip
  · refine call_own (entClone l (by omega) hne) (by simp [okRes, roFree, ent_roFree]) ?_
    simp -dsimp [shift, shiftL, addB, fillS]
    refine loop_dec (OI f up late until' c nx (nx + 5) (endB l c f up late until')) (mu c (b0 l)) (go _ nx (nx + 5) ⟨(.sl (nx + 2) 0 0 l.length none), .ns, .ns, .ns, .ns, (nx + 3), (nx + 4), _, start _ _ (nx + 5) (.sl (nx + 2) 0 0 l.length none) (nx + 3) (nx + 4) ?_ ?_ ?_ ?_ ?_ ?_ ?_ ?_ ?_ ?_ ?_⟩ ⟨?_, ?_, ?_, ?_, ?_, ?_⟩ ?_) (fun k t hI => step_walk hI v3 hup v6 c1 (fun s hs => .inr ⟨ez, hs⟩) (fun s hs => hs))
    · exact .inl (Acc.mk (by simp -dsimp) (by simp [upd]; rfl))
    all_goals first
      | (show _ < nx + _; omega)
      | omega
      | (intro j hj; cases hj; done)
      | (intro j hj; simp [ownOf] at hj; omega)
      | (simp -dsimp; omega)
      | (simp [upd, kvs]; done)
      | (simp -dsimp; done)
      | skip
end Go.Proofs.P6
end
section
set_option linter.unusedVariables false
set_option linter.unusedSimpArgs false
set_option maxRecDepth 10000
set_option maxHeartbeats 8000000
namespace Go.Proofs.P6
open Go.Ex
theorem em_ro3 {f : Nat} {args : List V} {u : V} {n : Int} (h : OkF Try.prog f args (.tup [u, .em, .int .i64 n], [])) : OkF Try.prog f args (.tup [u, .ro 0 [], .int .i64 n], []) := by
  refine ⟨h.1, fun w S φ0 vs hG hS hv => (h.2 w S φ0 vs hG hS hv).mono fun e w' he => ?_⟩
  obtain ⟨x, φ', S', he, hR, h1, h2, hr⟩ := he
  refine ⟨x, φ', S', he, hR, h1, h2, ?_⟩
  simp only at hr ⊢
  cases hr
  rename_i us hs hc
  refine .tup _ _ (by simpa using hs) fun i c v hc' hv' => ?_
  match i with
  | 0 => exact hc 0 c v hc' hv'
  | 1 =>
    have := hc 1 .em v rfl hv'
    simp at hc'
    subst hc'
    cases this with
    | em0 => exact .roN
    | em a => exact .ro 0 [] a 0 #[] (Nat.le_refl _) rfl (fun q => absurd rfl q) (fun i x v hx => by simp at hx)
  | 2 => exact hc 2 c v hc' hv'
  | i + 3 => simp at hc'
abbrev rOc (l : List Outc) : V := .ro l.length (fl outCd l)
abbrev rIn (l : List Int) : V := .ro l.length (fl (Cd.int .i64) l)
def runO (l : List Entry) (c : List Change) (f : List Fact) (up : List Span) (late until' : Int) : List Outc × List Entry × Int := if runE l c f up late until' ≠ 0 then ([], [], runE l c f up late until') else ((endB l c f up late until').out, (endB l c f up late until').l, 0)
def runX (l : List Entry) (c : List Change) (f : List Fact) (up : List Span) (late until' : Int) : List Int × List Int × Int := if runE l c f up late until' ≠ 0 then ([], [], runE l c f up late until') else ((endB l c f up late until').ref, (endB l c f up late until').why, 0)
theorem LV.ex1 {h : Hp} {nx : Nat} {v : V} {l : List Entry} (a : LV h nx v l) (hne : l ≠ []) : exp1 h [] v = some (rE l) := by
  rcases a with a | rfl | ⟨q, _⟩
  · exact a.ex1
  · rfl
  · exact absurd q hne
theorem Run_walk (l : List Entry) (c : List Change) (f : List Fact) (up : List Span) (late until' : Int) (hl : ∀ x ∈ l, entOk x) (hc : ∀ x ∈ c, chOk x) (R : V) (r1 : runE l c f up late until' ≠ 0 → R = .tup [.ro 0 [], .ro 0 [], .int .i64 (runE l c f up late until')])
    (r2 : runE l c f up late until' = 0 → (endB l c f up late until').l = [] → R = .tup [rOc (endB l c f up late until').out, .em, .int .i64 0]) (r3 : runE l c f up late until' = 0 → (endB l c f up late until').l ≠ [] → R = .tup [rOc (endB l c f up late until').out, rE (endB l c f up late until').l, .int .i64 0]) :
    OkF Try.prog 41 [rE l, rCh c, rFc f, rSp up, .int .i64 late, .int .i64 until'] (R, []) := by
  refine OkF.W0 hm h41 (of_decide_eq_true rfl) ?_
  unfold c41
  simp -dsimp
  refine shr_ex (run_ok l c f up late until' hl hc) ?_
  rintro v h' nx' (⟨q, rfl⟩ | ⟨q, rid, lv, ov, dv, rv, wv, oid, tid, tag, rfl, hn, hX, hem, hcl⟩)
  · rw [r1 q]
    simp -dsimp [q]
  · have hr := hX.r
    have e1 := hX.ao.acc.ex1
    simp -dsimp [hr]
    by_cases z : (endB l c f up late until').l = []
    · rw [r2 q z, hem z]
      have e3 : exp1 h' [] .em = some .em := rfl
      simp -dsimp [e1, e3]
    · have e2 := hX.al.ex1 z
      rw [r3 q z]
      simp -dsimp [e1, e2]
theorem Run_ok (l : List Entry) (c : List Change) (f : List Fact) (up : List Span) (late until' : Int) (hl : ∀ x ∈ l, entOk x) (hc : ∀ x ∈ c, chOk x) :
    OkF Try.prog 41 [rE l, rCh c, rFc f, rSp up, .int .i64 late, .int .i64 until'] (.tup [rOc (runO l c f up late until').1, rE (runO l c f up late until').2.1, .int .i64 (runO l c f up late until').2.2], []) := by
  unfold runO
  by_cases q : runE l c f up late until' = 0
  · rw [if_neg (by simpa using q)]
    by_cases z : (endB l c f up late until').l = []
    · have := em_ro3 (Run_walk l c f up late until' hl hc (.tup [rOc (endB l c f up late until').out, .em, .int .i64 0]) (fun h => absurd q h) (fun _ _ => rfl) (fun _ h => absurd z h))
      rw [z]
      exact this
    · exact Run_walk l c f up late until' hl hc _ (fun h => absurd q h) (fun _ h => absurd h z) (fun _ _ => rfl)
  · rw [if_pos q]
    exact Run_walk l c f up late until' hl hc _ (fun _ => rfl) (fun h => absurd h q) (fun h => absurd h q)
theorem Refused_ok (l : List Entry) (c : List Change) (f : List Fact) (up : List Span) (late until' : Int) (hl : ∀ x ∈ l, entOk x) (hc : ∀ x ∈ c, chOk x) :
    OkF Try.prog 42 [rE l, rCh c, rFc f, rSp up, .int .i64 late, .int .i64 until'] (.tup [rIn (runX l c f up late until').1, rIn (runX l c f up late until').2.1, .int .i64 (runX l c f up late until').2.2], []) := by
  refine OkF.W0 hm h42 (of_decide_eq_true rfl) ?_
  unfold c42
  simp -dsimp
  refine shr_ex (run_ok l c f up late until' hl hc) ?_
  rintro v h' nx' (⟨q, rfl⟩ | ⟨q, rid, lv, ov, dv, rv, wv, oid, tid, tag, rfl, hn, hX, hem, hcl⟩)
  · have e : runX l c f up late until' = ([], [], runE l c f up late until') := by unfold runX; rw [if_pos q]
    simp -dsimp [q, e]
  · have hr := hX.r
    have e : runX l c f up late until' = ((endB l c f up late until').ref, (endB l c f up late until').why, 0) := by unfold runX; rw [if_neg (by simpa using q)]
    have e1 := hX.ar.ex1
    have e2 := hX.aw.ex1
    simp -dsimp [hr, e]
    simp -dsimp [e1, e2]
end Go.Proofs.P6
end
section
set_option linter.unusedVariables false
set_option linter.unusedSimpArgs false
set_option maxRecDepth 10000
namespace Go.Proofs.P6
open Go.Ex
theorem look_put {α β : Type} [DecidableEq α] (a b : α) (v : β) : ∀ l : List (α × β), Go.Ex.look a (putM b v l) = if a = b then some v else Go.Ex.look a l
  | [] => by
    unfold putM
    show (if a = b then some v else none) = _
    rfl
  | p :: l => by
    unfold putM
    by_cases q : b = p.1
    · rw [if_pos q]
      show (if a = b then some v else Go.Ex.look a l) = _
      by_cases z : a = b
      · rw [if_pos z, if_pos z]
      · rw [if_neg z, if_neg z]
        show _ = (if a = p.1 then some p.2 else Go.Ex.look a l)
        rw [if_neg (by rw [← q]; exact z)]
    · rw [if_neg q]
      show (if a = p.1 then some p.2 else Go.Ex.look a (putM b v l)) = if a = b then some v else (if a = p.1 then some p.2 else Go.Ex.look a l)
      rw [look_put a b v l]
      by_cases z : a = p.1
      · rw [if_pos z, if_pos z, if_neg (by rw [z]; exact fun e => q e.symm)]
      · rw [if_neg z, if_neg z]
section
variable {fs : List Fact} {up : List Span} {late until' : Int}
theorem runR_end (ho : SpOk up) (hu : 0 ≤ until') {P : List Change → Nat → Int → Bd → Prop} (hP : ∀ rest i now b, RI rest i now b → (∀ y ∈ rest, now ≤ y.1) → now ≤ until' → P rest i now b → ¬ until' < nextT up until' rest now b →
    P (chgsL (nextT up until' rest now b) rest i b).1 (chgsL (nextT up until' rest now b) rest i b).2.1 (nextT up until' rest now b) ((chgsL (nextT up until' rest now b) rest i b).2.2.turnsIf fs up late (nextT up until' rest now b))) :
    ∀ (k : Nat) (rest : List Change) (i : Nat) (now : Int) (b : Bd), mu rest b < k → RI rest i now b → (∀ y ∈ rest, now ≤ y.1) → now ≤ until' → P rest i now b →
      ∃ rest' i' now', RI rest' i' now' (runR fs up late until' k rest i now b) ∧ P rest' i' now' (runR fs up late until' k rest i now b) ∧ until' < nextT up until' rest' now' (runR fs up late until' k rest i now b)
  | 0, rest, i, now, b, hm, hR, hr, hn, hp => by omega
  | k + 1, rest, i, now, b, hm, hR, hr, hn, hp => by
    unfold runR
    by_cases z : until' < nextT up until' rest now b
    · rw [if_pos z]
      exact ⟨rest, i, now, hR, hp, z⟩
    · rw [if_neg z]
      have hmu := mu_less (fs := fs) (late := late) ho hR z hr
      have hnge := nextT_ge (up := up) (until' := until') (b := b) hr (by omega)
      have hnow := hR.now0
      have hRn := hR.at (n := nextT up until' rest now b) (by omega)
      have hRc := (hRn.chgs (nextT up until' rest now b)).turnsIf fs up late (nextT up until' rest now b)
      have hge : ∀ y ∈ rest, nextT up until' rest now b ≤ y.1 := fun y hy => by
        rcases hd : rest with _ | ⟨y0, r⟩
        · rw [hd] at hy; cases hy
        · have h1 : nextT up until' (y0 :: r) now b ≤ y0.1 := by
            show min _ _ ≤ _
            omega
          rw [hd] at hy
          rcases List.mem_cons.1 hy with rfl | hy
          · exact h1
          · have ho := hR.ord
            rw [hd] at ho
            have := (List.pairwise_cons.1 ho).1 y hy
            omega
      have hlat := chgsL_later (nextT up until' rest now b) (i := i) (b := b) hR.ord hge
      exact runR_end ho hu hP k _ _ _ _ (by omega) hRc (fun y hy => by have := hlat y hy; omega) (by omega) (hP rest i now b hR hr hn hp z)
/-- Each entry at most once. -/
structure ONC (up : List Span) (now : Int) (b : Bd) : Prop where
  nod : (b.out.map (·.1)).Nodup
  trn : ∀ o ∈ b.out, Go.Ex.look o.1 b.turned = some true
  fre : ∀ x ∈ b.l, (Go.Ex.look x.1 b.turned).getD false = false
  run : ∀ o ∈ b.out, upB up o.2.1 = true ∧ o.2.1 ≤ now
  ord : b.out.Pairwise fun o p => o.2.1 ≤ p.2.1
theorem ONC.made {now : Int} {y : Change} {rest : List Change} {i : Nat} {nw : Int} {b : Bd} (d : ONC up now b) (h : RI (y :: rest) i nw b) : ONC up now (b.made y i) := by
  unfold Bd.made
  rcases chg_cases (b := b) (c := y) h.ok (h.chs y (by simp)) with ⟨q, e⟩ | ⟨q, o, e⟩ | ⟨q, m, e, m1, m2, m3⟩
  · rw [if_neg q]
    exact ⟨d.nod, d.trn, d.fre, d.run, d.ord⟩
  · rw [if_pos q, e]
    exact ⟨d.nod, d.trn, d.fre, d.run, d.ord⟩
  · rw [if_pos q, e]
    refine ⟨d.nod, d.trn, fun x hx => ?_, d.run, d.ord⟩
    rcases m3 x hx with ⟨z, hz, hzz⟩ | hf
    · have := d.fre z hz
      rw [hzz] at this
      exact this
    · exact hf
theorem ONC.chgs {now : Int} : ∀ {rest : List Change} {i : Nat} {nw : Int} {b : Bd} (n : Int), ONC up now b → RI rest i nw b → ONC up now (chgsL n rest i b).2.2
  | [], i, nw, b, n, d, h => d
  | y :: r, i, nw, b, n, d, h => by
    unfold chgsL
    split
    · exact ONC.chgs n (d.made h) h.made
    · exact d
theorem ONC.turnsN {n : Int} (hu : upB up n = true) : ∀ (k : Nat) {rest : List Change} {i : Nat} {nw : Int} {b : Bd}, ONC up n b → RI rest i nw b → ONC up n (Bd.turnsN fs late n k b)
  | 0, rest, i, nw, b, d, h => d
  | k + 1, rest, i, nw, b, d, h => by
    rcases hl : b.l with _ | ⟨x, r⟩
    · rw [turnsN_nil hl]; exact d
    · by_cases hx : x.2.1 ≤ n
      · rw [turnsN_go hl hx]
        refine ONC.turnsN hu k (rest := rest) (i := i) (nw := nw) ?_ (h.turn hl)
        have gd := ents_ok h.ok
        have hids : Ids b.l := gd.ids
        unfold Ids at hids
        rw [hl, List.map_cons, List.nodup_cons] at hids
        have hxf := d.fre x (by rw [hl]; simp)
        have hnx : ∀ o ∈ b.out, o.1 ≠ x.1 := fun o ho e => by
          have := d.trn o ho
          rw [e] at this
          rw [this] at hxf
          cases hxf
        refine ⟨?_, fun o ho => ?_, fun z hz => ?_, fun o ho => ?_, ?_⟩
        · show (List.map (fun o : Outc => o.1) (b.out ++ [(x.1, n, outK fs late b.off x n)])).Nodup
          rw [List.map_append, List.nodup_append]
          refine ⟨d.nod, by simp, fun a ha c hc => ?_⟩
          simp only [List.map_cons, List.map_nil, List.mem_singleton] at hc
          obtain ⟨o, ho, rfl⟩ := List.mem_map.1 ha
          rw [hc]
          exact hnx o ho
        · show Go.Ex.look o.1 (putM x.1 true b.turned) = some true
          rw [look_put]
          rcases List.mem_append.1 ho with ho | ho
          · rw [if_neg (hnx o ho)]
            exact d.trn o ho
          · rw [List.mem_singleton.1 ho]
            simp
        · show (Go.Ex.look z.1 (putM x.1 true b.turned)).getD false = false
          rw [look_put, if_neg]
          · exact d.fre z (by rw [hl]; exact List.mem_cons_of_mem _ hz)
          · intro e
            exact hids.1 (List.mem_map.2 ⟨z, hz, e⟩)
        · rcases List.mem_append.1 ho with ho | ho
          · exact d.run o ho
          · rw [List.mem_singleton.1 ho]
            exact ⟨hu, Int.le_refl _⟩
        · show (b.out ++ [(x.1, n, outK fs late b.off x n)]).Pairwise fun o p : Outc => o.2.1 ≤ p.2.1
          rw [List.pairwise_append]
          refine ⟨d.ord, by simp, fun o ho p hp => ?_⟩
          rw [List.mem_singleton.1 hp]
          exact (d.run o ho).2
      · rw [turnsN_stop hl hx]; exact d
theorem ONC.le {n m : Int} {b : Bd} (d : ONC up n b) (h : n ≤ m) : ONC up m b := ⟨d.nod, d.trn, d.fre, fun o ho => ⟨(d.run o ho).1, Int.le_trans (d.run o ho).2 h⟩, d.ord⟩
theorem once_end {l : List Entry} {c : List Change} (hz : runE l c fs up late until' = 0) : ∃ now, now ≤ until' ∧ ONC up now (endB l c fs up late until') ∧ entsE (endB l c fs up late until').l = 0 ∧ (endB l c fs up late until').out.length ≤ 2000 := by
  obtain ⟨v1, v2, v3, v4, v5, v6⟩ := runE_zero hz
  obtain ⟨c1, c2, c3⟩ := changes_ok0 v2
  have hup := spOk_of v4
  have gd := ents_ok v1
  have hbl := gd.most
  have hri : RI c 0 0 (b0 l) := ⟨v1, c2, c3, by simp [b0]; omega, by simp [b0], by simp [b0]; omega, rfl, by omega, Int.le_refl _⟩
  have hcn : ∀ y ∈ c, 0 ≤ y.1 := fun y hy => by
    have := c2 y hy
    unfold chE at this
    split at this
    · cases this
    · rename_i q; simp [inB] at q; omega
  obtain ⟨rest', i', now', h1, ⟨h2, h3⟩, h4⟩ := runR_end (fs := fs) (late := late) hup.2 v6.1 (P := fun rest i now b => ONC up now b ∧ now ≤ until') (fun rest i now b hR hr hn ⟨d, hd⟩ hz => by
    have hge := nextT_ge (up := up) (until' := until') (b := b) hr (by omega)
    refine ⟨?_, by omega⟩
    have d2 := (d.le hge).chgs (nextT up until' rest now b) hR
    unfold Bd.turnsIf
    split
    · rename_i q
      exact d2.turnsN q _ (hR.chgs _)
    · exact d2) _ c 0 0 (b0 l) (Nat.lt_succ_self _) hri hcn v6.1 ⟨⟨by simp [b0], by simp [b0], fun x hx => rfl, by simp [b0], by simp [b0]⟩, v6.1⟩
  have ho : (endB l c fs up late until').out.length + (endB l c fs up late until').l.length + rest'.length ≤ 2000 := h1.out
  exact ⟨now', h3, h2, h1.ok, by omega⟩
theorem upB_span {n : Int} (h : upB up n = true) : ∃ s ∈ up, s.1 ≤ n ∧ n < s.2 := by
  have h2 := upB_since h
  unfold since at h2
  split at h2
  · rename_i s hs
    simp only [Prod.mk.injEq, and_true] at h2
    have := List.find?_some hs
    exact ⟨s, List.mem_of_find?_eq_some hs, by omega, by simpa using this⟩
  · cases h2
end
end Go.Proofs.P6
end
section
set_option linter.unusedVariables false
set_option linter.unusedSimpArgs false
set_option maxRecDepth 10000
set_option maxHeartbeats 8000000
namespace Go.Proofs.P6
open Go.Ex
section
variable {h : Hp} {k : Nat} {kk : IntKind} {K : V → List Nat → Prop} {l : List Outc} {a : Outc}
theorem oc_ia (e : l[k]? = some a) : iaddrK h (.ro l.length (fl outCd l)) (.int kk k) 3 K ⟨⟩ = K (.rp (fl outCd l) (k * 3)) [] := iaddr_fl rfl (by decide) e
theorem oc_l0 (e : l[k]? = some a) : ldA h (.rp (fl outCd l) (k * 3)) none = some (.int .i64 a.1) := ld_fl0 (n := 3) rfl (by decide) e
theorem oc_l1 (e : l[k]? = some a) : ldA h (.rp (fl outCd l) (k * 3 + 1)) none = some (.int .i64 a.2.1) := ld_fl (n := 3) rfl (by decide) e
theorem oc_l2 (e : l[k]? = some a) : ldA h (.rp (fl outCd l) (k * 3 + 2)) none = some (.int .i64 a.2.2) := ld_fl (n := 3) rfl (by decide) e
end
/-- Whether one of the first k spans has the moment. -/
def runK (up : List Span) (n : Int) (k : Nat) : Bool := (up.take k).any fun s => decide (s.1 ≤ n) && decide (n < s.2)
theorem runK_succ {up : List Span} {n : Int} {k : Nat} {s : Span} (h : up[k]? = some s) : runK up n (k + 1) = (runK up n k || (decide (s.1 ≤ n) && decide (n < s.2))) := by
  have hj := (List.getElem?_eq_some_iff.1 h).1
  unfold runK
  rw [List.take_succ_eq_append_getElem hj, List.any_append, (List.getElem?_eq_some_iff.1 h).2]
  simp
/-- What the law's loop knows. -/
structure LI (a : List Outc) (x : List Entry) (up : List Span) (until' : Int) (k : Nat) (t : St) : Prop where
  r16 : t.t 16 = .int .i64 k
  r13 : t.t 13 = rOc a
  r14 : t.t 14 = rE x
  r3 : t.t 3 = rSp up
  r5 : t.t 5 = .int .i64 until'
theorem SchedulesDoOnce (l : List Entry) (c : List Change) (f : List Fact) (up : List Span) (late until' : Int) (hl : ∀ x ∈ l, entOk x) (hc : ∀ x ∈ c, chOk x) :
    OkF Try.prog 11 [rE l, rCh c, rFc f, rSp up, .int .i64 late, .int .i64 until'] (.bool true, []) := by
  have e62 := Go.Ex.e62
  have p1 := Run_ok l c f up late until' hl hc
  refine OkF.W0 hm h11 (of_decide_eq_true rfl) ?_
  unfold c11
  simp -dsimp
  refine call_one p1 (okRes_of (by simp)) ?_
  by_cases q : runE l c f up late until' = 0
  rotate_left
  · have hr : runO l c f up late until' = ([], [], runE l c f up late until') := by unfold runO; rw [if_pos q]
    rw [hr]
    simp -dsimp [q]
    refine call_bool awake_ok ?_
    simp -dsimp
  have hr : runO l c f up late until' = ((endB l c f up late until').out, (endB l c f up late until').l, 0) := by unfold runO; rw [if_neg (by simpa using q)]
  obtain ⟨now, hnow, ONC, hx0, hlen⟩ := once_end q
  obtain ⟨v1, v2, v3, v4, v5, v6⟩ := runE_zero q
  have hup := spOk_of v4
  rw [hr]
  generalize endB l c f up late until' = B at *
  obtain ⟨nod, trn, fre, run, ord⟩ := ONC
  have hxl := ents_le hx0
  have gx := ents_ok hx0
  generalize ha : B.out = a at *
  generalize hx : B.l = x at *
  have hxok : ∀ y ∈ x, entOk y := fun y hy => entE_ok (gx.each y hy)
  have hce := CheckEntries_ok x hxok
  rw [hx0] at hce
  simp -dsimp
  refine loop_to 16 a.length (LI a x up until') (fun k t h => h.r16) ⟨by simp -dsimp, by simp -dsimp, by simp -dsimp, by simp -dsimp, by simp -dsimp⟩ (fun k t hk hI => ?_)
  obtain ⟨i16, i13, i14, i3, i5⟩ := hI
  by_cases hlt : k < a.length
  · have hw : IntKind.i64.wrap ((k : Int) + 1) = (k : Int) + 1 := IntWalk.i64_in _ (by omega)
    have hg : a[k]? = some a[k] := List.getElem?_eq_getElem hlt
    obtain ⟨hu1, hu2⟩ := run a[k] (List.getElem_mem hlt)
    obtain ⟨sp, hsp, hs1, hs2⟩ := upB_span hu1
    have hord : ∀ j (hj : j < k), (a[j]'(by omega)).2.1 ≤ a[k].2.1 := fun j hj => List.pairwise_iff_getElem.1 ord j k (by omega) hlt hj
    have hids : ∀ j (hj : j < k), (a[j]'(by omega)).1 ≠ a[k].1 := fun j hj => by
      have := List.pairwise_iff_getElem.1 (List.nodup_iff_pairwise_ne.1 nod) j k (by simp; omega) (by simp; omega) hj
      simpa using this
    have hxid : ∀ y ∈ x, y.1 ≠ a[k].1 := fun y hy e => by
      have h1 := fre y hy
      have h2 := trn a[k] (List.getElem_mem hlt)
      rw [e, h2] at h1
      cases h1
    have hprev : ∀ (hj : 0 < k), a[k - 1]? = some (a[k - 1]'(by omega)) := fun hj => List.getElem?_eq_getElem (by omega)
    have hfull : runK up a[k].2.1 up.length = true := by
      unfold runK
      rw [List.take_length, List.any_eq_true]
      exact ⟨sp, hsp, by simp [hs1, hs2]⟩
    unfold l11_3
    simp -dsimp [i16, i13, hlt]
    refine loop_to 18 up.length (fun j s => s.t 18 = .int .i64 j ∧ LI a x up until' k s ∧ s.t 17 = .bool (runK up a[k].2.1 j)) (fun j s h => h.1) ⟨by simp -dsimp, ⟨by simp -dsimp [i16], by simp -dsimp [i13], by simp -dsimp [i14], by simp -dsimp [i3], by simp -dsimp [i5]⟩, by simp -dsimp [runK]⟩ (fun j s hj hI => ?_)
    obtain ⟨j18, ⟨j16, j13, j14, j3, j5⟩, j17⟩ := hI
    unfold l11_0
    by_cases hlj : j < up.length
    · have hwj : IntKind.i64.wrap ((j : Int) + 1) = (j : Int) + 1 := IntWalk.i64_in _ (by omega)
      have hgu : up[j]? = some up[j] := List.getElem?_eq_getElem hlj
      have hS := runK_succ (n := a[k].2.1) hgu
      generalize up[j] = s0 at *
      have fin : ∀ s' : St, s'.t 18 = .int .i64 ((j : Int) + 1) → LI a x up until' k s' → s'.t 17 = .bool (runK up a[k].2.1 (j + 1)) → ∃ m, m = j + 1 ∧ m ≤ up.length ∧ (s'.t 18 = .int .i64 m ∧ LI a x up until' k s' ∧ s'.t 17 = .bool (runK up a[k].2.1 m)) := fun s' w1 w2 w3 => ⟨j + 1, rfl, by omega, by rw [w1]; rfl, w2, w3⟩
      cases z : runK up a[k].2.1 j with
      | true =>
        simp -dsimp [j18, j3, hlj, j17, z, hwj]
        exact ⟨⟨by simp -dsimp [j16], by simp -dsimp [j13], by simp -dsimp [j14], by simp -dsimp [j3], by simp -dsimp [j5]⟩, by rw [hS, z]; rfl⟩
      | false =>
        rw [z, Bool.false_or] at hS
        by_cases y1 : s0.1 ≤ a[k].2.1
        · by_cases y2 : a[k].2.1 < s0.2
          · simp -dsimp [j18, j3, j13, j16, hlj, j17, z, hwj, span_ia hgu, span_l0 hgu, span_l1 hgu, oc_ia hg, oc_l1 hg, y1, y2]
            exact ⟨⟨by simp -dsimp [j16], by simp -dsimp [j13], by simp -dsimp [j14], by simp -dsimp [j3], by simp -dsimp [j5]⟩, by rw [hS]; simp [y1, y2]⟩
          · simp -dsimp [j18, j3, j13, j16, hlj, j17, z, hwj, span_ia hgu, span_l0 hgu, span_l1 hgu, oc_ia hg, oc_l1 hg, y1, y2]
            exact ⟨⟨by simp -dsimp [j16], by simp -dsimp [j13], by simp -dsimp [j14], by simp -dsimp [j3], by simp -dsimp [j5]⟩, by rw [hS]; simp [y2]⟩
        · simp -dsimp [j18, j3, j13, j16, hlj, j17, z, hwj, span_ia hgu, span_l0 hgu, span_l1 hgu, oc_ia hg, oc_l1 hg, y1]
          exact ⟨⟨by simp -dsimp [j16], by simp -dsimp [j13], by simp -dsimp [j14], by simp -dsimp [j3], by simp -dsimp [j5]⟩, by rw [hS]; simp [y1]⟩
    · have hkl : j = up.length := by omega
      subst hkl
      rw [hfull] at j17
      have hnu : ¬ until' < a[k].2.1 := by omega
      by_cases k0 : k = 0
      · have k0' : ¬ 0 < k := by omega
        simp -dsimp [j18, j3, j17, j13, j16, j5, oc_ia hg, oc_l1 hg, hnu, k0']
        refine loop_to 19 k (fun j s => s.t 19 = .int .i64 j ∧ LI a x up until' k s) (fun j s h => h.1) ⟨by simp -dsimp, ⟨by simp -dsimp [j16], by simp -dsimp [j13], by simp -dsimp [j14], by simp -dsimp [j3], by simp -dsimp [j5]⟩⟩ (fun m s6 hm6 hI => ?_)
        obtain ⟨m19, ⟨m16, m13, m14, m3, m5⟩⟩ := hI
        unfold l11_1
        by_cases hmk : m < k
        · have hwm : IntKind.i64.wrap ((m : Int) + 1) = (m : Int) + 1 := IntWalk.i64_in _ (by omega)
          have hgm : a[m]? = some (a[m]'(by omega)) := List.getElem?_eq_getElem (by omega)
          have hne := hids m hmk
          generalize (a[m]'(by omega)) = am at *
          simp -dsimp [m19, m16, m13, hmk, oc_ia hgm, oc_l0 hgm, oc_ia hg, oc_l0 hg, hne, hwm]
          exact ⟨by simp -dsimp [m16], by simp -dsimp [m13], by simp -dsimp [m14], by simp -dsimp [m3], by simp -dsimp [m5]⟩
        have hmk2 : m = k := by omega
        subst hmk2
        simp -dsimp [m19, m16]
        refine loop_to 20 x.length (fun j s => s.t 20 = .int .i64 j ∧ LI a x up until' m s) (fun j s h => h.1) ⟨by simp -dsimp, ⟨by simp -dsimp [m16], by simp -dsimp [m13], by simp -dsimp [m14], by simp -dsimp [m3], by simp -dsimp [m5]⟩⟩ (fun n s7 hn7 hI => ?_)
        obtain ⟨n20, ⟨n16, n13, n14, n3, n5⟩⟩ := hI
        unfold l11_2
        by_cases hnx : n < x.length
        · have hwn : IntKind.i64.wrap ((n : Int) + 1) = (n : Int) + 1 := IntWalk.i64_in _ (by omega)
          have hgn : x[n]? = some x[n] := List.getElem?_eq_getElem hnx
          have hne := hxid x[n] (List.getElem_mem hnx)
          generalize x[n] = xn at *
          simp -dsimp [n20, n16, n13, n14, hnx, ent_ia hgn, ent_l0 hgn, oc_ia hg, oc_l0 hg, hne, hwn]
          exact ⟨by simp -dsimp [n16], by simp -dsimp [n13], by simp -dsimp [n14], by simp -dsimp [n3], by simp -dsimp [n5]⟩
        have hnx2 : n = x.length := by omega
        subst hnx2
        simp -dsimp [n20, n14, n16, hw]
        exact ⟨hlt, ⟨by simp -dsimp, by simp -dsimp [n13], by simp -dsimp [n14], by simp -dsimp [n3], by simp -dsimp [n5]⟩⟩
      · have k0' : 0 < k := by omega
        have hwp : IntKind.i64.wrap ((k : Int) - 1) = ((k - 1 : Nat) : Int) := wrap_pred k0' (by omega)
        have hgp := hprev k0'
        have hop : ¬ a[k].2.1 < (a[k - 1]'(by omega)).2.1 := by have := hord (k - 1) (by omega); omega
        generalize (a[k - 1]'(by omega)) = ap at *
        simp -dsimp [j18, j3, j17, j13, j16, j5, oc_ia hg, oc_l1 hg, hnu, k0', hwp, oc_ia hgp, oc_l1 hgp, hop]
        refine loop_to 19 k (fun j s => s.t 19 = .int .i64 j ∧ LI a x up until' k s) (fun j s h => h.1) ⟨by simp -dsimp, ⟨by simp -dsimp [j16], by simp -dsimp [j13], by simp -dsimp [j14], by simp -dsimp [j3], by simp -dsimp [j5]⟩⟩ (fun m s6 hm6 hI => ?_)
        obtain ⟨m19, ⟨m16, m13, m14, m3, m5⟩⟩ := hI
        unfold l11_1
        by_cases hmk : m < k
        · have hwm : IntKind.i64.wrap ((m : Int) + 1) = (m : Int) + 1 := IntWalk.i64_in _ (by omega)
          have hgm : a[m]? = some (a[m]'(by omega)) := List.getElem?_eq_getElem (by omega)
          have hne := hids m hmk
          generalize (a[m]'(by omega)) = am at *
          simp -dsimp [m19, m16, m13, hmk, oc_ia hgm, oc_l0 hgm, oc_ia hg, oc_l0 hg, hne, hwm]
          exact ⟨by simp -dsimp [m16], by simp -dsimp [m13], by simp -dsimp [m14], by simp -dsimp [m3], by simp -dsimp [m5]⟩
        have hmk2 : m = k := by omega
        subst hmk2
        simp -dsimp [m19, m16]
        refine loop_to 20 x.length (fun j s => s.t 20 = .int .i64 j ∧ LI a x up until' m s) (fun j s h => h.1) ⟨by simp -dsimp, ⟨by simp -dsimp [m16], by simp -dsimp [m13], by simp -dsimp [m14], by simp -dsimp [m3], by simp -dsimp [m5]⟩⟩ (fun n s7 hn7 hI => ?_)
        obtain ⟨n20, ⟨n16, n13, n14, n3, n5⟩⟩ := hI
        unfold l11_2
        by_cases hnx : n < x.length
        · have hwn : IntKind.i64.wrap ((n : Int) + 1) = (n : Int) + 1 := IntWalk.i64_in _ (by omega)
          have hgn : x[n]? = some x[n] := List.getElem?_eq_getElem hnx
          have hne := hxid x[n] (List.getElem_mem hnx)
          generalize x[n] = xn at *
          simp -dsimp [n20, n16, n13, n14, hnx, ent_ia hgn, ent_l0 hgn, oc_ia hg, oc_l0 hg, hne, hwn]
          exact ⟨by simp -dsimp [n16], by simp -dsimp [n13], by simp -dsimp [n14], by simp -dsimp [n3], by simp -dsimp [n5]⟩
        have hnx2 : n = x.length := by omega
        subst hnx2
        simp -dsimp [n20, n14, n16, hw]
        exact ⟨hlt, ⟨by simp -dsimp, by simp -dsimp [n13], by simp -dsimp [n14], by simp -dsimp [n3], by simp -dsimp [n5]⟩⟩
  · have hkl : k = a.length := by omega
    subst hkl
    unfold l11_3
    simp -dsimp [i16, i13, i14]
    refine call_int hce ?_
    simp -dsimp
    refine call_bool awake_ok ?_
    simp -dsimp
end Go.Proofs.P6
end
