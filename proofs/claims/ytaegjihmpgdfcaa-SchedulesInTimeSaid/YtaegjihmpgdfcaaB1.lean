/- The small commands of chapter 6: names, facts, entries alone, changes; Names, commands, numbers in bounds; Facts are right; The reference's names and facts; Whether a fact is so; Is, and why both ways to say it are one; Commands and entries. -/
import Derived.Test.YtaegjihmpgdfcaaProg
import Derived.Test.YtaegjihmpgdfcaaExT
section
set_option linter.unusedVariables false
set_option linter.unusedSimpArgs false
namespace Go.Proofs.P6
open Go.Ex
/-- The functions that share their callers' blocks. -/
def sh (f : Nat) : Bool := [89,110,113,71,119,120,121,122,123,159,74,75,125,126,142,143,171,96,138,130,131,133,93,92,1000119,1000120].contains f
theorem hm : Try.prog.follows .mixedOrders = true := by kernel_rfl
def c64 : Cmd := (.seq (.reg false [⟨(some 6), none, (.mov (.c (.bool false))), []⟩]) (.seq (.reg false [⟨(some 7), none, (.mov (.t 1)), []⟩, ⟨(some 8), none, (.mov (.t 0)), []⟩, ⟨(some 9), none, (.bin .leq (.t 7) (.t 8)), []⟩, ⟨(some 10), none, (.mov (.t 9)), []⟩, ⟨(some 11), (some (10, true)), (.mov (.t 0)), []⟩, ⟨(some 12), (some (10, true)), (.mov (.t 2)), []⟩, ⟨(some 13), (some (10, true)), (.bin .leq (.t 11) (.t 12)), []⟩, ⟨(some 14), none, (.pick (.t 10) (.t 13) (.c (.bool false))), []⟩, ⟨(some 6), none, (.mov (.t 14)), []⟩]) .ret))
theorem h64 : compF Try.prog sh 64 = some (c64, [6], 15) := by kernel_rfl
def c65 : Cmd := (.seq (.reg false [⟨(some 6), none, (.mov (.c (.bool false))), []⟩]) (.seq (.reg false [⟨(some 7), none, (.mov (.t 0)), []⟩, ⟨(some 8), none, (.mov (.t 1)), []⟩, ⟨(some 9), none, (.bin .geq (.t 7) (.t 8)), []⟩, ⟨(some 10), none, (.mov (.t 9)), []⟩, ⟨(some 11), (some (10, true)), (.mov (.t 0)), []⟩, ⟨(some 12), (some (10, true)), (.mov (.t 2)), []⟩, ⟨(some 13), (some (10, true)), (.bin .leq (.t 11) (.t 12)), []⟩, ⟨(some 14), none, (.pick (.t 10) (.t 13) (.c (.bool false))), []⟩, ⟨(some 6), none, (.mov (.t 14)), []⟩]) .ret))
theorem h65 : compF Try.prog sh 65 = some (c65, [6], 15) := by kernel_rfl
def c73 : Cmd := (.seq (.reg false [⟨(some 2), none, (.mov (.c (.bool false))), []⟩]) (.seq (.reg false [⟨(some 3), none, (.mov (.t 0)), []⟩, ⟨(some 4), none, (.call 65 [(.t 3), (.c (.int .i64 0)), (.c (.int .i64 1000000000000))]), []⟩, ⟨(some 2), none, (.mov (.t 4)), []⟩]) .ret))
theorem h73 : compF Try.prog sh 73 = some (c73, [2], 5) := by kernel_rfl
def k137_0 : Cmd := (.block 1 (.seq (.reg false [⟨(some 15), none, (.mov (.t 13)), []⟩, ⟨(some 3), none, (.mov (.t 15)), []⟩]) (.seq (.reg false [⟨(some 16), none, (.mov (.t 0)), []⟩, ⟨(some 17), none, (.mov (.t 3)), []⟩, ⟨(some 18), none, (.idx (.t 16) (.t 17)), []⟩, ⟨(some 19), none, (.bin .lss (.t 18) (.c (.int .u8 33))), []⟩, ⟨(some 20), none, (.mov (.t 19)), []⟩, ⟨(some 21), (some (20, false)), (.mov (.t 0)), []⟩, ⟨(some 22), (some (20, false)), (.mov (.t 3)), []⟩, ⟨(some 23), (some (20, false)), (.idx (.t 21) (.t 22)), []⟩, ⟨(some 24), (some (20, false)), (.bin .gtr (.t 23) (.c (.int .u8 126))), []⟩, ⟨(some 25), none, (.pick (.t 20) (.c (.bool true)) (.t 24)), []⟩]) (.cond (.t 25) (.seq (.reg false [⟨(some 2), none, (.mov (.c (.bool false))), []⟩]) .ret) .skip))))
abbrev l137_0 : Cmd := cnt 0 14 13 12 26 k137_0
def c137 : Cmd := (.seq (.reg false [⟨(some 2), none, (.mov (.c (.bool false))), []⟩]) (.seq (.seq (.reg false [⟨(some 4), none, (.mov (.t 0)), []⟩, ⟨(some 5), none, (.bin .eql (.t 4) (.c (.str []))), []⟩, ⟨(some 6), none, (.mov (.t 5)), []⟩, ⟨(some 7), (some (6, false)), (.mov (.t 0)), []⟩, ⟨(some 8), (some (6, false)), (.len true (.t 7)), []⟩, ⟨(some 9), (some (6, false)), (.bin .gtr (.t 8) (.c (.int .i64 40))), []⟩, ⟨(some 10), none, (.pick (.t 6) (.c (.bool true)) (.t 9)), []⟩]) (.cond (.t 10) (.seq (.reg false [⟨(some 2), none, (.mov (.c (.bool false))), []⟩]) .ret) .skip)) (.seq (.seq (.reg false [⟨(some 11), none, (.mov (.t 0)), []⟩, ⟨(some 12), none, (.len true (.t 11)), []⟩, ⟨(some 13), none, (.mov (.c (.int .i64 0))), []⟩]) (.block 0 (.loop l137_0))) (.seq (.reg false [⟨(some 2), none, (.mov (.c (.bool true))), []⟩]) .ret))))
theorem h137 : compF Try.prog sh 137 = some (c137, [2], 27) := by kernel_rfl
def k91_0 : Cmd := (.block 1 (.seq (.reg false [⟨(some 22), none, (.mov (.t 20)), []⟩, ⟨(some 3), none, (.mov (.t 22)), []⟩]) (.seq (.reg false [⟨(some 23), none, (.mov (.t 0)), []⟩, ⟨(some 24), none, (.mov (.t 3)), []⟩, ⟨(some 25), none, (.idx (.t 23) (.t 24)), []⟩, ⟨(some 4), none, (.mov (.t 25)), []⟩]) (.seq (.reg false [⟨(some 26), none, (.mov (.t 4)), []⟩, ⟨(some 27), none, (.bin .lss (.t 26) (.c (.int .u8 97))), []⟩, ⟨(some 28), none, (.mov (.t 27)), []⟩, ⟨(some 29), (some (28, false)), (.mov (.t 4)), []⟩, ⟨(some 30), (some (28, false)), (.bin .gtr (.t 29) (.c (.int .u8 122))), []⟩, ⟨(some 31), none, (.pick (.t 28) (.c (.bool true)) (.t 30)), []⟩, ⟨(some 32), none, (.mov (.t 31)), []⟩, ⟨(some 33), (some (32, true)), (.mov (.t 4)), []⟩, ⟨(some 34), (some (32, true)), (.bin .lss (.t 33) (.c (.int .u8 48))), []⟩, ⟨(some 35), (some (32, true)), (.mov (.t 34)), []⟩, ⟨(some 36), (some (35, false)), (.mov (.t 4)), []⟩, ⟨(some 37), (some (35, false)), (.bin .gtr (.t 36) (.c (.int .u8 57))), []⟩, ⟨(some 38), (some (32, true)), (.pick (.t 35) (.c (.bool true)) (.t 37)), []⟩, ⟨(some 39), none, (.pick (.t 32) (.t 38) (.c (.bool false))), []⟩, ⟨(some 40), none, (.mov (.t 39)), []⟩, ⟨(some 41), (some (40, true)), (.mov (.t 4)), []⟩, ⟨(some 42), (some (40, true)), (.bin .neq (.t 41) (.c (.int .u8 45))), []⟩, ⟨(some 43), none, (.pick (.t 40) (.t 42) (.c (.bool false))), []⟩, ⟨(some 44), none, (.mov (.t 43)), []⟩, ⟨(some 45), (some (44, true)), (.mov (.t 4)), []⟩, ⟨(some 46), (some (44, true)), (.bin .neq (.t 45) (.c (.int .u8 95))), []⟩, ⟨(some 47), none, (.pick (.t 44) (.t 46) (.c (.bool false))), []⟩]) (.cond (.t 47) (.seq (.reg false [⟨(some 2), none, (.mov (.c (.bool false))), []⟩]) .ret) .skip)))))
abbrev l91_0 : Cmd := cnt 0 21 20 19 48 k91_0
def c91 : Cmd := (.seq (.reg false [⟨(some 2), none, (.mov (.c (.bool false))), []⟩]) (.seq (.seq (.reg false [⟨(some 5), none, (.mov (.t 0)), []⟩, ⟨(some 6), none, (.call 137 [(.t 5)]), []⟩, ⟨(some 7), none, (.un .not (.t 6)), []⟩, ⟨(some 8), none, (.mov (.t 7)), []⟩, ⟨(some 9), (some (8, false)), (.mov (.t 0)), []⟩, ⟨(some 10), (some (8, false)), (.idx (.t 9) (.c (.int .i64 0))), []⟩, ⟨(some 11), (some (8, false)), (.bin .lss (.t 10) (.c (.int .u8 97))), []⟩, ⟨(some 12), none, (.pick (.t 8) (.c (.bool true)) (.t 11)), []⟩, ⟨(some 13), none, (.mov (.t 12)), []⟩, ⟨(some 14), (some (13, false)), (.mov (.t 0)), []⟩, ⟨(some 15), (some (13, false)), (.idx (.t 14) (.c (.int .i64 0))), []⟩, ⟨(some 16), (some (13, false)), (.bin .gtr (.t 15) (.c (.int .u8 122))), []⟩, ⟨(some 17), none, (.pick (.t 13) (.c (.bool true)) (.t 16)), []⟩]) (.cond (.t 17) (.seq (.reg false [⟨(some 2), none, (.mov (.c (.bool false))), []⟩]) .ret) .skip)) (.seq (.seq (.reg false [⟨(some 18), none, (.mov (.t 0)), []⟩, ⟨(some 19), none, (.len true (.t 18)), []⟩, ⟨(some 20), none, (.mov (.c (.int .i64 0))), []⟩]) (.block 0 (.loop l91_0))) (.seq (.reg false [⟨(some 2), none, (.mov (.c (.bool true))), []⟩]) .ret))))
theorem h91 : compF Try.prog sh 91 = some (c91, [2], 49) := by kernel_rfl
def l60_0 : Cmd := (.seq (.seq (.reg false [⟨(some 6), none, (.mov (.t 3)), []⟩, ⟨(some 7), none, (.mov (.t 0)), []⟩, ⟨(some 8), none, (.len true (.t 7)), []⟩, ⟨(some 9), none, (.bin .lss (.t 6) (.t 8)), []⟩]) (.cond (.t 9) .skip (.exit 0))) (.seq (.block 1 (.seq (.reg false [⟨(some 12), none, (.mov (.t 0)), []⟩, ⟨(some 13), none, (.mov (.t 3)), []⟩, ⟨(some 14), none, (.idx (.t 12) (.t 13)), []⟩, ⟨(some 4), none, (.mov (.t 14)), []⟩]) (.seq (.reg false [⟨(some 15), none, (.mov (.t 4)), []⟩, ⟨(some 16), none, (.bin .geq (.t 15) (.c (.int .u8 97))), []⟩, ⟨(some 17), none, (.mov (.t 16)), []⟩, ⟨(some 18), (some (17, true)), (.mov (.t 4)), []⟩, ⟨(some 19), (some (17, true)), (.bin .leq (.t 18) (.c (.int .u8 122))), []⟩, ⟨(some 20), none, (.pick (.t 17) (.t 19) (.c (.bool false))), []⟩, ⟨(some 5), none, (.mov (.t 20)), []⟩]) (.seq (.reg false [⟨(some 21), none, (.mov (.t 5)), []⟩, ⟨(some 22), none, (.un .not (.t 21)), []⟩, ⟨(some 23), none, (.mov (.t 22)), []⟩, ⟨(some 24), (some (23, true)), (.mov (.t 3)), []⟩, ⟨(some 25), (some (23, true)), (.bin .eql (.t 24) (.c (.int .i64 0))), []⟩, ⟨(some 26), (some (23, true)), (.mov (.t 25)), []⟩, ⟨(some 27), (some (26, false)), (.mov (.t 4)), []⟩, ⟨(some 28), (some (26, false)), (.bin .neq (.t 27) (.c (.int .u8 45))), []⟩, ⟨(some 29), (some (26, false)), (.mov (.t 28)), []⟩, ⟨(some 30), (some (29, true)), (.mov (.t 4)), []⟩, ⟨(some 31), (some (29, true)), (.bin .neq (.t 30) (.c (.int .u8 95))), []⟩, ⟨(some 32), (some (26, false)), (.pick (.t 29) (.t 31) (.c (.bool false))), []⟩, ⟨(some 33), (some (26, false)), (.mov (.t 32)), []⟩, ⟨(some 34), (some (33, true)), (.mov (.t 4)), []⟩, ⟨(some 35), (some (33, true)), (.bin .geq (.t 34) (.c (.int .u8 48))), []⟩, ⟨(some 36), (some (33, true)), (.mov (.t 35)), []⟩, ⟨(some 37), (some (36, true)), (.mov (.t 4)), []⟩, ⟨(some 38), (some (36, true)), (.bin .leq (.t 37) (.c (.int .u8 57))), []⟩, ⟨(some 39), (some (33, true)), (.pick (.t 36) (.t 38) (.c (.bool false))), []⟩, ⟨(some 40), (some (33, true)), (.un .not (.t 39)), []⟩, ⟨(some 41), (some (26, false)), (.pick (.t 33) (.t 40) (.c (.bool false))), []⟩, ⟨(some 42), (some (23, true)), (.pick (.t 26) (.c (.bool true)) (.t 41)), []⟩, ⟨(some 43), none, (.pick (.t 23) (.t 42) (.c (.bool false))), []⟩]) (.cond (.t 43) (.seq (.reg false [⟨(some 2), none, (.mov (.c (.bool false))), []⟩]) .ret) .skip))))) (.reg false [⟨(some 10), none, (.mov (.t 3)), []⟩, ⟨(some 11), none, (.bin .add (.t 10) (.c (.int .i64 1))), []⟩, ⟨(some 3), none, (.mov (.t 11)), []⟩])))
def c60 : Cmd := (.seq (.reg false [⟨(some 2), none, (.mov (.c (.bool false))), []⟩]) (.seq (.seq (.reg false [⟨(some 3), none, (.mov (.c (.int .i64 0))), []⟩]) (.block 0 (.loop l60_0))) (.seq (.reg false [⟨(some 44), none, (.mov (.t 0)), []⟩, ⟨(some 45), none, (.len true (.t 44)), []⟩, ⟨(some 46), none, (.call 65 [(.t 45), (.c (.int .i64 1)), (.c (.int .i64 40))]), []⟩, ⟨(some 2), none, (.mov (.t 46)), []⟩]) .ret)))
theorem h60 : compF Try.prog sh 60 = some (c60, [2], 47) := by kernel_rfl
def k68_0 : Cmd := (.block 4 (.seq (.reg false [⟨(some 32), none, (.mov (.t 30)), []⟩, ⟨(some 33), none, (.iaddr (.t 28) (.t 30) 2), []⟩, ⟨(some 34), none, (.ld (.t 33) (some 2)), []⟩, ⟨(some 6), none, (.alloc [(.int .i64 0), (.int .i64 0)]), []⟩, ⟨(some 5), none, (.mov (.t 32)), []⟩, ⟨none, none, (.st (.t 6) (.t 34) 2), []⟩]) (.block 5 (.seq (.reg false [⟨(some 36), none, (.faddr (.t 6) 0), []⟩, ⟨(some 37), none, (.ld (.t 36) none), []⟩, ⟨(some 38), none, (.call 64 [(.t 37), (.c (.int .i64 0)), (.c (.int .i64 1000000000000))]), []⟩, ⟨(some 39), none, (.un .not (.t 38)), []⟩, ⟨(some 40), none, (.mov (.t 39)), []⟩, ⟨(some 41), (some (40, false)), (.faddr (.t 6) 1), []⟩, ⟨(some 42), (some (40, false)), (.ld (.t 41) none), []⟩, ⟨(some 43), (some (40, false)), (.call 64 [(.t 42), (.c (.int .i64 0)), (.c (.int .i64 1000000000000))]), []⟩, ⟨(some 44), (some (40, false)), (.un .not (.t 43)), []⟩, ⟨(some 45), none, (.pick (.t 40) (.c (.bool true)) (.t 44)), []⟩, ⟨(some 35), none, (.mov (.t 45)), []⟩]) (.cond (.t 35) (.seq (.reg false [⟨(some 2), none, (.mov (.c (.int .i64 1))), []⟩]) .ret) (.seq (.reg false [⟨(some 47), none, (.faddr (.t 6) 1), []⟩, ⟨(some 48), none, (.ld (.t 47) none), []⟩, ⟨(some 49), none, (.faddr (.t 6) 0), []⟩, ⟨(some 50), none, (.ld (.t 49) none), []⟩, ⟨(some 51), none, (.bin .leq (.t 48) (.t 50)), []⟩, ⟨(some 46), none, (.mov (.t 51)), []⟩]) (.cond (.t 46) (.seq (.reg false [⟨(some 2), none, (.mov (.c (.int .i64 13))), []⟩]) .ret) (.seq (.reg true [⟨(some 53), none, (.mov (.t 5)), []⟩, ⟨(some 54), none, (.bin .gtr (.t 53) (.c (.int .i64 0))), []⟩, ⟨(some 55), none, (.mov (.t 54)), []⟩, ⟨(some 56), (some (55, true)), (.faddr (.t 6) 0), []⟩, ⟨(some 57), (some (55, true)), (.ld (.t 56) none), []⟩, ⟨(some 58), (some (55, true)), (.faddr (.t 4) 1), []⟩, ⟨(some 59), (some (55, true)), (.ld (.t 58) none), []⟩, ⟨(some 60), (some (55, true)), (.mov (.t 5)), []⟩, ⟨(some 61), (some (55, true)), (.bin .sub (.t 60) (.c (.int .i64 1))), []⟩, ⟨(some 62), (some (55, true)), (.iaddr (.t 59) (.t 61) 2), []⟩, ⟨(some 63), (some (55, true)), (.faddr (.t 62) 1), []⟩, ⟨(some 64), (some (55, true)), (.ld (.t 63) none), []⟩, ⟨(some 65), (some (55, true)), (.bin .lss (.t 57) (.t 64)), []⟩, ⟨(some 66), none, (.pick (.t 55) (.t 65) (.c (.bool false))), []⟩, ⟨(some 52), none, (.mov (.t 66)), []⟩]) (.cond (.t 52) (.seq (.reg false [⟨(some 2), none, (.mov (.c (.int .i64 8))), []⟩]) .ret) .skip)))))))))
abbrev l68_0 : Cmd := cnt 3 31 30 29 67 k68_0
def k68_1 : Cmd := (.block 1 (.seq (.reg false [⟨(some 14), none, (.mov (.t 12)), []⟩, ⟨(some 15), none, (.iaddr (.t 10) (.t 12) 2), []⟩, ⟨(some 16), none, (.ld (.t 15) (some 2)), []⟩, ⟨(some 4), none, (.alloc [(.str []), .ns]), []⟩, ⟨(some 3), none, (.mov (.t 14)), []⟩, ⟨none, none, (.st (.t 4) (.t 16) 2), []⟩]) (.seq (.block 2 (.seq (.reg false [⟨(some 18), none, (.faddr (.t 4) 0), []⟩, ⟨(some 19), none, (.ld (.t 18) none), []⟩, ⟨(some 20), none, (.call 91 [(.t 19)]), []⟩, ⟨(some 21), none, (.un .not (.t 20)), []⟩, ⟨(some 17), none, (.mov (.t 21)), []⟩]) (.cond (.t 17) (.seq (.reg false [⟨(some 2), none, (.mov (.c (.int .i64 5))), []⟩]) .ret) (.seq (.reg false [⟨(some 23), none, (.faddr (.t 4) 1), []⟩, ⟨(some 24), none, (.ld (.t 23) none), []⟩, ⟨(some 25), none, (.len false (.t 24)), []⟩, ⟨(some 26), none, (.bin .gtr (.t 25) (.c (.int .i64 200))), []⟩, ⟨(some 22), none, (.mov (.t 26)), []⟩]) (.cond (.t 22) (.seq (.reg false [⟨(some 2), none, (.mov (.c (.int .i64 2))), []⟩]) .ret) .skip))))) (.seq (.seq (.reg false [⟨(some 27), none, (.faddr (.t 4) 1), []⟩, ⟨(some 28), none, (.ld (.t 27) none), []⟩, ⟨(some 29), none, (.len false (.t 28)), []⟩, ⟨(some 30), none, (.mov (.c (.int .i64 0))), []⟩]) (.block 3 (.loop l68_0))) (.seq (.reg true [⟨(some 68), none, (.mov (.t 3)), []⟩, ⟨(some 69), none, (.bin .gtr (.t 68) (.c (.int .i64 0))), []⟩, ⟨(some 70), none, (.mov (.t 69)), []⟩, ⟨(some 71), (some (70, true)), (.faddr (.t 4) 0), []⟩, ⟨(some 72), (some (70, true)), (.ld (.t 71) none), []⟩, ⟨(some 73), (some (70, true)), (.mov (.t 0)), []⟩, ⟨(some 74), (some (70, true)), (.mov (.t 3)), []⟩, ⟨(some 75), (some (70, true)), (.bin .sub (.t 74) (.c (.int .i64 1))), []⟩, ⟨(some 76), (some (70, true)), (.iaddr (.t 73) (.t 75) 2), []⟩, ⟨(some 77), (some (70, true)), (.faddr (.t 76) 0), []⟩, ⟨(some 78), (some (70, true)), (.ld (.t 77) none), []⟩, ⟨(some 79), (some (70, true)), (.bin .leq (.t 72) (.t 78)), []⟩, ⟨(some 80), none, (.pick (.t 70) (.t 79) (.c (.bool false))), []⟩]) (.cond (.t 80) (.seq (.reg false [⟨(some 2), none, (.mov (.c (.int .i64 8))), []⟩]) .ret) .skip))))))
abbrev l68_1 : Cmd := cnt 0 13 12 11 81 k68_1
def c68 : Cmd := (.seq (.reg false [⟨(some 2), none, (.mov (.c (.int .i64 0))), []⟩]) (.seq (.seq (.reg false [⟨(some 7), none, (.mov (.t 0)), []⟩, ⟨(some 8), none, (.len false (.t 7)), []⟩, ⟨(some 9), none, (.bin .gtr (.t 8) (.c (.int .i64 100))), []⟩]) (.cond (.t 9) (.seq (.reg false [⟨(some 2), none, (.mov (.c (.int .i64 2))), []⟩]) .ret) .skip)) (.seq (.seq (.reg false [⟨(some 10), none, (.mov (.t 0)), []⟩, ⟨(some 11), none, (.len false (.t 10)), []⟩, ⟨(some 12), none, (.mov (.c (.int .i64 0))), []⟩]) (.block 0 (.loop l68_1))) (.seq (.reg false [⟨(some 2), none, (.mov (.c (.int .i64 0))), []⟩]) .ret))))
theorem h68 : compF Try.prog sh 68 = some (c68, [2], 82) := by kernel_rfl
def l124_0 : Cmd := (.seq (.seq (.reg false [⟨(some 7), none, (.mov (.t 3)), []⟩, ⟨(some 8), none, (.mov (.t 0)), []⟩, ⟨(some 9), none, (.len false (.t 8)), []⟩, ⟨(some 10), none, (.bin .lss (.t 7) (.t 9)), []⟩]) (.cond (.t 10) .skip (.exit 0))) (.seq (.block 1 (.seq (.seq (.reg false [⟨(some 13), none, (.mov (.t 0)), []⟩, ⟨(some 14), none, (.mov (.t 3)), []⟩, ⟨(some 15), none, (.iaddr (.t 13) (.t 14) 2), []⟩, ⟨(some 16), none, (.faddr (.t 15) 0), []⟩, ⟨(some 17), none, (.ld (.t 16) none), []⟩, ⟨(some 18), none, (.call 73 [(.t 17)]), []⟩, ⟨(some 19), none, (.un .not (.t 18)), []⟩, ⟨(some 20), none, (.mov (.t 19)), []⟩, ⟨(some 21), (some (20, false)), (.mov (.t 0)), []⟩, ⟨(some 22), (some (20, false)), (.mov (.t 3)), []⟩, ⟨(some 23), (some (20, false)), (.iaddr (.t 21) (.t 22) 2), []⟩, ⟨(some 24), (some (20, false)), (.faddr (.t 23) 1), []⟩, ⟨(some 25), (some (20, false)), (.ld (.t 24) none), []⟩, ⟨(some 26), (some (20, false)), (.call 73 [(.t 25)]), []⟩, ⟨(some 27), (some (20, false)), (.un .not (.t 26)), []⟩, ⟨(some 28), none, (.pick (.t 20) (.c (.bool true)) (.t 27)), []⟩]) (.cond (.t 28) (.seq (.reg false [⟨(some 2), none, (.mov (.c (.int .i64 1))), []⟩]) .ret) .skip)) (.seq (.seq (.reg true [⟨(some 29), none, (.mov (.t 0)), []⟩, ⟨(some 30), none, (.mov (.t 3)), []⟩, ⟨(some 31), none, (.iaddr (.t 29) (.t 30) 2), []⟩, ⟨(some 32), none, (.faddr (.t 31) 1), []⟩, ⟨(some 33), none, (.ld (.t 32) none), []⟩, ⟨(some 34), none, (.mov (.t 0)), []⟩, ⟨(some 35), none, (.mov (.t 3)), []⟩, ⟨(some 36), none, (.iaddr (.t 34) (.t 35) 2), []⟩, ⟨(some 37), none, (.faddr (.t 36) 0), []⟩, ⟨(some 38), none, (.ld (.t 37) none), []⟩, ⟨(some 39), none, (.bin .leq (.t 33) (.t 38)), []⟩]) (.cond (.t 39) (.seq (.reg false [⟨(some 2), none, (.mov (.c (.int .i64 13))), []⟩]) .ret) .skip)) (.seq (.reg true [⟨(some 40), none, (.mov (.t 3)), []⟩, ⟨(some 41), none, (.bin .gtr (.t 40) (.c (.int .i64 0))), []⟩, ⟨(some 42), none, (.mov (.t 41)), []⟩, ⟨(some 43), (some (42, true)), (.mov (.t 0)), []⟩, ⟨(some 44), (some (42, true)), (.mov (.t 3)), []⟩, ⟨(some 45), (some (42, true)), (.iaddr (.t 43) (.t 44) 2), []⟩, ⟨(some 46), (some (42, true)), (.faddr (.t 45) 0), []⟩, ⟨(some 47), (some (42, true)), (.ld (.t 46) none), []⟩, ⟨(some 48), (some (42, true)), (.mov (.t 0)), []⟩, ⟨(some 49), (some (42, true)), (.mov (.t 3)), []⟩, ⟨(some 50), (some (42, true)), (.bin .sub (.t 49) (.c (.int .i64 1))), []⟩, ⟨(some 51), (some (42, true)), (.iaddr (.t 48) (.t 50) 2), []⟩, ⟨(some 52), (some (42, true)), (.faddr (.t 51) 1), []⟩, ⟨(some 53), (some (42, true)), (.ld (.t 52) none), []⟩, ⟨(some 54), (some (42, true)), (.bin .lss (.t 47) (.t 53)), []⟩, ⟨(some 55), none, (.pick (.t 42) (.t 54) (.c (.bool false))), []⟩]) (.cond (.t 55) (.seq (.reg false [⟨(some 2), none, (.mov (.c (.int .i64 8))), []⟩]) .ret) .skip))))) (.reg false [⟨(some 11), none, (.mov (.t 3)), []⟩, ⟨(some 12), none, (.bin .add (.t 11) (.c (.int .i64 1))), []⟩, ⟨(some 3), none, (.mov (.t 12)), []⟩])))
def c124 : Cmd := (.seq (.reg false [⟨(some 2), none, (.mov (.c (.int .i64 0))), []⟩]) (.seq (.seq (.reg false [⟨(some 4), none, (.mov (.t 0)), []⟩, ⟨(some 5), none, (.len false (.t 4)), []⟩, ⟨(some 6), none, (.bin .gtr (.t 5) (.c (.int .i64 200))), []⟩]) (.cond (.t 6) (.seq (.reg false [⟨(some 2), none, (.mov (.c (.int .i64 2))), []⟩]) .ret) .skip)) (.seq (.seq (.reg false [⟨(some 3), none, (.mov (.c (.int .i64 0))), []⟩]) (.block 0 (.loop l124_0))) (.seq (.reg false [⟨(some 2), none, (.mov (.c (.int .i64 0))), []⟩]) .ret))))
theorem h124 : compF Try.prog sh 124 = some (c124, [2], 56) := by kernel_rfl
def l72_0 : Cmd := (.seq (.seq (.reg false [⟨(some 8), none, (.mov (.t 3)), []⟩, ⟨(some 9), none, (.mov (.t 0)), []⟩, ⟨(some 10), none, (.len false (.t 9)), []⟩, ⟨(some 11), none, (.bin .lss (.t 8) (.t 10)), []⟩]) (.cond (.t 11) .skip (.exit 0))) (.seq (.block 1 (.seq (.seq (.reg false [⟨(some 14), none, (.mov (.t 0)), []⟩, ⟨(some 15), none, (.mov (.t 3)), []⟩, ⟨(some 16), none, (.iaddr (.t 14) (.t 15) 2), []⟩, ⟨(some 17), none, (.faddr (.t 16) 0), []⟩, ⟨(some 18), none, (.ld (.t 17) none), []⟩, ⟨(some 19), none, (.call 60 [(.t 18)]), []⟩, ⟨(some 20), none, (.un .not (.t 19)), []⟩]) (.cond (.t 20) (.seq (.reg false [⟨(some 2), none, (.mov (.c (.int .i64 5))), []⟩]) .ret) .skip)) (.seq (.seq (.reg false [⟨(some 21), none, (.mov (.t 0)), []⟩, ⟨(some 22), none, (.mov (.t 3)), []⟩, ⟨(some 23), none, (.iaddr (.t 21) (.t 22) 2), []⟩, ⟨(some 24), none, (.faddr (.t 23) 1), []⟩, ⟨(some 25), none, (.ld (.t 24) none), []⟩, ⟨(some 26), none, (.call 124 [(.t 25)]), []⟩, ⟨(some 4), none, (.mov (.t 26)), []⟩]) (.seq (.reg false [⟨(some 27), none, (.mov (.t 4)), []⟩, ⟨(some 28), none, (.bin .neq (.t 27) (.c (.int .i64 0))), []⟩]) (.cond (.t 28) (.seq (.reg false [⟨(some 29), none, (.mov (.t 4)), []⟩, ⟨(some 2), none, (.mov (.t 29)), []⟩]) .ret) .skip))) (.seq (.reg true [⟨(some 30), none, (.mov (.t 3)), []⟩, ⟨(some 31), none, (.bin .gtr (.t 30) (.c (.int .i64 0))), []⟩, ⟨(some 32), none, (.mov (.t 31)), []⟩, ⟨(some 33), (some (32, true)), (.mov (.t 0)), []⟩, ⟨(some 34), (some (32, true)), (.mov (.t 3)), []⟩, ⟨(some 35), (some (32, true)), (.iaddr (.t 33) (.t 34) 2), []⟩, ⟨(some 36), (some (32, true)), (.faddr (.t 35) 0), []⟩, ⟨(some 37), (some (32, true)), (.ld (.t 36) none), []⟩, ⟨(some 38), (some (32, true)), (.mov (.t 0)), []⟩, ⟨(some 39), (some (32, true)), (.mov (.t 3)), []⟩, ⟨(some 40), (some (32, true)), (.bin .sub (.t 39) (.c (.int .i64 1))), []⟩, ⟨(some 41), (some (32, true)), (.iaddr (.t 38) (.t 40) 2), []⟩, ⟨(some 42), (some (32, true)), (.faddr (.t 41) 0), []⟩, ⟨(some 43), (some (32, true)), (.ld (.t 42) none), []⟩, ⟨(some 44), (some (32, true)), (.bin .leq (.t 37) (.t 43)), []⟩, ⟨(some 45), none, (.pick (.t 32) (.t 44) (.c (.bool false))), []⟩]) (.cond (.t 45) (.seq (.reg false [⟨(some 2), none, (.mov (.c (.int .i64 8))), []⟩]) .ret) .skip))))) (.reg false [⟨(some 12), none, (.mov (.t 3)), []⟩, ⟨(some 13), none, (.bin .add (.t 12) (.c (.int .i64 1))), []⟩, ⟨(some 3), none, (.mov (.t 13)), []⟩])))
def c72 : Cmd := (.seq (.reg false [⟨(some 2), none, (.mov (.c (.int .i64 0))), []⟩]) (.seq (.seq (.reg false [⟨(some 5), none, (.mov (.t 0)), []⟩, ⟨(some 6), none, (.len false (.t 5)), []⟩, ⟨(some 7), none, (.bin .gtr (.t 6) (.c (.int .i64 100))), []⟩]) (.cond (.t 7) (.seq (.reg false [⟨(some 2), none, (.mov (.c (.int .i64 2))), []⟩]) .ret) .skip)) (.seq (.seq (.reg false [⟨(some 3), none, (.mov (.c (.int .i64 0))), []⟩]) (.block 0 (.loop l72_0))) (.seq (.reg false [⟨(some 2), none, (.mov (.c (.int .i64 0))), []⟩]) .ret))))
theorem h72 : compF Try.prog sh 72 = some (c72, [2], 46) := by kernel_rfl
def k141_0 : Cmd := (.block 1 (.seq (.reg false [⟨(some 12), none, (.iaddr (.t 8) (.t 10) 2), []⟩, ⟨(some 13), none, (.ld (.t 12) (some 2)), []⟩, ⟨(some 7), none, (.alloc [(.int .i64 0), (.int .i64 0)]), []⟩, ⟨none, none, (.st (.t 7) (.t 13) 2), []⟩]) (.seq (.reg false [⟨(some 14), none, (.mov (.t 1)), []⟩, ⟨(some 15), none, (.faddr (.t 7) 1), []⟩, ⟨(some 16), none, (.ld (.t 15) none), []⟩, ⟨(some 17), none, (.bin .lss (.t 14) (.t 16)), []⟩]) (.cond (.t 17) (.seq (.reg false [⟨(some 18), none, (.mov (.t 1)), []⟩, ⟨(some 19), none, (.faddr (.t 7) 0), []⟩, ⟨(some 20), none, (.ld (.t 19) none), []⟩, ⟨(some 21), none, (.mm true (.t 18) (.t 20)), []⟩, ⟨(some 4), none, (.mov (.t 21)), []⟩, ⟨(some 5), none, (.mov (.c (.bool true))), []⟩]) .ret) .skip))))
abbrev l141_0 : Cmd := cnt 0 11 10 9 22 k141_0
def c141 : Cmd := (.seq (.reg false [⟨(some 4), none, (.mov (.c (.int .i64 0))), []⟩, ⟨(some 5), none, (.mov (.c (.bool false))), []⟩]) (.seq (.seq (.reg false [⟨(some 8), none, (.mov (.t 0)), []⟩, ⟨(some 9), none, (.len false (.t 8)), []⟩, ⟨(some 10), none, (.mov (.c (.int .i64 0))), []⟩]) (.block 0 (.loop l141_0))) (.seq (.reg false [⟨(some 4), none, (.mov (.c (.int .i64 0))), []⟩, ⟨(some 5), none, (.mov (.c (.bool false))), []⟩]) .ret)))
theorem h141 : compF Try.prog sh 141 = some (c141, [4, 5], 23) := by kernel_rfl
def k158_0 : Cmd := (.block 1 (.seq (.reg false [⟨(some 11), none, (.iaddr (.t 7) (.t 9) 2), []⟩, ⟨(some 12), none, (.ld (.t 11) (some 2)), []⟩, ⟨(some 6), none, (.alloc [(.str []), .ns]), []⟩, ⟨none, none, (.st (.t 6) (.t 12) 2), []⟩]) (.seq (.reg false [⟨(some 13), none, (.faddr (.t 6) 0), []⟩, ⟨(some 14), none, (.ld (.t 13) none), []⟩, ⟨(some 15), none, (.mov (.t 1)), []⟩, ⟨(some 16), none, (.bin .eql (.t 14) (.t 15)), []⟩]) (.cond (.t 16) (.seq (.reg false [⟨(some 17), none, (.faddr (.t 6) 1), []⟩, ⟨(some 18), none, (.ld (.t 17) none), []⟩, ⟨(some 4), none, (.mov (.t 18)), []⟩]) .ret) .skip))))
abbrev l158_0 : Cmd := cnt 0 10 9 8 19 k158_0
def c158 : Cmd := (.seq (.reg false [⟨(some 4), none, (.mov (.c .ns)), []⟩]) (.seq (.seq (.reg false [⟨(some 7), none, (.mov (.t 0)), []⟩, ⟨(some 8), none, (.len false (.t 7)), []⟩, ⟨(some 9), none, (.mov (.c (.int .i64 0))), []⟩]) (.block 0 (.loop l158_0))) (.seq (.reg false [⟨(some 4), none, (.mov (.c .ns)), []⟩]) .ret)))
theorem h158 : compF Try.prog sh 158 = some (c158, [4], 20) := by kernel_rfl
def c118 : Cmd := (.seq (.reg false [⟨(some 6), none, (.mov (.c (.bool false))), []⟩]) (.seq (.reg false [⟨(some 10), none, (.mov (.t 0)), []⟩, ⟨(some 11), none, (.mov (.t 1)), []⟩, ⟨(some 12), none, (.call 158 [(.t 10), (.t 11)]), []⟩, ⟨(some 13), none, (.mov (.t 2)), []⟩, ⟨(some 14), none, (.call 141 [(.t 12), (.t 13)]), []⟩, ⟨(some 9), none, (.mov (.t 14)), []⟩, ⟨(some 15), none, (.ext (.t 9) 0), []⟩, ⟨(some 16), none, (.ext (.t 9) 1), []⟩, ⟨(some 7), none, (.mov (.t 15)), []⟩, ⟨(some 8), none, (.mov (.t 16)), []⟩]) (.seq (.reg false [⟨(some 17), none, (.mov (.t 8)), []⟩, ⟨(some 18), none, (.mov (.t 17)), []⟩, ⟨(some 19), (some (18, true)), (.mov (.t 7)), []⟩, ⟨(some 20), (some (18, true)), (.mov (.t 2)), []⟩, ⟨(some 21), (some (18, true)), (.bin .eql (.t 19) (.t 20)), []⟩, ⟨(some 22), none, (.pick (.t 18) (.t 21) (.c (.bool false))), []⟩, ⟨(some 6), none, (.mov (.t 22)), []⟩]) .ret)))
theorem h118 : compF Try.prog sh 118 = some (c118, [6], 23) := by kernel_rfl
def c66 : Cmd := (.seq (.reg false [⟨(some 6), none, (.mov (.c (.bool false))), []⟩, ⟨(some 7), none, (.mov (.c (.int .i64 0))), []⟩]) (.seq (.seq (.reg false [⟨(some 9), none, (.mov (.t 0)), []⟩, ⟨(some 10), none, (.call 68 [(.t 9)]), []⟩, ⟨(some 8), none, (.mov (.t 10)), []⟩]) (.seq (.reg false [⟨(some 11), none, (.mov (.t 8)), []⟩, ⟨(some 12), none, (.bin .neq (.t 11) (.c (.int .i64 0))), []⟩]) (.cond (.t 12) (.seq (.reg false [⟨(some 13), none, (.mov (.t 8)), []⟩, ⟨(some 6), none, (.mov (.c (.bool false))), []⟩, ⟨(some 7), none, (.mov (.t 13)), []⟩]) .ret) .skip))) (.seq (.block 0 (.seq (.reg false [⟨(some 15), none, (.mov (.t 1)), []⟩, ⟨(some 16), none, (.call 91 [(.t 15)]), []⟩, ⟨(some 17), none, (.un .not (.t 16)), []⟩, ⟨(some 14), none, (.mov (.t 17)), []⟩]) (.cond (.t 14) (.seq (.reg false [⟨(some 6), none, (.mov (.c (.bool false))), []⟩, ⟨(some 7), none, (.mov (.c (.int .i64 5))), []⟩]) .ret) (.seq (.reg false [⟨(some 19), none, (.mov (.t 2)), []⟩, ⟨(some 20), none, (.call 64 [(.t 19), (.c (.int .i64 0)), (.c (.int .i64 1000000000000))]), []⟩, ⟨(some 21), none, (.un .not (.t 20)), []⟩, ⟨(some 18), none, (.mov (.t 21)), []⟩]) (.cond (.t 18) (.seq (.reg false [⟨(some 6), none, (.mov (.c (.bool false))), []⟩, ⟨(some 7), none, (.mov (.c (.int .i64 1))), []⟩]) .ret) .skip))))) (.seq (.reg false [⟨(some 22), none, (.mov (.t 0)), []⟩, ⟨(some 23), none, (.mov (.t 1)), []⟩, ⟨(some 24), none, (.mov (.t 2)), []⟩, ⟨(some 25), none, (.call 118 [(.t 22), (.t 23), (.t 24)]), []⟩, ⟨(some 6), none, (.mov (.t 25)), []⟩, ⟨(some 7), none, (.mov (.c (.int .i64 0))), []⟩]) .ret))))
theorem h66 : compF Try.prog sh 66 = some (c66, [6, 7], 26) := by kernel_rfl
def l161_0 : Cmd := (.seq (.seq (.reg false [⟨(some 6), none, (.mov (.t 5)), []⟩, ⟨(some 7), none, (.mov (.t 0)), []⟩, ⟨(some 8), none, (.len false (.t 7)), []⟩, ⟨(some 9), none, (.bin .lss (.t 6) (.t 8)), []⟩]) (.cond (.t 9) .skip (.exit 0))) (.seq (.block 1 (.seq (.reg false [⟨(some 12), none, (.mov (.t 0)), []⟩, ⟨(some 13), none, (.mov (.t 5)), []⟩, ⟨(some 14), none, (.iaddr (.t 12) (.t 13) 2), []⟩, ⟨(some 15), none, (.faddr (.t 14) 0), []⟩, ⟨(some 16), none, (.ld (.t 15) none), []⟩, ⟨(some 17), none, (.mov (.t 1)), []⟩, ⟨(some 18), none, (.bin .leq (.t 16) (.t 17)), []⟩, ⟨(some 19), none, (.mov (.t 18)), []⟩, ⟨(some 20), (some (19, true)), (.mov (.t 1)), []⟩, ⟨(some 21), (some (19, true)), (.mov (.t 0)), []⟩, ⟨(some 22), (some (19, true)), (.mov (.t 5)), []⟩, ⟨(some 23), (some (19, true)), (.iaddr (.t 21) (.t 22) 2), []⟩, ⟨(some 24), (some (19, true)), (.faddr (.t 23) 1), []⟩, ⟨(some 25), (some (19, true)), (.ld (.t 24) none), []⟩, ⟨(some 26), (some (19, true)), (.bin .lss (.t 20) (.t 25)), []⟩, ⟨(some 27), none, (.pick (.t 19) (.t 26) (.c (.bool false))), []⟩]) (.cond (.t 27) (.seq (.reg false [⟨(some 4), none, (.mov (.c (.bool true))), []⟩]) .ret) .skip))) (.reg false [⟨(some 10), none, (.mov (.t 5)), []⟩, ⟨(some 11), none, (.bin .add (.t 10) (.c (.int .i64 1))), []⟩, ⟨(some 5), none, (.mov (.t 11)), []⟩])))
def c161 : Cmd := (.seq (.reg false [⟨(some 4), none, (.mov (.c (.bool false))), []⟩]) (.seq (.seq (.reg false [⟨(some 5), none, (.mov (.c (.int .i64 0))), []⟩]) (.block 0 (.loop l161_0))) (.seq (.reg false [⟨(some 4), none, (.mov (.c (.bool false))), []⟩]) .ret)))
theorem h161 : compF Try.prog sh 161 = some (c161, [4], 28) := by kernel_rfl
def l160_0 : Cmd := (.seq (.seq (.reg false [⟨(some 6), none, (.mov (.t 5)), []⟩, ⟨(some 7), none, (.mov (.t 0)), []⟩, ⟨(some 8), none, (.len false (.t 7)), []⟩, ⟨(some 9), none, (.bin .lss (.t 6) (.t 8)), []⟩]) (.cond (.t 9) .skip (.exit 0))) (.seq (.block 1 (.seq (.reg false [⟨(some 12), none, (.mov (.t 0)), []⟩, ⟨(some 13), none, (.mov (.t 5)), []⟩, ⟨(some 14), none, (.iaddr (.t 12) (.t 13) 2), []⟩, ⟨(some 15), none, (.faddr (.t 14) 0), []⟩, ⟨(some 16), none, (.ld (.t 15) none), []⟩, ⟨(some 17), none, (.mov (.t 1)), []⟩, ⟨(some 18), none, (.bin .eql (.t 16) (.t 17)), []⟩]) (.cond (.t 18) (.seq (.reg false [⟨(some 19), none, (.mov (.t 0)), []⟩, ⟨(some 20), none, (.mov (.t 5)), []⟩, ⟨(some 21), none, (.iaddr (.t 19) (.t 20) 2), []⟩, ⟨(some 22), none, (.faddr (.t 21) 1), []⟩, ⟨(some 23), none, (.ld (.t 22) none), []⟩, ⟨(some 4), none, (.mov (.t 23)), []⟩]) .ret) .skip))) (.reg false [⟨(some 10), none, (.mov (.t 5)), []⟩, ⟨(some 11), none, (.bin .add (.t 10) (.c (.int .i64 1))), []⟩, ⟨(some 5), none, (.mov (.t 11)), []⟩])))
def c160 : Cmd := (.seq (.reg false [⟨(some 4), none, (.mov (.c .ns)), []⟩]) (.seq (.seq (.reg false [⟨(some 5), none, (.mov (.c (.int .i64 0))), []⟩]) (.block 0 (.loop l160_0))) (.seq (.reg false [⟨(some 4), none, (.mov (.c .ns)), []⟩]) .ret)))
theorem h160 : compF Try.prog sh 160 = some (c160, [4], 24) := by kernel_rfl
def c127 : Cmd := (.seq (.reg false [⟨(some 6), none, (.mov (.c (.bool false))), []⟩]) (.seq (.reg false [⟨(some 7), none, (.mov (.t 0)), []⟩, ⟨(some 8), none, (.mov (.t 1)), []⟩, ⟨(some 9), none, (.call 160 [(.t 7), (.t 8)]), []⟩, ⟨(some 10), none, (.mov (.t 2)), []⟩, ⟨(some 11), none, (.call 161 [(.t 9), (.t 10)]), []⟩, ⟨(some 6), none, (.mov (.t 11)), []⟩]) .ret))
theorem h127 : compF Try.prog sh 127 = some (c127, [6], 12) := by kernel_rfl
def k162_0 : Cmd := (.block 1 (.seq (.reg false [⟨(some 8), none, (.mov (.t 6)), []⟩, ⟨(some 3), none, (.mov (.t 8)), []⟩]) (.seq (.reg false [⟨(some 9), none, (.mov (.t 0)), []⟩, ⟨(some 10), none, (.mov (.t 3)), []⟩, ⟨(some 11), none, (.idx (.t 9) (.t 10)), []⟩, ⟨(some 12), none, (.bin .lss (.t 11) (.c (.int .u8 32))), []⟩, ⟨(some 13), none, (.mov (.t 12)), []⟩, ⟨(some 14), (some (13, false)), (.mov (.t 0)), []⟩, ⟨(some 15), (some (13, false)), (.mov (.t 3)), []⟩, ⟨(some 16), (some (13, false)), (.idx (.t 14) (.t 15)), []⟩, ⟨(some 17), (some (13, false)), (.bin .gtr (.t 16) (.c (.int .u8 126))), []⟩, ⟨(some 18), none, (.pick (.t 13) (.c (.bool true)) (.t 17)), []⟩]) (.cond (.t 18) (.seq (.reg false [⟨(some 2), none, (.mov (.c (.bool false))), []⟩]) .ret) .skip))))
abbrev l162_0 : Cmd := cnt 0 7 6 5 19 k162_0
def c162 : Cmd := (.seq (.reg false [⟨(some 2), none, (.mov (.c (.bool false))), []⟩]) (.seq (.seq (.reg false [⟨(some 4), none, (.mov (.t 0)), []⟩, ⟨(some 5), none, (.len true (.t 4)), []⟩, ⟨(some 6), none, (.mov (.c (.int .i64 0))), []⟩]) (.block 0 (.loop l162_0))) (.seq (.reg false [⟨(some 20), none, (.mov (.t 0)), []⟩, ⟨(some 21), none, (.bin .neq (.t 20) (.c (.str []))), []⟩, ⟨(some 2), none, (.mov (.t 21)), []⟩]) .ret)))
theorem h162 : compF Try.prog sh 162 = some (c162, [2], 22) := by kernel_rfl
def c128 : Cmd := (.seq (.reg false [⟨(some 2), none, (.mov (.c (.bool false))), []⟩]) (.seq (.reg false [⟨(some 3), none, (.mov (.t 0)), []⟩, ⟨(some 4), none, (.call 162 [(.t 3)]), []⟩, ⟨(some 5), none, (.mov (.t 4)), []⟩, ⟨(some 6), (some (5, true)), (.mov (.t 0)), []⟩, ⟨(some 7), (some (5, true)), (.len true (.t 6)), []⟩, ⟨(some 8), (some (5, true)), (.bin .leq (.t 7) (.c (.int .i64 100))), []⟩, ⟨(some 9), none, (.pick (.t 5) (.t 8) (.c (.bool false))), []⟩, ⟨(some 10), none, (.mov (.t 9)), []⟩, ⟨(some 11), (some (10, true)), (.mov (.t 0)), []⟩, ⟨(some 12), (some (10, true)), (.idx (.t 11) (.c (.int .i64 0))), []⟩, ⟨(some 13), (some (10, true)), (.bin .neq (.t 12) (.c (.int .u8 32))), []⟩, ⟨(some 14), none, (.pick (.t 10) (.t 13) (.c (.bool false))), []⟩, ⟨(some 15), none, (.mov (.t 14)), []⟩, ⟨(some 16), (some (15, true)), (.mov (.t 0)), []⟩, ⟨(some 17), (some (15, true)), (.mov (.t 0)), []⟩, ⟨(some 18), (some (15, true)), (.len true (.t 17)), []⟩, ⟨(some 19), (some (15, true)), (.bin .sub (.t 18) (.c (.int .i64 1))), []⟩, ⟨(some 20), (some (15, true)), (.idx (.t 16) (.t 19)), []⟩, ⟨(some 21), (some (15, true)), (.bin .neq (.t 20) (.c (.int .u8 32))), []⟩, ⟨(some 22), none, (.pick (.t 15) (.t 21) (.c (.bool false))), []⟩, ⟨(some 2), none, (.mov (.t 22)), []⟩]) .ret))
theorem h128 : compF Try.prog sh 128 = some (c128, [2], 23) := by kernel_rfl
def l116_0 : Cmd := (.seq (.seq (.reg false [⟨(some 4), none, (.mov (.t 3)), []⟩, ⟨(some 5), none, (.mov (.t 0)), []⟩, ⟨(some 6), none, (.len true (.t 5)), []⟩, ⟨(some 7), none, (.bin .lss (.t 4) (.t 6)), []⟩]) (.cond (.t 7) .skip (.exit 0))) (.seq (.block 1 (.seq (.reg false [⟨(some 10), none, (.mov (.t 0)), []⟩, ⟨(some 11), none, (.mov (.t 3)), []⟩, ⟨(some 12), none, (.idx (.t 10) (.t 11)), []⟩, ⟨(some 13), none, (.bin .lss (.t 12) (.c (.int .u8 32))), []⟩, ⟨(some 14), none, (.mov (.t 13)), []⟩, ⟨(some 15), (some (14, false)), (.mov (.t 0)), []⟩, ⟨(some 16), (some (14, false)), (.mov (.t 3)), []⟩, ⟨(some 17), (some (14, false)), (.idx (.t 15) (.t 16)), []⟩, ⟨(some 18), (some (14, false)), (.bin .gtr (.t 17) (.c (.int .u8 126))), []⟩, ⟨(some 19), none, (.pick (.t 14) (.c (.bool true)) (.t 18)), []⟩]) (.cond (.t 19) (.seq (.reg false [⟨(some 2), none, (.mov (.c (.bool false))), []⟩]) .ret) .skip))) (.reg false [⟨(some 8), none, (.mov (.t 3)), []⟩, ⟨(some 9), none, (.bin .add (.t 8) (.c (.int .i64 1))), []⟩, ⟨(some 3), none, (.mov (.t 9)), []⟩])))
def c116 : Cmd := (.seq (.reg false [⟨(some 2), none, (.mov (.c (.bool false))), []⟩]) (.seq (.seq (.reg false [⟨(some 3), none, (.mov (.c (.int .i64 0))), []⟩]) (.block 0 (.loop l116_0))) (.seq (.reg false [⟨(some 20), none, (.mov (.t 0)), []⟩, ⟨(some 21), none, (.len true (.t 20)), []⟩, ⟨(some 22), none, (.call 65 [(.t 21), (.c (.int .i64 1)), (.c (.int .i64 100))]), []⟩, ⟨(some 23), none, (.mov (.t 22)), []⟩, ⟨(some 24), (some (23, true)), (.mov (.t 0)), []⟩, ⟨(some 25), (some (23, true)), (.idx (.t 24) (.c (.int .i64 0))), []⟩, ⟨(some 26), (some (23, true)), (.bin .neq (.t 25) (.c (.int .u8 32))), []⟩, ⟨(some 27), none, (.pick (.t 23) (.t 26) (.c (.bool false))), []⟩, ⟨(some 28), none, (.mov (.t 27)), []⟩, ⟨(some 29), (some (28, true)), (.mov (.t 0)), []⟩, ⟨(some 30), (some (28, true)), (.mov (.t 0)), []⟩, ⟨(some 31), (some (28, true)), (.len true (.t 30)), []⟩, ⟨(some 32), (some (28, true)), (.bin .sub (.t 31) (.c (.int .i64 1))), []⟩, ⟨(some 33), (some (28, true)), (.idx (.t 29) (.t 32)), []⟩, ⟨(some 34), (some (28, true)), (.bin .neq (.t 33) (.c (.int .u8 32))), []⟩, ⟨(some 35), none, (.pick (.t 28) (.t 34) (.c (.bool false))), []⟩, ⟨(some 2), none, (.mov (.t 35)), []⟩]) .ret)))
theorem h116 : compF Try.prog sh 116 = some (c116, [2], 36) := by kernel_rfl
def c77 : Cmd := (.seq (.reg false [⟨(some 1), none, (.box (.t 0)), []⟩, ⟨(some 2), none, (.mov (.c (.int .i64 0))), []⟩]) (.seq (.block 0 (.seq (.reg false [⟨(some 4), none, (.faddr (.t 1) 0), []⟩, ⟨(some 5), none, (.ld (.t 4) none), []⟩, ⟨(some 6), none, (.call 64 [(.t 5), (.c (.int .i64 1)), (.c (.int .i64 1000000000000))]), []⟩, ⟨(some 7), none, (.un .not (.t 6)), []⟩, ⟨(some 8), none, (.mov (.t 7)), []⟩, ⟨(some 9), (some (8, false)), (.faddr (.t 1) 1), []⟩, ⟨(some 10), (some (8, false)), (.ld (.t 9) none), []⟩, ⟨(some 11), (some (8, false)), (.call 64 [(.t 10), (.c (.int .i64 0)), (.c (.int .i64 1000000000000))]), []⟩, ⟨(some 12), (some (8, false)), (.un .not (.t 11)), []⟩, ⟨(some 13), none, (.pick (.t 8) (.c (.bool true)) (.t 12)), []⟩, ⟨(some 3), none, (.mov (.t 13)), []⟩]) (.cond (.t 3) (.seq (.reg false [⟨(some 2), none, (.mov (.c (.int .i64 1))), []⟩]) .ret) (.seq (.reg false [⟨(some 15), none, (.faddr (.t 1) 2), []⟩, ⟨(some 16), none, (.ld (.t 15) none), []⟩, ⟨(some 17), none, (.call 128 [(.t 16)]), []⟩, ⟨(some 18), none, (.un .not (.t 17)), []⟩, ⟨(some 14), none, (.mov (.t 18)), []⟩]) (.cond (.t 14) (.seq (.reg false [⟨(some 2), none, (.mov (.c (.int .i64 3))), []⟩]) .ret) (.seq (.reg false [⟨(some 20), none, (.faddr (.t 1) 3), []⟩, ⟨(some 21), none, (.ld (.t 20) none), []⟩, ⟨(some 22), none, (.bin .neq (.t 21) (.c (.str []))), []⟩, ⟨(some 23), none, (.mov (.t 22)), []⟩, ⟨(some 24), (some (23, true)), (.faddr (.t 1) 3), []⟩, ⟨(some 25), (some (23, true)), (.ld (.t 24) none), []⟩, ⟨(some 26), (some (23, true)), (.call 91 [(.t 25)]), []⟩, ⟨(some 27), (some (23, true)), (.un .not (.t 26)), []⟩, ⟨(some 28), none, (.pick (.t 23) (.t 27) (.c (.bool false))), []⟩, ⟨(some 29), none, (.mov (.t 28)), []⟩, ⟨(some 30), (some (29, false)), (.faddr (.t 1) 4), []⟩, ⟨(some 31), (some (29, false)), (.ld (.t 30) none), []⟩, ⟨(some 32), (some (29, false)), (.bin .neq (.t 31) (.c (.str []))), []⟩, ⟨(some 33), (some (29, false)), (.mov (.t 32)), []⟩, ⟨(some 34), (some (33, true)), (.faddr (.t 1) 4), []⟩, ⟨(some 35), (some (33, true)), (.ld (.t 34) none), []⟩, ⟨(some 36), (some (33, true)), (.call 91 [(.t 35)]), []⟩, ⟨(some 37), (some (33, true)), (.un .not (.t 36)), []⟩, ⟨(some 38), (some (29, false)), (.pick (.t 33) (.t 37) (.c (.bool false))), []⟩, ⟨(some 39), none, (.pick (.t 29) (.c (.bool true)) (.t 38)), []⟩, ⟨(some 19), none, (.mov (.t 39)), []⟩]) (.cond (.t 19) (.seq (.reg false [⟨(some 2), none, (.mov (.c (.int .i64 5))), []⟩]) .ret) (.seq (.reg false [⟨(some 41), none, (.faddr (.t 1) 5), []⟩, ⟨(some 42), none, (.ld (.t 41) none), []⟩, ⟨(some 43), none, (.mov (.t 42)), []⟩, ⟨(some 44), (some (43, true)), (.faddr (.t 1) 4), []⟩, ⟨(some 45), (some (43, true)), (.ld (.t 44) none), []⟩, ⟨(some 46), (some (43, true)), (.bin .eql (.t 45) (.c (.str []))), []⟩, ⟨(some 47), none, (.pick (.t 43) (.t 46) (.c (.bool false))), []⟩, ⟨(some 40), none, (.mov (.t 47)), []⟩]) (.cond (.t 40) (.seq (.reg false [⟨(some 2), none, (.mov (.c (.int .i64 3))), []⟩]) .ret) .skip))))))))) (.seq (.reg false [⟨(some 2), none, (.mov (.c (.int .i64 0))), []⟩]) .ret)))
theorem h77 : compF Try.prog sh 77 = some (c77, [2], 48) := by kernel_rfl
def c83 : Cmd := (.seq (.reg false [⟨(some 1), none, (.box (.t 0)), []⟩, ⟨(some 2), none, (.mov (.c (.int .i64 0))), []⟩]) (.seq (.seq (.reg false [⟨(some 3), none, (.faddr (.t 1) 0), []⟩, ⟨(some 4), none, (.ld (.t 3) none), []⟩, ⟨(some 5), none, (.call 65 [(.t 4), (.c (.int .i64 1)), (.c (.int .i64 1000000000000))]), []⟩, ⟨(some 6), none, (.un .not (.t 5)), []⟩, ⟨(some 7), none, (.mov (.t 6)), []⟩, ⟨(some 8), (some (7, false)), (.faddr (.t 1) 1), []⟩, ⟨(some 9), (some (7, false)), (.ld (.t 8) none), []⟩, ⟨(some 10), (some (7, false)), (.call 73 [(.t 9)]), []⟩, ⟨(some 11), (some (7, false)), (.un .not (.t 10)), []⟩, ⟨(some 12), none, (.pick (.t 7) (.c (.bool true)) (.t 11)), []⟩]) (.cond (.t 12) (.seq (.reg false [⟨(some 2), none, (.mov (.c (.int .i64 1))), []⟩]) .ret) .skip)) (.seq (.seq (.reg false [⟨(some 13), none, (.faddr (.t 1) 2), []⟩, ⟨(some 14), none, (.ld (.t 13) none), []⟩, ⟨(some 15), none, (.call 116 [(.t 14)]), []⟩, ⟨(some 16), none, (.un .not (.t 15)), []⟩]) (.cond (.t 16) (.seq (.reg false [⟨(some 2), none, (.mov (.c (.int .i64 3))), []⟩]) .ret) .skip)) (.seq (.seq (.reg false [⟨(some 17), none, (.faddr (.t 1) 3), []⟩, ⟨(some 18), none, (.ld (.t 17) none), []⟩, ⟨(some 19), none, (.bin .neq (.t 18) (.c (.str []))), []⟩, ⟨(some 20), none, (.mov (.t 19)), []⟩, ⟨(some 21), (some (20, true)), (.faddr (.t 1) 3), []⟩, ⟨(some 22), (some (20, true)), (.ld (.t 21) none), []⟩, ⟨(some 23), (some (20, true)), (.call 60 [(.t 22)]), []⟩, ⟨(some 24), (some (20, true)), (.un .not (.t 23)), []⟩, ⟨(some 25), none, (.pick (.t 20) (.t 24) (.c (.bool false))), []⟩, ⟨(some 26), none, (.mov (.t 25)), []⟩, ⟨(some 27), (some (26, false)), (.faddr (.t 1) 4), []⟩, ⟨(some 28), (some (26, false)), (.ld (.t 27) none), []⟩, ⟨(some 29), (some (26, false)), (.bin .neq (.t 28) (.c (.str []))), []⟩, ⟨(some 30), (some (26, false)), (.mov (.t 29)), []⟩, ⟨(some 31), (some (30, true)), (.faddr (.t 1) 4), []⟩, ⟨(some 32), (some (30, true)), (.ld (.t 31) none), []⟩, ⟨(some 33), (some (30, true)), (.call 60 [(.t 32)]), []⟩, ⟨(some 34), (some (30, true)), (.un .not (.t 33)), []⟩, ⟨(some 35), (some (26, false)), (.pick (.t 30) (.t 34) (.c (.bool false))), []⟩, ⟨(some 36), none, (.pick (.t 26) (.c (.bool true)) (.t 35)), []⟩]) (.cond (.t 36) (.seq (.reg false [⟨(some 2), none, (.mov (.c (.int .i64 5))), []⟩]) .ret) .skip)) (.seq (.seq (.reg false [⟨(some 37), none, (.faddr (.t 1) 5), []⟩, ⟨(some 38), none, (.ld (.t 37) none), []⟩, ⟨(some 39), none, (.mov (.t 38)), []⟩, ⟨(some 40), (some (39, true)), (.faddr (.t 1) 4), []⟩, ⟨(some 41), (some (39, true)), (.ld (.t 40) none), []⟩, ⟨(some 42), (some (39, true)), (.bin .eql (.t 41) (.c (.str []))), []⟩, ⟨(some 43), none, (.pick (.t 39) (.t 42) (.c (.bool false))), []⟩]) (.cond (.t 43) (.seq (.reg false [⟨(some 2), none, (.mov (.c (.int .i64 3))), []⟩]) .ret) .skip)) (.seq (.reg false [⟨(some 2), none, (.mov (.c (.int .i64 0))), []⟩]) .ret))))))
theorem h83 : compF Try.prog sh 83 = some (c83, [2], 44) := by kernel_rfl
def c69 : Cmd := (.seq (.reg false [⟨(some 6), none, (.mov (.c (.int .i64 0))), []⟩]) (.seq (.seq (.reg false [⟨(some 7), none, (.mov (.t 0)), []⟩, ⟨(some 8), none, (.mov (.t 1)), []⟩, ⟨(some 9), none, (.mov (.t 2)), []⟩, ⟨(some 10), none, (.call 64 [(.t 7), (.t 8), (.t 9)]), []⟩, ⟨(some 11), none, (.un .not (.t 10)), []⟩]) (.cond (.t 11) (.seq (.reg false [⟨(some 6), none, (.mov (.c (.int .i64 1))), []⟩]) .ret) .skip)) (.seq (.reg false [⟨(some 6), none, (.mov (.c (.int .i64 0))), []⟩]) .ret)))
theorem h69 : compF Try.prog sh 69 = some (c69, [6], 12) := by kernel_rfl
def c24 : Cmd := (.seq (.reg false [⟨(some 0), none, (.mov (.c (.bool false))), []⟩]) (.seq (.reg false [⟨(some 4), none, (.bld [(.int .i64 0), (.int .i64 0)] [(0, (1, (.c (.int .i64 1)))), (1, (1, (.c (.int .i64 3))))]), []⟩, ⟨(some 5), none, (.bs 1 2 [(.int .i64 0), (.int .i64 0)] [(0, (.t 4))]), []⟩, ⟨(some 6), none, (.bld [(.str []), .ns] [(0, (1, (.c (.str [97])))), (1, (1, (.t 5)))]), []⟩, ⟨(some 7), none, (.bs 1 2 [(.str []), .ns] [(0, (.t 6))]), []⟩, ⟨(some 8), none, (.call 66 [(.t 7), (.c (.str [97])), (.c (.int .i64 2))]), []⟩, ⟨(some 3), none, (.mov (.t 8)), []⟩, ⟨(some 9), none, (.ext (.t 3) 0), []⟩, ⟨(some 10), none, (.ext (.t 3) 1), []⟩, ⟨(some 1), none, (.mov (.t 9)), []⟩, ⟨(some 2), none, (.mov (.t 10)), []⟩]) (.seq (.reg false [⟨(some 11), none, (.mov (.t 2)), []⟩, ⟨(some 12), none, (.bin .eql (.t 11) (.c (.int .i64 0))), []⟩, ⟨(some 13), none, (.mov (.t 12)), []⟩, ⟨(some 14), (some (13, true)), (.mov (.t 1)), []⟩, ⟨(some 15), none, (.pick (.t 13) (.t 14) (.c (.bool false))), []⟩, ⟨(some 0), none, (.mov (.t 15)), []⟩]) .ret)))
theorem h24 : compF Try.prog sh 24 = some (c24, [0], 16) := by kernel_rfl
end Go.Proofs.P6
end
section
set_option linter.unusedVariables false
set_option linter.unusedSimpArgs false
set_option maxRecDepth 10000
namespace Go.Proofs.P6
open Go.Ex
theorem In_ok (n lo hi : Int) : OkF Try.prog 64 [.int .i64 n, .int .i64 lo, .int .i64 hi] (.bool (decide (lo ≤ n) && decide (n ≤ hi)), []) := by
  refine OkF.W0 hm h64 (of_decide_eq_true rfl) ?_
  unfold c64
  by_cases h : lo ≤ n <;> simp -dsimp [h]
theorem within_ok (n lo hi : Int) : OkF Try.prog 65 [.int .i64 n, .int .i64 lo, .int .i64 hi] (.bool (decide (lo ≤ n) && decide (n ≤ hi)), []) := by
  refine OkF.W0 hm h65 (of_decide_eq_true rfl) ?_
  unfold c65
  by_cases h : lo ≤ n <;> simp -dsimp [h]
def momB (n : Int) : Bool := decide (0 ≤ n) && decide (n ≤ 1000000000000)
theorem inM_ok (n : Int) : OkF Try.prog 64 [.int .i64 n, .int .i64 0, .int .i64 1000000000000] (.bool (momB n), []) := In_ok n 0 1000000000000
theorem moment_ok (n : Int) : OkF Try.prog 73 [.int .i64 n] (.bool (momB n), []) := by
  refine OkF.W0 hm h73 (of_decide_eq_true rfl) ?_
  unfold c73
  simp -dsimp []
  refine call_bool (within_ok n 0 1000000000000) ?_
  simp [momB]
def nmC (c : UInt8) : Bool := (decide (97 ≤ c.toNat) && decide (c.toNat ≤ 122)) || (decide (48 ≤ c.toNat) && decide (c.toNat ≤ 57)) || decide (c.toNat = 45) || decide (c.toNat = 95)
def ltr (c : UInt8) : Bool := decide (97 ≤ c.toNat) && decide (c.toNat ≤ 122)
/-- A name. -/
def nm (s : List UInt8) : Bool := s.all nmC && decide (s.length ≤ 40) && (match s with | [] => false | c :: _ => ltr c)
def visC (c : UInt8) : Bool := decide (33 ≤ c.toNat) && decide (c.toNat ≤ 126)
def vis (s : List UInt8) : Bool := !s.isEmpty && decide (s.length ≤ 40) && s.all visC
theorem Name_ok (s : List UInt8) : OkF Try.prog 137 [.str s] (.bool (vis s), []) := by
  refine OkF.W0 hm h137 (of_decide_eq_true rfl) ?_
  by_cases h1 : s = []
  · subst h1
    unfold c137
    simp -dsimp [vis]
  have h1' : s.isEmpty = false := by simpa using h1
  by_cases h2 : s.length ≤ 40
  · have h2' : ¬ (40 < (s.length : Int)) := by omega
    unfold c137
    simp -dsimp [h1, h2']
    refine for_lt s.length (fun k s' => s'.t 0 = .str s ∧ (s.take k).all visC = true) rfl (by omega) (by simp) (by simp) (by simp) (fun k s' hk hI hi hn => ?_) (fun s' hI hi hn => ?_)
    · obtain ⟨i1, i3⟩ := hI
      have hg : s[k]? = some s[k] := List.getElem?_eq_getElem hk
      generalize s[k] = c at hg
      by_cases e1 : ((c.toNat : Int) < 33)
      · have hv : visC c = false := by unfold visC; simp; omega
        unfold k137_0
        simp -dsimp [i1, hi, hn, hg, e1, vis, all_false hg hv]
      · by_cases e2 : (126 < (c.toNat : Int))
        · have hv : visC c = false := by unfold visC; simp; omega
          unfold k137_0
          simp -dsimp [i1, hi, hn, hg, e1, e2, vis, all_false hg hv]
        · have hv : visC c = true := by unfold visC; simp; omega
          unfold k137_0
          simp -dsimp [i1, hi, hn, hg, e1, e2, all_take_succ hg i3 hv]
    · obtain ⟨i1, i3⟩ := hI
      rw [List.take_length] at i3
      simp [vis, h1, h2, i1, i3]
  · have h2' : (40 < (s.length : Int)) := by omega
    unfold c137
    simp -dsimp [vis, h1, h2, h2']
theorem nm_vis {s : List UInt8} (h : nm s = true) : vis s = true := by
  unfold nm at h
  simp only [Bool.and_eq_true] at h
  obtain ⟨⟨h1, h2⟩, h3⟩ := h
  unfold vis
  simp only [Bool.and_eq_true]
  refine ⟨⟨?_, h2⟩, ?_⟩
  · cases s with
    | nil => simp at h3
    | cons c r => rfl
  · rw [List.all_eq_true] at h1 ⊢
    intro c hc
    have := h1 c hc
    unfold nmC at this
    unfold visC
    simp at this ⊢
    omega
theorem name_ok (s : List UInt8) : OkF Try.prog 91 [.str s] (.bool (nm s), []) := by
  refine OkF.W0 hm h91 (of_decide_eq_true rfl) ?_
  unfold c91
  simp -dsimp []
  refine call_bool (Name_ok s) ?_
  by_cases hv : vis s = true
  · have hl : s.length ≤ 40 := by unfold vis at hv; simp at hv; exact hv.1.2
    obtain ⟨c0, r, hs⟩ : ∃ c r, c :: r = s := by
      cases s with
      | nil => simp [vis] at hv
      | cons c r => exact ⟨c, r, rfl⟩
    have hg0 : s[0]? = some c0 := by rw [← hs]; rfl
    by_cases hlt : ltr c0 = true
    · have hlt' := hlt
      unfold ltr at hlt'
      simp at hlt'
      have e1 : ¬ ((c0.toNat : Int) < 97) := by omega
      have e2 : ¬ (122 < (c0.toNat : Int)) := by omega
      simp [hv, hg0, e1, e2]
      refine for_lt s.length (fun k s' => s'.t 0 = .str s ∧ Upto nmC s k) rfl (by omega) ⟨by simp, Upto.zero _ _⟩ (by simp) (by simp) (fun k s' hk hI hi hn => ?_) (fun s' hI hi hn => ?_)
      · obtain ⟨i1, i3⟩ := hI
        have hg : s[k]? = some s[k] := List.getElem?_eq_getElem hk
        generalize s[k] = c at hg
        unfold k91_0
        simp -dsimp [i1, hi, hn, hg]
        repeat' (first
          | (refine condK_of ?_ ?_ <;> intro q <;> simp -dsimp [q, i1])
          | (refine wantT_of ?_ ?_ <;> intro q <;> simp -dsimp [q, i1])
          | (refine wantF_of ?_ ?_ <;> intro q <;> simp -dsimp [q, i1]))
        all_goals
          simp only [decide_eq_true_eq, decide_eq_false_iff_not, Bool.not_eq_eq_eq_not, Bool.not_true, Bool.not_false] at *
          first
          | (have hc : nmC c = true := by (unfold nmC; simp; omega)
             exact ⟨hi, hn, i3.succ hg hc⟩)
          | (have hc : nmC c = false := by (unfold nmC; simp; omega)
             unfold nm
             rw [all_false hg hc]
             rfl)
      · obtain ⟨i1, i3⟩ := hI
        have : nm s = true := by
          unfold nm
          rw [i3.all, ← hs]
          rw [← hs] at hl
          simpa [hlt] using hl
        simp [this]
    · have : nm s = false := by
        unfold nm
        rw [← hs]
        simp [hlt]
      unfold ltr at hlt
      simp at hlt
      simp [hv, hg0]
      by_cases e1 : ((c0.toNat : Int) < 97)
      · simp -dsimp [e1, this, hg0]
      · have e2 : 122 < (c0.toNat : Int) := by omega
        simp -dsimp [e1, e2, this, hg0]
  · have hn : nm s = false := by
      cases h : nm s with
      | false => rfl
      | true => exact absurd (nm_vis h) hv
    simp [hv, hn]
end Go.Proofs.P6
end
section
set_option linter.unusedVariables false
set_option linter.unusedSimpArgs false
set_option maxRecDepth 10000
set_option maxHeartbeats 4000000
namespace Go.Proofs.P6
open Go.Ex
abbrev Span := Int × Int
abbrev Fact := List UInt8 × List Span
def spanCd : Cd Span := .pair (.int .i64) (.int .i64)
def factCd : Cd Fact := .pair .str (.slice spanCd)
theorem span_cells (a : Span) : spanCd.cells a = [.int .i64 a.1, .int .i64 a.2] := rfl
theorem fact_cells (a : Fact) : factCd.cells a = [.str a.1, .ro a.2.length (fl spanCd a.2)] := rfl
section
variable {h : Hp} {k : Nat} {kk : IntKind} {K : V → List Nat → Prop}
theorem span_ia {l : List Span} {a : Span} (e : l[k]? = some a) : iaddrK h (.ro l.length (fl spanCd l)) (.int kk k) 2 K ⟨⟩ = K (.rp (fl spanCd l) (k * 2)) [] := iaddr_fl rfl (by decide) e
theorem span_ld {l : List Span} {a : Span} (e : l[k]? = some a) : ldA h (.rp (fl spanCd l) (k * 2)) (some 2) = some (.agg [.int .i64 a.1, .int .i64 a.2]) := ld_fls (n := 2) rfl e
theorem span_l0 {l : List Span} {a : Span} (e : l[k]? = some a) : ldA h (.rp (fl spanCd l) (k * 2)) none = some (.int .i64 a.1) := ld_fl0 (n := 2) rfl (by decide) e
theorem span_l1 {l : List Span} {a : Span} (e : l[k]? = some a) : ldA h (.rp (fl spanCd l) (k * 2 + 1)) none = some (.int .i64 a.2) := ld_fl (n := 2) rfl (by decide) e
theorem fact_ia {l : List Fact} {a : Fact} (e : l[k]? = some a) : iaddrK h (.ro l.length (fl factCd l)) (.int kk k) 2 K ⟨⟩ = K (.rp (fl factCd l) (k * 2)) [] := iaddr_fl rfl (by decide) e
theorem fact_ld {l : List Fact} {a : Fact} (e : l[k]? = some a) : ldA h (.rp (fl factCd l) (k * 2)) (some 2) = some (.agg [.str a.1, .ro a.2.length (fl spanCd a.2)]) := ld_fls (n := 2) rfl e
theorem fact_l0 {l : List Fact} {a : Fact} (e : l[k]? = some a) : ldA h (.rp (fl factCd l) (k * 2)) none = some (.str a.1) := ld_fl0 (n := 2) rfl (by decide) e
theorem fact_l1 {l : List Fact} {a : Fact} (e : l[k]? = some a) : ldA h (.rp (fl factCd l) (k * 2 + 1)) none = some (.ro a.2.length (fl spanCd a.2)) := ld_fl (n := 2) rfl (by decide) e
end
def spE (l : List Span) (k : Nat) : Int := match l[k]? with
  | none => 0
  | some s => if !(momB s.1 && momB s.2) then 1 else if s.2 ≤ s.1 then 13 else if before l (fun t => decide (s.1 < t.2)) k then 8 else 0
def spansE (l : List Span) : Int := fe (spE l) l.length
def factE (l : List Fact) (k : Nat) : Int := match l[k]? with
  | none => 0
  | some x => if !nm x.1 then 5 else if 200 < x.2.length then 2 else if spansE x.2 ≠ 0 then spansE x.2 else if before l (fun t => leS x.1 t.1) k then 8 else 0
def factsE (l : List Fact) : Int := if 100 < l.length then 2 else fe (factE l) l.length
theorem facts_ok (l : List Fact) : OkF Try.prog 68 [.ro l.length (fl factCd l)] (.int .i64 (factsE l), []) := by
  refine OkF.W0 hm h68 (of_decide_eq_true rfl) ?_
  unfold c68
  by_cases h1 : 100 < l.length
  · have h1' : (100 < (l.length : Int)) := by omega
    simp -dsimp [h1', factsE, h1]
  have h1' : ¬ (100 < (l.length : Int)) := by omega
  simp -dsimp [h1']
  have hfe : factsE l = fe (factE l) l.length := by unfold factsE; rw [if_neg h1]
  refine for_lt l.length (fun k s' => s'.t 0 = .ro l.length (fl factCd l) ∧ s'.t 10 = .ro l.length (fl factCd l) ∧ fe (factE l) k = 0) rfl (by omega) (by simp -dsimp [fe]) (by simp -dsimp) (by simp -dsimp) (fun k s' hk hI hi hn => ?_) (fun s' hI hi hn => ?_)
  · obtain ⟨i0, i1, i3⟩ := hI
    have hg : l[k]? = some l[k] := List.getElem?_eq_getElem hk
    generalize l[k] = x at hg
    have bad : ∀ v, factE l k = v → v ≠ 0 → factsE l = v := fun v h1 h2 => by rw [hfe, fe_stop i3 (by rw [h1]; exact h2) hk, h1]
    unfold k68_1
    simp -dsimp [i0, i1, hi, hn, fact_ia hg, fact_ld hg]
    refine call_bool (name_ok _) ?_
    simp -dsimp
    refine condK_of ?_ ?_ <;> intro q <;> simp -dsimp [q]
    · rw [bad 5 (by unfold factE; rw [hg]; simp at q; simp [q]) (by decide)]
    refine condK_of ?_ ?_ <;> intro q1 <;> simp -dsimp [q1]
    · rw [bad 2 (by unfold factE; rw [hg]; simp at q q1; simp [q]; omega) (by decide)]
    have hx2 : x.2.length ≤ 200 := by simp at q1; omega
    have hwk : IntKind.i64.wrap (k : Int) = k := wrap_nat (by omega)
    have hq : nm x.1 = true := by simpa using q
    have deep : ∀ v j, j < x.2.length → fe (spE x.2) j = 0 → spE x.2 j = v → v ≠ 0 → factsE l = v := fun v j hj h0 h1 h2 => by
      have e : spansE x.2 = v := by unfold spansE; rw [fe_stop h0 (by rw [h1]; exact h2) hj, h1]
      refine bad v ?_ h2
      unfold factE
      rw [hg]
      have : ¬ 200 < x.2.length := by omega
      simp [hq, this, e, h2]
    refine for_lt x.2.length (fun j t => t.t 0 = .ro l.length (fl factCd l) ∧ t.t 10 = .ro l.length (fl factCd l) ∧ t.t 12 = .int .i64 k ∧ t.t 11 = .int .i64 l.length ∧ t.t 3 = .int .i64 k ∧ t.t 4 = .pt s'.nx 0 0 ∧
      t.h s'.nx = some ⟨0, 0, [.str x.1, .ro x.2.length (fl spanCd x.2)], none⟩ ∧ s'.nx < t.nx ∧ t.t 28 = .ro x.2.length (fl spanCd x.2) ∧ fe (spE x.2) j = 0) rfl (by omega) (by simp -dsimp [fe, i0, i1, hi, hn]) (by simp -dsimp) (by simp -dsimp) (fun j t hj hJ hji hjn => ?_) (fun t hJ hji hjn => ?_)
    · obtain ⟨j0, j10, j12, j11, j3, j4, jh, jx, j28, jf⟩ := hJ
      have hgj : x.2[j]? = some x.2[j] := List.getElem?_eq_getElem hj
      generalize x.2[j] = y at hgj
      obtain ⟨z, hz⟩ := prev_get hgj
      have hwj : 0 < j → IntKind.i64.wrap ((j : Int) - 1) = ((j - 1 : Nat) : Int) := fun h => wrap_pred h (by omega)
      have hbp : ∀ p, 0 < j → before x.2 p j = p z := fun p h => before_pos h (hz h)
      have hne : s'.nx ≠ t.nx := by omega
      unfold k68_0
      simp -dsimp [j0, j10, j12, j11, j3, j4, jh, j28, hji, hjn, span_ia hgj, span_ld hgj, hne]
      refine call_bool (inM_ok _) ?_
      simp -dsimp
      refine wantF_of ?_ ?_ <;> intro a1 <;> simp -dsimp [a1]
      · refine call_bool (inM_ok _) ?_
        simp -dsimp
        refine condK_of ?_ ?_ <;> intro a2 <;> simp -dsimp [a2]
        · rw [deep 1 j hj jf (by unfold spE; rw [hgj]; simp at a1 a2; simp [a1, a2]) (by decide)]
        · skip
          refine condK_of ?_ ?_ <;> intro a3 <;> simp -dsimp [a3]
          · rw [deep 13 j hj jf (by unfold spE; rw [hgj]; simp at a1 a2 a3; simp [a1, a2, a3]) (by decide)]
          · refine wantT_of ?_ ?_ <;> intro a4 <;> simp -dsimp [a4, hne, jh, j4]
            · have hp : 0 < j := by simpa using a4
              simp -dsimp [hwj hp, span_ia (hz hp), span_l1 (hz hp)]
              refine condK_of ?_ ?_ <;> intro a5 <;> simp -dsimp [a5]
              · rw [deep 8 j hj jf (by unfold spE; rw [hgj]; simp only [hbp _ hp]; simp at a1 a2 a3 a5; simp [a1, a2, a3, a5]) (by decide)]
              · simp -dsimp [hji, hjn, j0, j10, j12, j11, j3, j4, jh, hne, j28]
                exact ⟨by omega, fe_step jf (by unfold spE; rw [hgj]; simp only [hbp _ hp]; simp at a1 a2 a3 a5; simp [a1, a2, a5]; omega)⟩
            · simp -dsimp [hji, hjn, j0, j10, j12, j11, j3, j4, jh, hne, j28]
              have hp : ¬ 0 < j := by simpa using a4
              exact ⟨by omega, fe_step jf (by unfold spE; rw [hgj]; simp only [before_zero hp]; simp at a1 a2 a3; simp [a1, a2]; omega)⟩
      · rw [deep 1 j hj jf (by unfold spE; rw [hgj]; simp at a1; simp [a1]) (by decide)]
    · obtain ⟨j0, j10, j12, j11, j3, j4, jh, jx, j28, jf⟩ := hJ
      obtain ⟨z, hz⟩ := prev_get hg
      have hwj : 0 < k → IntKind.i64.wrap ((k : Int) - 1) = ((k - 1 : Nat) : Int) := fun h => wrap_pred h (by omega)
      have hbp : ∀ p, 0 < k → before l p k = p z := fun p h => before_pos h (hz h)
      have hsp : spansE x.2 = 0 := jf
      simp at q1
      have q1' : ¬ 200 < x.2.length := by omega
      simp -dsimp [j3]
      refine wantT_of ?_ ?_ <;> intro a4 <;> simp -dsimp [a4, jh, j4, j0, j3]
      · have hp : 0 < k := by simpa using a4
        simp -dsimp [hwj hp, fact_ia (hz hp), fact_l0 (hz hp)]
        refine condK_of ?_ ?_ <;> intro a5 <;> simp -dsimp [a5]
        · rw [bad 8 (by unfold factE; rw [hg]; simp only [hbp _ hp]; simp [hq, q1', hsp]; simpa using a5) (by decide)]
        · simp -dsimp [j0, j10, j12, j11]
          refine fe_step i3 (by unfold factE; rw [hg]; simp only [hbp _ hp]; simp [hq, q1', hsp]; simpa using a5)
      · simp -dsimp [j0, j10, j12, j11]
        have hp : ¬ 0 < k := by simpa using a4
        exact fe_step i3 (by unfold factE; rw [hg]; simp only [before_zero hp]; simp [hq, q1', hsp])
  · simp -dsimp [hfe, hI.2.2]
end Go.Proofs.P6
end
section
set_option linter.unusedVariables false
set_option linter.unusedSimpArgs false
set_option maxRecDepth 10000
set_option maxHeartbeats 4000000
namespace Go.Proofs.P6
open Go.Ex
def hdL (s : List UInt8) : Bool := match s with
  | [] => false
  | c :: _ => ltr c
theorem nm_eq (s : List UInt8) : nm s = (s.all nmC && decide (s.length ≤ 40) && hdL s) := rfl
theorem hdL_get {s : List UInt8} {c : UInt8} (h : s[0]? = some c) : hdL s = ltr c := by
  cases s with
  | nil => simp at h
  | cons a r => simp at h; subst h; rfl
theorem isName_ok (s : List UInt8) (hs : s.length < 2 ^ 62) : OkF Try.prog 60 [.str s] (.bool (nm s), []) := by
  have e62 : (2 : Nat) ^ 62 = 4611686018427387904 := by decide
  refine OkF.W0 hm h60 (of_decide_eq_true rfl) ?_
  unfold c60
  simp -dsimp
  refine loop_to 3 s.length (fun k t => t.t 3 = .int .i64 k ∧ t.t 0 = .str s ∧ Upto nmC s k ∧ (0 < k → hdL s = true)) (fun k t h => h.1) ⟨by simp -dsimp, by simp -dsimp, Upto.zero _ _, fun h => by omega⟩ (fun k t hk hI => ?_)
  obtain ⟨i3, i0, iu, ih⟩ := hI
  by_cases hlt : k < s.length
  · have hlt' : (k : Int) < (s.length : Int) := by omega
    have hg : s[k]? = some s[k] := List.getElem?_eq_getElem hlt
    have hw : IntKind.i64.wrap ((k : Int) + 1) = (k : Int) + 1 := IntWalk.i64_in _ (by omega)
    generalize s[k] = c at hg
    have good : nmC c = true → (ltr c = true ∨ 0 < k) → (k + 1 ≤ s.length) ∧ Upto nmC s (k + 1) ∧ (0 < k + 1 → hdL s = true) := fun h1 h2 => ⟨by omega, iu.succ hg h1, fun _ => by
      rcases h2 with h2 | h2
      · by_cases hk0 : 0 < k
        · exact ih hk0
        · have : k = 0 := by omega
          subst this
          rw [hdL_get hg]; exact h2
      · exact ih h2⟩
    have bad1 : nmC c = false → nm s = false := fun h => by rw [nm_eq, all_false hg h]; rfl
    have bad2 : k = 0 → ltr c = false → nm s = false := fun h1 h2 => by subst h1; rw [nm_eq, hdL_get hg, h2]; simp
    unfold l60_0
    simp -dsimp [i3, i0, hlt', hg, hw]
    repeat' (first
      | (refine condK_of ?_ ?_ <;> intro q <;> simp -dsimp [q, i0, i3, hw])
      | (refine wantT_of ?_ ?_ <;> intro q <;> simp -dsimp [q, i0, i3, hw])
      | (refine wantF_of ?_ ?_ <;> intro q <;> simp -dsimp [q, i0, i3, hw]))
    all_goals
      simp only [decide_eq_true_eq, decide_eq_false_iff_not, Bool.not_eq_eq_eq_not, Bool.not_true, Bool.not_false, Bool.or_eq_true, Bool.and_eq_true, Bool.or_eq_false_iff, Bool.and_eq_false_imp] at *
      first
      | (have h1 : nmC c = true := by (unfold nmC; simp; omega)
         have h2 : ltr c = true ∨ 0 < k := by (unfold ltr; simp; omega)
         obtain ⟨a, b, d⟩ := good h1 h2
         exact ⟨by omega, b, d (by omega)⟩)
      | exact bad1 (by (unfold nmC; simp; omega))
      | exact bad2 (by omega) (by (unfold ltr; simp; omega))
  · have hkl : k = s.length := by omega
    subst hkl
    unfold l60_0
    simp -dsimp [i3, i0]
    refine call_bool (within_ok _ _ _) ?_
    simp -dsimp
    rw [nm_eq, iu.all]
    by_cases h0 : 0 < s.length
    · rw [ih h0]
      rw [Bool.eq_iff_iff]
      simp
      omega
    · have : s = [] := List.eq_nil_of_length_eq_zero (by omega)
      subst this
      rfl
def spansR (l : List Span) : Int := if 200 < l.length then 2 else spansE l
theorem checkSpans_ok (l : List Span) : OkF Try.prog 124 [.ro l.length (fl spanCd l)] (.int .i64 (spansR l), []) := by
  refine OkF.W0 hm h124 (of_decide_eq_true rfl) ?_
  unfold c124
  by_cases h1 : 200 < l.length
  · have h1' : (200 < (l.length : Int)) := by omega
    simp -dsimp [h1', spansR, h1]
  have h1' : ¬ (200 < (l.length : Int)) := by omega
  have hfe : spansR l = fe (spE l) l.length := if_neg h1
  simp -dsimp [h1']
  refine loop_to 3 l.length (fun k t => t.t 3 = .int .i64 k ∧ t.t 0 = .ro l.length (fl spanCd l) ∧ fe (spE l) k = 0) (fun k t h => h.1) ⟨by simp -dsimp, by simp -dsimp, rfl⟩ (fun k t hk hI => ?_)
  obtain ⟨i3, i0, iu⟩ := hI
  by_cases hlt : k < l.length
  · have hlt' : (k : Int) < (l.length : Int) := by omega
    have hg : l[k]? = some l[k] := List.getElem?_eq_getElem hlt
    have hw : IntKind.i64.wrap ((k : Int) + 1) = (k : Int) + 1 := IntWalk.i64_in _ (by omega)
    generalize l[k] = y at hg
    obtain ⟨z, hz⟩ := prev_get hg
    have hwj : 0 < k → IntKind.i64.wrap ((k : Int) - 1) = ((k - 1 : Nat) : Int) := fun h => wrap_pred h (by omega)
    have hbp : ∀ p, 0 < k → before l p k = p z := fun p h => before_pos h (hz h)
    have bad : ∀ v, spE l k = v → v ≠ 0 → spansR l = v := fun v h1 h2 => by rw [hfe, fe_stop iu (by rw [h1]; exact h2) hlt, h1]
    unfold l124_0
    simp -dsimp [i3, i0, hlt', hw, span_ia hg, span_l0 hg, span_l1 hg]
    refine call_bool (moment_ok _) ?_
    simp -dsimp [i3, i0]
    refine wantF_of ?_ ?_ <;> intro a1 <;> simp -dsimp [a1, i3, i0, span_ia hg, span_l0 hg, span_l1 hg]
    · refine call_bool (moment_ok _) ?_
      simp -dsimp [i3, i0]
      refine condK_of ?_ ?_ <;> intro a2 <;> simp -dsimp [a2, i3, i0, span_ia hg, span_l0 hg, span_l1 hg]
      · rw [bad 1 (by unfold spE; rw [hg]; simp at a1 a2; simp [a1, a2]) (by decide)]
      · refine condK_of ?_ ?_ <;> intro a3 <;> simp -dsimp [a3, i3, i0]
        · rw [bad 13 (by unfold spE; rw [hg]; simp at a1 a2 a3; simp [a1, a2, a3]) (by decide)]
        · refine wantT_of ?_ ?_ <;> intro a4 <;> simp -dsimp [a4, i3, i0, hw, span_ia hg, span_l0 hg, span_l1 hg]
          · have hp : 0 < k := by simpa using a4
            simp -dsimp [hwj hp, span_ia (hz hp), span_l1 (hz hp)]
            refine condK_of ?_ ?_ <;> intro a5 <;> simp -dsimp [a5, i3, i0, hw]
            · rw [bad 8 (by unfold spE; rw [hg]; simp only [hbp _ hp]; simp at a1 a2 a3 a5; simp [a1, a2, a3, a5]) (by decide)]
            · exact ⟨by omega, fe_step iu (by unfold spE; rw [hg]; simp only [hbp _ hp]; simp at a1 a2 a3 a5; simp [a1, a2, a5]; omega)⟩
          · have hp : ¬ 0 < k := by simpa using a4
            exact ⟨by omega, fe_step iu (by unfold spE; rw [hg]; simp only [before_zero hp]; simp at a1 a2 a3; simp [a1, a2]; omega)⟩
    · rw [bad 1 (by unfold spE; rw [hg]; simp at a1; simp [a1]) (by decide)]
  · have hkl : k = l.length := by omega
    subst hkl
    unfold l124_0
    simp -dsimp [i3, i0, hfe, iu]
theorem factsRef_ok (l : List Fact) (hl : ∀ x ∈ l, x.1.length < 2 ^ 62) : OkF Try.prog 72 [.ro l.length (fl factCd l)] (.int .i64 (factsE l), []) := by
  refine OkF.W0 hm h72 (of_decide_eq_true rfl) ?_
  unfold c72
  by_cases h1 : 100 < l.length
  · have h1' : (100 < (l.length : Int)) := by omega
    simp -dsimp [h1', factsE, h1]
  have h1' : ¬ (100 < (l.length : Int)) := by omega
  have hfe : factsE l = fe (factE l) l.length := if_neg h1
  simp -dsimp [h1']
  refine loop_to 3 l.length (fun k t => t.t 3 = .int .i64 k ∧ t.t 0 = .ro l.length (fl factCd l) ∧ fe (factE l) k = 0) (fun k t h => h.1) ⟨by simp -dsimp, by simp -dsimp, rfl⟩ (fun k t hk hI => ?_)
  obtain ⟨i3, i0, iu⟩ := hI
  by_cases hlt : k < l.length
  · have hlt' : (k : Int) < (l.length : Int) := by omega
    have hg : l[k]? = some l[k] := List.getElem?_eq_getElem hlt
    have hw : IntKind.i64.wrap ((k : Int) + 1) = (k : Int) + 1 := IntWalk.i64_in _ (by omega)
    have hlen := hl l[k] (List.getElem_mem hlt)
    generalize l[k] = x at hg hlen
    obtain ⟨z, hz⟩ := prev_get hg
    have hwj : 0 < k → IntKind.i64.wrap ((k : Int) - 1) = ((k - 1 : Nat) : Int) := fun h => wrap_pred h (by omega)
    have hbp : ∀ p, 0 < k → before l p k = p z := fun p h => before_pos h (hz h)
    have bad : ∀ v, factE l k = v → v ≠ 0 → factsE l = v := fun v h1 h2 => by rw [hfe, fe_stop iu (by rw [h1]; exact h2) hlt, h1]
    unfold l72_0
    simp -dsimp [i3, i0, hlt', hw, fact_ia hg, fact_l0 hg, fact_l1 hg]
    refine call_bool (isName_ok _ hlen) ?_
    simp -dsimp
    refine condK_of ?_ ?_ <;> intro a1 <;> simp -dsimp [a1, i3, i0, fact_ia hg, fact_l0 hg, fact_l1 hg]
    · rw [bad 5 (by unfold factE; rw [hg]; simp at a1; simp [a1]) (by decide)]
    · refine call_int (checkSpans_ok _) ?_
      simp -dsimp
      refine condK_of ?_ ?_ <;> intro a2 <;> simp -dsimp [a2, i3, i0, fact_ia hg, fact_l0 hg, fact_l1 hg]
      · simp at a1 a2
        by_cases h2 : 200 < x.2.length
        · have e : spansR x.2 = 2 := if_pos h2
          rw [bad 2 (by unfold factE; rw [hg]; simp [a1, h2]) (by decide), e]
        · have e : spansR x.2 = spansE x.2 := if_neg h2
          rw [e] at a2 ⊢
          rw [bad (spansE x.2) (by unfold factE; rw [hg]; simp [a1, h2, a2]) a2]
      · simp at a1 a2
        have h2 : ¬ 200 < x.2.length := fun h2 => by
          have e : spansR x.2 = 2 := if_pos h2
          rw [e] at a2
          exact absurd a2 (by decide)
        have e : spansR x.2 = spansE x.2 := if_neg h2
        rw [e] at a2
        refine wantT_of ?_ ?_ <;> intro a4 <;> simp -dsimp [a4, i3, i0, hw, fact_ia hg, fact_l0 hg, fact_l1 hg]
        · have hp : 0 < k := by simpa using a4
          simp -dsimp [hwj hp, fact_ia (hz hp), fact_l0 (hz hp)]
          refine condK_of ?_ ?_ <;> intro a5 <;> simp -dsimp [a5, i3, i0, hw]
          · rw [bad 8 (by unfold factE; rw [hg]; simp only [hbp _ hp]; simp [a1, h2, a2]; simpa using a5) (by decide)]
          · exact ⟨by omega, fe_step iu (by unfold factE; rw [hg]; simp only [hbp _ hp]; simp [a1, h2, a2]; simpa using a5)⟩
        · have hp : ¬ 0 < k := by simpa using a4
          exact ⟨by omega, fe_step iu (by unfold factE; rw [hg]; simp only [before_zero hp]; simp [a1, h2, a2])⟩
  · have hkl : k = l.length := by omega
    subst hkl
    unfold l72_0
    simp -dsimp [i3, i0, hfe, iu]
end Go.Proofs.P6
end
section
set_option linter.unusedVariables false
set_option linter.unusedSimpArgs false
set_option maxRecDepth 10000
set_option maxHeartbeats 4000000
namespace Go.Proofs.P6
open Go.Ex
def spansOf (l : List Fact) (s : List UInt8) : List Span := match l.find? (fun x => decide (x.1 = s)) with
  | some x => x.2
  | none => []
theorem spans_ok (l : List Fact) (s : List UInt8) (hl : l.length < 2 ^ 62) : OkF Try.prog 158 [.ro l.length (fl factCd l), .str s] (.ro (spansOf l s).length (fl spanCd (spansOf l s)), []) := by
  refine OkF.W0 hm h158 (of_decide_eq_true rfl) ?_
  unfold c158
  simp -dsimp
  refine for_lt l.length (fun k t => t.t 7 = .ro l.length (fl factCd l) ∧ t.t 1 = .str s ∧ Not' (fun x => decide (x.1 = s)) l k) rfl hl (by simp -dsimp [Not'.zero]) (by simp -dsimp) (by simp -dsimp) (fun k t hk hI hi hn => ?_) (fun t hI hi hn => ?_)
  · obtain ⟨i7, i1, iu⟩ := hI
    have hg : l[k]? = some l[k] := List.getElem?_eq_getElem hk
    generalize l[k] = x at hg
    unfold k158_0
    simp -dsimp [i7, i1, hi, hn, fact_ia hg, fact_ld hg]
    refine condK_of ?_ ?_ <;> intro q <;> simp -dsimp [q, i7, i1, hi, hn]
    · have : spansOf l s = x.2 := by unfold spansOf; rw [find_stop iu hg q]
      simp [this]
    · exact iu.succ hg q
  · obtain ⟨i7, i1, iu⟩ := hI
    have : spansOf l s = [] := by unfold spansOf; rw [find_none iu]
    simp -dsimp [this, fl_nil]
theorem spansRef_ok (l : List Fact) (s : List UInt8) (hl : l.length < 2 ^ 62) : OkF Try.prog 160 [.ro l.length (fl factCd l), .str s] (.ro (spansOf l s).length (fl spanCd (spansOf l s)), []) := by
  have e62 : (2 : Nat) ^ 62 = 4611686018427387904 := by decide
  refine OkF.W0 hm h160 (of_decide_eq_true rfl) ?_
  unfold c160
  simp -dsimp
  refine loop_to 5 l.length (fun k t => t.t 5 = .int .i64 k ∧ t.t 0 = .ro l.length (fl factCd l) ∧ t.t 1 = .str s ∧ Not' (fun x => decide (x.1 = s)) l k) (fun k t h => h.1) (by simp -dsimp [Not'.zero]) (fun k t hk hI => ?_)
  obtain ⟨i5, i0, i1, iu⟩ := hI
  by_cases hlt : k < l.length
  · have hlt' : (k : Int) < (l.length : Int) := by omega
    have hw : IntKind.i64.wrap ((k : Int) + 1) = (k : Int) + 1 := IntWalk.i64_in _ (by omega)
    have hg : l[k]? = some l[k] := List.getElem?_eq_getElem hlt
    generalize l[k] = x at hg
    unfold l160_0
    simp -dsimp [i5, i1, i0, hlt', fact_ia hg, fact_l0 hg]
    refine condK_of ?_ ?_ <;> intro q <;> simp -dsimp [q, i5, i1, i0, hw, fact_ia hg, fact_l1 hg]
    · have : spansOf l s = x.2 := by unfold spansOf; rw [find_stop iu hg q]
      simp [this]
    · exact ⟨by omega, iu.succ hg q⟩
  · have hkl : k = l.length := by omega
    subst hkl
    have : spansOf l s = [] := by unfold spansOf; rw [find_none iu]
    unfold l160_0
    simp -dsimp [i5, i0, this, fl_nil]
def since (l : List Span) (at' : Int) : Int × Bool := match l.find? (fun s => decide (at' < s.2)) with
  | some s => (max at' s.1, true)
  | none => (0, false)
theorem since_ok (l : List Span) (n : Int) (hl : l.length < 2 ^ 62) : OkF Try.prog 141 [.ro l.length (fl spanCd l), .int .i64 n] (.tup [.int .i64 (since l n).1, .bool (since l n).2], []) := by
  refine OkF.W0 hm h141 (of_decide_eq_true rfl) ?_
  unfold c141
  simp -dsimp
  refine for_lt l.length (fun k t => t.t 8 = .ro l.length (fl spanCd l) ∧ t.t 1 = .int .i64 n ∧ Not' (fun s => decide (n < s.2)) l k) rfl hl (by simp -dsimp [Not'.zero]) (by simp -dsimp) (by simp -dsimp) (fun k t hk hI hi hn => ?_) (fun t hI hi hn => ?_)
  · obtain ⟨i8, i1, iu⟩ := hI
    have hg : l[k]? = some l[k] := List.getElem?_eq_getElem hk
    generalize l[k] = x at hg
    unfold k141_0
    simp -dsimp [i8, i1, hi, hn, span_ia hg, span_ld hg]
    refine condK_of ?_ ?_ <;> intro q <;> simp -dsimp [q, i8, i1, hi, hn]
    · have : since l n = (max n x.1, true) := by unfold since; rw [find_stop iu hg q]
      simp [this]
    · exact iu.succ hg q
  · obtain ⟨i8, i1, iu⟩ := hI
    have : since l n = (0, false) := by unfold since; rw [find_none iu]
    simp -dsimp [this]
def inSp (l : List Span) (n : Int) : Bool := l.any fun s => decide (s.1 ≤ n) && decide (n < s.2)
theorem inSpans_ok (l : List Span) (n : Int) (hl : l.length < 2 ^ 62) : OkF Try.prog 161 [.ro l.length (fl spanCd l), .int .i64 n] (.bool (inSp l n), []) := by
  have e62 : (2 : Nat) ^ 62 = 4611686018427387904 := by decide
  refine OkF.W0 hm h161 (of_decide_eq_true rfl) ?_
  unfold c161
  simp -dsimp
  refine loop_to 5 l.length (fun k t => t.t 5 = .int .i64 k ∧ t.t 0 = .ro l.length (fl spanCd l) ∧ t.t 1 = .int .i64 n ∧ Not' (fun s => decide (s.1 ≤ n) && decide (n < s.2)) l k) (fun k t h => h.1) (by simp -dsimp [Not'.zero]) (fun k t hk hI => ?_)
  obtain ⟨i5, i0, i1, iu⟩ := hI
  by_cases hlt : k < l.length
  · have hlt' : (k : Int) < (l.length : Int) := by omega
    have hw : IntKind.i64.wrap ((k : Int) + 1) = (k : Int) + 1 := IntWalk.i64_in _ (by omega)
    have hg : l[k]? = some l[k] := List.getElem?_eq_getElem hlt
    generalize l[k] = x at hg
    unfold l161_0
    simp -dsimp [i5, i1, i0, hlt', span_ia hg, span_l0 hg]
    refine wantT_of ?_ ?_ <;> intro q <;> simp -dsimp [q, i5, i1, i0, hw, span_ia hg, span_l1 hg]
    · refine condK_of ?_ ?_ <;> intro q2 <;> simp -dsimp [q2, i5, i1, i0, hw]
      · exact any_stop hg (by rw [q, q2]; rfl)
      · exact ⟨by omega, iu.succ hg (by rw [q, q2]; rfl)⟩
    · exact ⟨by omega, iu.succ hg (by rw [q]; rfl)⟩
  · have hkl : k = l.length := by omega
    subst hkl
    unfold l161_0
    simp -dsimp [i5, i0]
    exact any_none iu
def isF (l : List Fact) (s : List UInt8) (n : Int) : Bool := (since (spansOf l s) n).2 && decide ((since (spansOf l s) n).1 = n)
theorem is_ok (l : List Fact) (s : List UInt8) (n : Int) (hl : l.length < 2 ^ 62) (hs : (spansOf l s).length < 2 ^ 62) : OkF Try.prog 118 [.ro l.length (fl factCd l), .str s, .int .i64 n] (.bool (isF l s n), []) := by
  refine OkF.W0 hm h118 (of_decide_eq_true rfl) ?_
  unfold c118
  simp -dsimp
  refine call_one (spans_ok l s hl) (okRes_of (by simp)) ?_
  simp -dsimp
  refine call_one (since_ok _ _ hs) (okRes_of (by simp)) ?_
  simp -dsimp
  refine wantT_of ?_ ?_ <;> intro q <;> simp -dsimp [q, isF]
theorem isRef_ok (l : List Fact) (s : List UInt8) (n : Int) (hl : l.length < 2 ^ 62) (hs : (spansOf l s).length < 2 ^ 62) : OkF Try.prog 127 [.ro l.length (fl factCd l), .str s, .int .i64 n] (.bool (inSp (spansOf l s) n), []) := by
  refine OkF.W0 hm h127 (of_decide_eq_true rfl) ?_
  unfold c127
  simp -dsimp
  refine call_one (spansRef_ok l s hl) (okRes_of (by simp)) ?_
  simp -dsimp
  refine call_bool (inSpans_ok _ _ hs) ?_
  simp -dsimp
end Go.Proofs.P6
end
section
set_option linter.unusedVariables false
set_option linter.unusedSimpArgs false
set_option maxRecDepth 10000
set_option maxHeartbeats 4000000
namespace Go.Proofs.P6
open Go.Ex
theorem spE_zero {l : List Span} {k : Nat} {a : Span} (h : spE l k = 0) (hg : l[k]? = some a) : a.1 < a.2 ∧ ∀ z, 0 < k → l[k - 1]? = some z → z.2 ≤ a.1 := by
  unfold spE at h
  rw [hg] at h
  simp only at h
  split at h
  · cases h
  · split at h
    · cases h
    · split at h
      · cases h
      · rename_i h2 h3
        refine ⟨by omega, fun z hp hz => ?_⟩
        rw [before_pos hp hz] at h3
        simpa using h3
theorem since_in {l : List Span} (h : spansE l = 0) (n : Int) : ((since l n).2 && decide ((since l n).1 = n)) = inSp l n := by
  have hz : ∀ (k : Nat) a, l[k]? = some a → a.1 < a.2 ∧ ∀ z, 0 < k → l[k - 1]? = some z → z.2 ≤ a.1 := fun k a hg => spE_zero (fe_zero h k (List.getElem?_eq_some_iff.1 hg).1) hg
  cases hf : l.find? (fun s => decide (n < s.2)) with
  | none =>
    have e1 : since l n = (0, false) := by unfold since; rw [hf]
    rw [e1]
    rw [List.find?_eq_none] at hf
    symm
    simp only [inSp, Bool.false_and, List.any_eq_false]
    intro a ha
    have := hf a ha
    simp at this ⊢
    omega
  | some s =>
    have e1 : since l n = (max n s.1, true) := by unfold since; rw [hf]
    rw [e1]
    rw [List.find?_eq_some_iff_getElem] at hf
    obtain ⟨h1, k, hk, hks, hlt⟩ := hf
    simp at h1
    by_cases hc : s.1 ≤ n
    · have : max n s.1 = n := by omega
      simp only [this, decide_true, Bool.and_true]
      symm
      exact any_stop (List.getElem?_eq_getElem hk) (by rw [hks]; simp; omega)
    · have hne : ¬ max n s.1 = n := by omega
      simp only [hne, decide_false, Bool.and_false]
      symm
      have up : ∀ (j : Nat) a, l[k + j]? = some a → n < a.1 := by
        intro j
        induction j with
        | zero => intro a ha; rw [Nat.add_zero, List.getElem?_eq_getElem hk, hks] at ha; injection ha with ha; subst ha; omega
        | succ j ih =>
          intro a ha
          have hl := (List.getElem?_eq_some_iff.1 ha).1
          have hb : l[k + j]? = some l[k + j] := List.getElem?_eq_getElem (by omega)
          have q1 := (hz _ _ ha).2 l[k + j] (by omega) (by rw [← hb]; congr 1)
          have q2 := (hz _ _ hb).1
          have q3 := ih _ hb
          omega
      simp only [inSp, List.any_eq_false]
      intro a ha
      obtain ⟨i, hi⟩ := List.getElem?_of_mem ha
      have hil := (List.getElem?_eq_some_iff.1 hi).1
      have hia := (List.getElem?_eq_some_iff.1 hi).2
      simp
      by_cases hik : i < k
      · have := hlt i hik
        rw [hia] at this
        simp at this
        omega
      · have := up (i - k) a (by rw [show k + (i - k) = i by omega]; exact hi)
        omega
theorem facts_small {l : List Fact} (h : factsE l = 0) : l.length ≤ 100 ∧ ∀ x ∈ l, x.2.length ≤ 200 ∧ spansE x.2 = 0 := by
  unfold factsE at h
  split at h
  · cases h
  · refine ⟨by omega, fun x hx => ?_⟩
    obtain ⟨k, hk⟩ := List.getElem?_of_mem hx
    have := fe_zero h k (List.getElem?_eq_some_iff.1 hk).1
    unfold factE at this
    rw [hk] at this
    simp only at this
    split at this
    · cases this
    · split at this
      · cases this
      · split at this
        · rename_i q; exact absurd this q
        · rename_i q1 q2; exact ⟨by omega, by simpa using q2⟩
theorem spansOf_small {l : List Fact} (h : factsE l = 0) (s : List UInt8) : (spansOf l s).length ≤ 200 ∧ spansE (spansOf l s) = 0 := by
  unfold spansOf
  split
  · rename_i x hx
    exact (facts_small h).2 x (List.mem_of_find?_eq_some hx)
  · exact ⟨by simp, rfl⟩
/-- Is. -/
def isR (l : List Fact) (s : List UInt8) (n : Int) : Bool × Int := if factsE l ≠ 0 then (false, factsE l) else if !nm s then (false, 5) else if !momB n then (false, 1) else (isF l s n, 0)
theorem Is_ok (l : List Fact) (s : List UInt8) (n : Int) : OkF Try.prog 66 [.ro l.length (fl factCd l), .str s, .int .i64 n] (.tup [.bool (isR l s n).1, .int .i64 (isR l s n).2], []) := by
  refine OkF.W0 hm h66 (of_decide_eq_true rfl) ?_
  unfold c66
  simp -dsimp
  refine call_int (facts_ok l) ?_
  simp -dsimp
  refine condK_of ?_ ?_ <;> intro q <;> simp -dsimp [q]
  · have : factsE l ≠ 0 := by simpa using q
    simp [isR, this]
  have hz : factsE l = 0 := by simpa using q
  refine call_bool (name_ok _) ?_
  simp -dsimp
  refine condK_of ?_ ?_ <;> intro q1 <;> simp -dsimp [q1]
  · simp at q1; simp [isR, hz, q1]
  refine call_bool (inM_ok _) ?_
  simp -dsimp
  refine condK_of ?_ ?_ <;> intro q2 <;> simp -dsimp [q2]
  · simp at q1 q2; simp [isR, hz, q1, q2]
  have h1 := (facts_small hz).1
  have h2 := (spansOf_small hz s).1
  refine call_bool (is_ok l s n (by omega) (by omega)) ?_
  simp -dsimp
  simp at q1 q2; simp [isR, hz, q1, q2]
end Go.Proofs.P6
end
section
set_option linter.unusedVariables false
set_option linter.unusedSimpArgs false
set_option maxRecDepth 10000
set_option maxHeartbeats 4000000
namespace Go.Proofs.P6
open Go.Ex
def inB (n lo hi : Int) : Bool := decide (lo ≤ n) && decide (n ≤ hi)
theorem inB_ok (n lo hi : Int) : OkF Try.prog 64 [.int .i64 n, .int .i64 lo, .int .i64 hi] (.bool (inB n lo hi), []) := In_ok n lo hi
theorem inBR_ok (n lo hi : Int) : OkF Try.prog 65 [.int .i64 n, .int .i64 lo, .int .i64 hi] (.bool (inB n lo hi), []) := within_ok n lo hi
theorem mom_eq (n : Int) : momB n = inB n 0 1000000000000 := rfl
def plC (c : UInt8) : Bool := decide (32 ≤ c.toNat) && decide (c.toNat ≤ 126)
def spc (o : Option UInt8) : Bool := match o with
  | some c => decide ((c.toNat : Int) = 32)
  | none => false
def plain (s : List UInt8) : Bool := s.all plC && !decide (s = [])
def cmd (s : List UInt8) : Bool := plain s && decide ((s.length : Int) ≤ 100) && !spc s[0]? && !spc s[s.length - 1]?
theorem plain_ok (s : List UInt8) (hs : s.length < 2 ^ 62) : OkF Try.prog 162 [.str s] (.bool (plain s), []) := by
  refine OkF.W0 hm h162 (of_decide_eq_true rfl) ?_
  unfold c162
  simp -dsimp
  refine for_lt s.length (fun k s' => s'.t 0 = .str s ∧ Upto plC s k) rfl hs (by simp -dsimp [Upto.zero]) (by simp) (by simp) (fun k s' hk hI hi hn => ?_) (fun s' hI hi hn => ?_)
  · obtain ⟨i1, i3⟩ := hI
    have hg : s[k]? = some s[k] := List.getElem?_eq_getElem hk
    generalize s[k] = c at hg
    have bad : plC c = false → plain s = false := fun h => by unfold plain; rw [all_false hg h]; rfl
    unfold k162_0
    simp -dsimp [i1, hi, hn, hg]
    repeat' (first
      | (refine condK_of ?_ ?_ <;> intro q <;> simp -dsimp [q, i1, hi, hn, hg])
      | (refine wantF_of ?_ ?_ <;> intro q <;> simp -dsimp [q, i1, hi, hn, hg]))
    all_goals
      simp only [decide_eq_true_eq, decide_eq_false_iff_not] at *
      first
      | exact bad (by (unfold plC; simp; omega))
      | exact i3.succ hg (by (unfold plC; simp; omega))
  · obtain ⟨i1, i3⟩ := hI
    simp -dsimp [i1, plain, i3.all]
theorem command_ok (s : List UInt8) (hs : s.length < 2 ^ 62) : OkF Try.prog 128 [.str s] (.bool (cmd s), []) := by
  refine OkF.W0 hm h128 (of_decide_eq_true rfl) ?_
  unfold c128
  simp -dsimp
  refine call_bool (plain_ok s hs) ?_
  by_cases hp : plain s = true
  · have hne : s ≠ [] := by
      intro h; subst h; simp [plain] at hp
    have hl : 0 < s.length := List.length_pos_iff.2 hne
    have h0 : s[0]? = some s[0] := List.getElem?_eq_getElem hl
    have h1 : s[s.length - 1]? = some s[s.length - 1] := List.getElem?_eq_getElem (by omega)
    have hw : IntKind.i64.wrap ((s.length : Int) - 1) = ((s.length - 1 : Nat) : Int) := wrap_pred hl hs
    generalize s[0] = a at h0
    generalize s[s.length - 1] = b at h1
    simp -dsimp [hp]
    repeat' (first
      | (refine wantT_of ?_ ?_ <;> intro q <;> simp -dsimp [q, h0, h1, hw]))
    all_goals (simp_all [cmd, spc] <;> omega)
  · have hp' : plain s = false := by simpa using hp
    simp -dsimp [hp', cmd]
theorem isCommand_ok (s : List UInt8) (hs : s.length < 2 ^ 62) : OkF Try.prog 116 [.str s] (.bool (cmd s), []) := by
  have e62 : (2 : Nat) ^ 62 = 4611686018427387904 := by decide
  refine OkF.W0 hm h116 (of_decide_eq_true rfl) ?_
  unfold c116
  simp -dsimp
  refine loop_to 3 s.length (fun k t => t.t 3 = .int .i64 k ∧ t.t 0 = .str s ∧ Upto plC s k) (fun k t h => h.1) ⟨by simp -dsimp, by simp -dsimp, Upto.zero _ _⟩ (fun k t hk hI => ?_)
  obtain ⟨i3, i0, iu⟩ := hI
  by_cases hlt : k < s.length
  · have hlt' : (k : Int) < (s.length : Int) := by omega
    have hg : s[k]? = some s[k] := List.getElem?_eq_getElem hlt
    have hw : IntKind.i64.wrap ((k : Int) + 1) = (k : Int) + 1 := IntWalk.i64_in _ (by omega)
    generalize s[k] = c at hg
    have bad : plC c = false → cmd s = false := fun h => by unfold cmd plain; rw [all_false hg h]; rfl
    unfold l116_0
    simp -dsimp [i3, i0, hlt', hg, hw]
    repeat' (first
      | (refine condK_of ?_ ?_ <;> intro q <;> simp -dsimp [q, i0, i3, hw, hg])
      | (refine wantF_of ?_ ?_ <;> intro q <;> simp -dsimp [q, i0, i3, hw, hg]))
    all_goals
      simp only [decide_eq_true_eq, decide_eq_false_iff_not] at *
      first
      | exact bad (by (unfold plC; simp; omega))
      | exact ⟨by omega, iu.succ hg (by (unfold plC; simp; omega))⟩
  · have hkl : k = s.length := by omega
    subst hkl
    unfold l116_0
    simp -dsimp [i3, i0]
    refine call_bool (inBR_ok _ _ _) ?_
    by_cases hp : s = []
    · subst hp
      simp -dsimp [inB, cmd, plain]
    · have hl : 0 < s.length := List.length_pos_iff.2 hp
      have h0 : s[0]? = some s[0] := List.getElem?_eq_getElem hl
      have h1 : s[s.length - 1]? = some s[s.length - 1] := List.getElem?_eq_getElem (by omega)
      have hw : IntKind.i64.wrap ((s.length : Int) - 1) = ((s.length - 1 : Nat) : Int) := wrap_pred hl hs
      have hpl : plain s = true := by simp [plain, iu.all, hp]
      have hin : inB s.length 1 100 = decide ((s.length : Int) ≤ 100) := by unfold inB; rw [Bool.eq_iff_iff]; simp; omega
      generalize s[0] = a at h0
      generalize s[s.length - 1] = b at h1
      simp -dsimp [hin, i0]
      repeat' (first
        | (refine wantT_of ?_ ?_ <;> intro q <;> simp -dsimp [q, h0, h1, hw, i0]))
      all_goals (simp_all [cmd, spc] <;> omega)
abbrev Entry := Int × Int × List UInt8 × List UInt8 × List UInt8 × Bool
def entCd : Cd Entry := .pair (.int .i64) (.pair (.int .i64) (.pair .str (.pair .str (.pair .str .bool))))
def entV (x : Entry) : List V := [.int .i64 x.1, .int .i64 x.2.1, .str x.2.2.1, .str x.2.2.2.1, .str x.2.2.2.2.1, .bool x.2.2.2.2.2]
theorem ent_cells (x : Entry) : entCd.cells x = entV x := rfl
def entOk (x : Entry) : Prop := x.2.2.1.length < 2 ^ 62 ∧ x.2.2.2.1.length < 2 ^ 62 ∧ x.2.2.2.2.1.length < 2 ^ 62
def entE (x : Entry) : Int := if !(inB x.1 1 1000000000000 && inB x.2.1 0 1000000000000) then 1 else if !cmd x.2.2.1 then 3 else if (!decide (x.2.2.2.1 = []) && !nm x.2.2.2.1) || (!decide (x.2.2.2.2.1 = []) && !nm x.2.2.2.2.1) then 5
  else if x.2.2.2.2.2 && decide (x.2.2.2.2.1 = []) then 3 else 0
theorem checkEntry_ok (x : Entry) (hx : entOk x) : OkF Try.prog 77 [.agg (entV x)] (.int .i64 (entE x), []) := by
  obtain ⟨id, at', c, g, i, n⟩ := x
  obtain ⟨hc, hg, hi⟩ := hx
  simp only at hc hg hi
  refine OkF.W0 hm h77 (of_decide_eq_true rfl) ?_
  unfold c77
  simp -dsimp [entV]
  repeat' (first
      | (refine condK_of ?_ ?_ <;> intro q <;> simp -dsimp [q])
      | (refine wantF_of ?_ ?_ <;> intro q <;> simp -dsimp [q])
      | (refine wantT_of ?_ ?_ <;> intro q <;> simp -dsimp [q])
      | (refine call_bool (inB_ok _ _ _) ?_; simp -dsimp)
      | (refine call_bool (name_ok _) ?_; simp -dsimp)
      | (refine call_bool (command_ok _ hc) ?_; simp -dsimp))
  all_goals simp_all [entE]
theorem checkEntryRef_ok (x : Entry) (hx : entOk x) : OkF Try.prog 83 [.agg (entV x)] (.int .i64 (entE x), []) := by
  obtain ⟨id, at', c, g, i, n⟩ := x
  obtain ⟨hc, hg, hi⟩ := hx
  simp only at hc hg hi
  refine OkF.W0 hm h83 (of_decide_eq_true rfl) ?_
  unfold c83
  simp -dsimp [entV]
  repeat' (first
      | (refine condK_of ?_ ?_ <;> intro q <;> simp -dsimp [q])
      | (refine wantF_of ?_ ?_ <;> intro q <;> simp -dsimp [q])
      | (refine wantT_of ?_ ?_ <;> intro q <;> simp -dsimp [q])
      | (refine call_bool (inBR_ok _ _ _) ?_; simp -dsimp)
      | (refine call_bool (moment_ok _) ?_; simp -dsimp)
      | (refine call_bool (isName_ok _ hg) ?_; simp -dsimp)
      | (refine call_bool (isName_ok _ hi) ?_; simp -dsimp)
      | (refine call_bool (isCommand_ok _ hc) ?_; simp -dsimp))
  all_goals simp_all [entE, mom_eq]
end Go.Proofs.P6
end
