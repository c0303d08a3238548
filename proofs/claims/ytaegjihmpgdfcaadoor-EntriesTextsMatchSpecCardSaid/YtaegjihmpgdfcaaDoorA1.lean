/- The small commands of chapter 6: names, facts, entries alone; Names, commands, numbers in bounds; Facts are right; The reference's names and facts; Whether a fact is so; Is, and why both ways to say it are one; Commands and entries. -/
import Derived.Test.YtaegjihmpgdfcaaDoorProg
import Derived.Test.YtaegjihmpgdfcaaDoorExX
section
set_option linter.unusedVariables false
set_option linter.unusedSimpArgs false
namespace Go.Proofs.P4
open Go.Ex
/-- The functions that share their callers' blocks. -/
def sh (f : Nat) : Bool := [18,28,19,70,68,44,76].contains f
theorem hm : Tryd.prog.follows .mixedOrders = true := by kernel_rfl
def c49 : Cmd := (.seq (.reg false [⟨(some 6), none, (.mov (.c (.bool false))), []⟩]) (.seq (.reg false [⟨(some 7), none, (.mov (.t 1)), []⟩, ⟨(some 8), none, (.mov (.t 0)), []⟩, ⟨(some 9), none, (.bin .leq (.t 7) (.t 8)), []⟩, ⟨(some 10), none, (.mov (.t 9)), []⟩, ⟨(some 11), (some (10, true)), (.mov (.t 0)), []⟩, ⟨(some 12), (some (10, true)), (.mov (.t 2)), []⟩, ⟨(some 13), (some (10, true)), (.bin .leq (.t 11) (.t 12)), []⟩, ⟨(some 14), none, (.pick (.t 10) (.t 13) (.c (.bool false))), []⟩, ⟨(some 6), none, (.mov (.t 14)), []⟩]) .ret))
theorem h49 : compF Tryd.prog sh 49 = some (c49, [6], 15) := by kernel_rfl
def c86 : Cmd := (.seq (.reg false [⟨(some 6), none, (.mov (.c (.bool false))), []⟩]) (.seq (.reg false [⟨(some 7), none, (.mov (.t 0)), []⟩, ⟨(some 8), none, (.mov (.t 1)), []⟩, ⟨(some 9), none, (.bin .geq (.t 7) (.t 8)), []⟩, ⟨(some 10), none, (.mov (.t 9)), []⟩, ⟨(some 11), (some (10, true)), (.mov (.t 0)), []⟩, ⟨(some 12), (some (10, true)), (.mov (.t 2)), []⟩, ⟨(some 13), (some (10, true)), (.bin .leq (.t 11) (.t 12)), []⟩, ⟨(some 14), none, (.pick (.t 10) (.t 13) (.c (.bool false))), []⟩, ⟨(some 6), none, (.mov (.t 14)), []⟩]) .ret))
theorem h86 : compF Tryd.prog sh 86 = some (c86, [6], 15) := by kernel_rfl
def c87 : Cmd := (.seq (.reg false [⟨(some 2), none, (.mov (.c (.bool false))), []⟩]) (.seq (.reg false [⟨(some 3), none, (.mov (.t 0)), []⟩, ⟨(some 4), none, (.call 86 [(.t 3), (.c (.int .i64 0)), (.c (.int .i64 1000000000000))]), []⟩, ⟨(some 2), none, (.mov (.t 4)), []⟩]) .ret))
theorem h87 : compF Tryd.prog sh 87 = some (c87, [2], 5) := by kernel_rfl
def k77_0 : Cmd := (.block 1 (.seq (.reg false [⟨(some 15), none, (.mov (.t 13)), []⟩, ⟨(some 3), none, (.mov (.t 15)), []⟩]) (.seq (.reg false [⟨(some 16), none, (.mov (.t 0)), []⟩, ⟨(some 17), none, (.mov (.t 3)), []⟩, ⟨(some 18), none, (.idx (.t 16) (.t 17)), []⟩, ⟨(some 19), none, (.bin .lss (.t 18) (.c (.int .u8 33))), []⟩, ⟨(some 20), none, (.mov (.t 19)), []⟩, ⟨(some 21), (some (20, false)), (.mov (.t 0)), []⟩, ⟨(some 22), (some (20, false)), (.mov (.t 3)), []⟩, ⟨(some 23), (some (20, false)), (.idx (.t 21) (.t 22)), []⟩, ⟨(some 24), (some (20, false)), (.bin .gtr (.t 23) (.c (.int .u8 126))), []⟩, ⟨(some 25), none, (.pick (.t 20) (.c (.bool true)) (.t 24)), []⟩]) (.cond (.t 25) (.seq (.reg false [⟨(some 2), none, (.mov (.c (.bool false))), []⟩]) .ret) .skip))))
abbrev l77_0 : Cmd := cnt 0 14 13 12 26 k77_0
def c77 : Cmd := (.seq (.reg false [⟨(some 2), none, (.mov (.c (.bool false))), []⟩]) (.seq (.seq (.reg false [⟨(some 4), none, (.mov (.t 0)), []⟩, ⟨(some 5), none, (.bin .eql (.t 4) (.c (.str []))), []⟩, ⟨(some 6), none, (.mov (.t 5)), []⟩, ⟨(some 7), (some (6, false)), (.mov (.t 0)), []⟩, ⟨(some 8), (some (6, false)), (.len true (.t 7)), []⟩, ⟨(some 9), (some (6, false)), (.bin .gtr (.t 8) (.c (.int .i64 40))), []⟩, ⟨(some 10), none, (.pick (.t 6) (.c (.bool true)) (.t 9)), []⟩]) (.cond (.t 10) (.seq (.reg false [⟨(some 2), none, (.mov (.c (.bool false))), []⟩]) .ret) .skip)) (.seq (.seq (.reg false [⟨(some 11), none, (.mov (.t 0)), []⟩, ⟨(some 12), none, (.len true (.t 11)), []⟩, ⟨(some 13), none, (.mov (.c (.int .i64 0))), []⟩]) (.block 0 (.loop l77_0))) (.seq (.reg false [⟨(some 2), none, (.mov (.c (.bool true))), []⟩]) .ret))))
theorem h77 : compF Tryd.prog sh 77 = some (c77, [2], 27) := by kernel_rfl
def k48_0 : Cmd := (.block 1 (.seq (.reg false [⟨(some 22), none, (.mov (.t 20)), []⟩, ⟨(some 3), none, (.mov (.t 22)), []⟩]) (.seq (.reg false [⟨(some 23), none, (.mov (.t 0)), []⟩, ⟨(some 24), none, (.mov (.t 3)), []⟩, ⟨(some 25), none, (.idx (.t 23) (.t 24)), []⟩, ⟨(some 4), none, (.mov (.t 25)), []⟩]) (.seq (.reg false [⟨(some 26), none, (.mov (.t 4)), []⟩, ⟨(some 27), none, (.bin .lss (.t 26) (.c (.int .u8 97))), []⟩, ⟨(some 28), none, (.mov (.t 27)), []⟩, ⟨(some 29), (some (28, false)), (.mov (.t 4)), []⟩, ⟨(some 30), (some (28, false)), (.bin .gtr (.t 29) (.c (.int .u8 122))), []⟩, ⟨(some 31), none, (.pick (.t 28) (.c (.bool true)) (.t 30)), []⟩, ⟨(some 32), none, (.mov (.t 31)), []⟩, ⟨(some 33), (some (32, true)), (.mov (.t 4)), []⟩, ⟨(some 34), (some (32, true)), (.bin .lss (.t 33) (.c (.int .u8 48))), []⟩, ⟨(some 35), (some (32, true)), (.mov (.t 34)), []⟩, ⟨(some 36), (some (35, false)), (.mov (.t 4)), []⟩, ⟨(some 37), (some (35, false)), (.bin .gtr (.t 36) (.c (.int .u8 57))), []⟩, ⟨(some 38), (some (32, true)), (.pick (.t 35) (.c (.bool true)) (.t 37)), []⟩, ⟨(some 39), none, (.pick (.t 32) (.t 38) (.c (.bool false))), []⟩, ⟨(some 40), none, (.mov (.t 39)), []⟩, ⟨(some 41), (some (40, true)), (.mov (.t 4)), []⟩, ⟨(some 42), (some (40, true)), (.bin .neq (.t 41) (.c (.int .u8 45))), []⟩, ⟨(some 43), none, (.pick (.t 40) (.t 42) (.c (.bool false))), []⟩, ⟨(some 44), none, (.mov (.t 43)), []⟩, ⟨(some 45), (some (44, true)), (.mov (.t 4)), []⟩, ⟨(some 46), (some (44, true)), (.bin .neq (.t 45) (.c (.int .u8 95))), []⟩, ⟨(some 47), none, (.pick (.t 44) (.t 46) (.c (.bool false))), []⟩]) (.cond (.t 47) (.seq (.reg false [⟨(some 2), none, (.mov (.c (.bool false))), []⟩]) .ret) .skip)))))
abbrev l48_0 : Cmd := cnt 0 21 20 19 48 k48_0
def c48 : Cmd := (.seq (.reg false [⟨(some 2), none, (.mov (.c (.bool false))), []⟩]) (.seq (.seq (.reg false [⟨(some 5), none, (.mov (.t 0)), []⟩, ⟨(some 6), none, (.call 77 [(.t 5)]), []⟩, ⟨(some 7), none, (.un .not (.t 6)), []⟩, ⟨(some 8), none, (.mov (.t 7)), []⟩, ⟨(some 9), (some (8, false)), (.mov (.t 0)), []⟩, ⟨(some 10), (some (8, false)), (.idx (.t 9) (.c (.int .i64 0))), []⟩, ⟨(some 11), (some (8, false)), (.bin .lss (.t 10) (.c (.int .u8 97))), []⟩, ⟨(some 12), none, (.pick (.t 8) (.c (.bool true)) (.t 11)), []⟩, ⟨(some 13), none, (.mov (.t 12)), []⟩, ⟨(some 14), (some (13, false)), (.mov (.t 0)), []⟩, ⟨(some 15), (some (13, false)), (.idx (.t 14) (.c (.int .i64 0))), []⟩, ⟨(some 16), (some (13, false)), (.bin .gtr (.t 15) (.c (.int .u8 122))), []⟩, ⟨(some 17), none, (.pick (.t 13) (.c (.bool true)) (.t 16)), []⟩]) (.cond (.t 17) (.seq (.reg false [⟨(some 2), none, (.mov (.c (.bool false))), []⟩]) .ret) .skip)) (.seq (.seq (.reg false [⟨(some 18), none, (.mov (.t 0)), []⟩, ⟨(some 19), none, (.len true (.t 18)), []⟩, ⟨(some 20), none, (.mov (.c (.int .i64 0))), []⟩]) (.block 0 (.loop l48_0))) (.seq (.reg false [⟨(some 2), none, (.mov (.c (.bool true))), []⟩]) .ret))))
theorem h48 : compF Tryd.prog sh 48 = some (c48, [2], 49) := by kernel_rfl
def l89_0 : Cmd := (.seq (.seq (.reg false [⟨(some 6), none, (.mov (.t 3)), []⟩, ⟨(some 7), none, (.mov (.t 0)), []⟩, ⟨(some 8), none, (.len true (.t 7)), []⟩, ⟨(some 9), none, (.bin .lss (.t 6) (.t 8)), []⟩]) (.cond (.t 9) .skip (.exit 0))) (.seq (.block 1 (.seq (.reg false [⟨(some 12), none, (.mov (.t 0)), []⟩, ⟨(some 13), none, (.mov (.t 3)), []⟩, ⟨(some 14), none, (.idx (.t 12) (.t 13)), []⟩, ⟨(some 4), none, (.mov (.t 14)), []⟩]) (.seq (.reg false [⟨(some 15), none, (.mov (.t 4)), []⟩, ⟨(some 16), none, (.bin .geq (.t 15) (.c (.int .u8 97))), []⟩, ⟨(some 17), none, (.mov (.t 16)), []⟩, ⟨(some 18), (some (17, true)), (.mov (.t 4)), []⟩, ⟨(some 19), (some (17, true)), (.bin .leq (.t 18) (.c (.int .u8 122))), []⟩, ⟨(some 20), none, (.pick (.t 17) (.t 19) (.c (.bool false))), []⟩, ⟨(some 5), none, (.mov (.t 20)), []⟩]) (.seq (.reg false [⟨(some 21), none, (.mov (.t 5)), []⟩, ⟨(some 22), none, (.un .not (.t 21)), []⟩, ⟨(some 23), none, (.mov (.t 22)), []⟩, ⟨(some 24), (some (23, true)), (.mov (.t 3)), []⟩, ⟨(some 25), (some (23, true)), (.bin .eql (.t 24) (.c (.int .i64 0))), []⟩, ⟨(some 26), (some (23, true)), (.mov (.t 25)), []⟩, ⟨(some 27), (some (26, false)), (.mov (.t 4)), []⟩, ⟨(some 28), (some (26, false)), (.bin .neq (.t 27) (.c (.int .u8 45))), []⟩, ⟨(some 29), (some (26, false)), (.mov (.t 28)), []⟩, ⟨(some 30), (some (29, true)), (.mov (.t 4)), []⟩, ⟨(some 31), (some (29, true)), (.bin .neq (.t 30) (.c (.int .u8 95))), []⟩, ⟨(some 32), (some (26, false)), (.pick (.t 29) (.t 31) (.c (.bool false))), []⟩, ⟨(some 33), (some (26, false)), (.mov (.t 32)), []⟩, ⟨(some 34), (some (33, true)), (.mov (.t 4)), []⟩, ⟨(some 35), (some (33, true)), (.bin .geq (.t 34) (.c (.int .u8 48))), []⟩, ⟨(some 36), (some (33, true)), (.mov (.t 35)), []⟩, ⟨(some 37), (some (36, true)), (.mov (.t 4)), []⟩, ⟨(some 38), (some (36, true)), (.bin .leq (.t 37) (.c (.int .u8 57))), []⟩, ⟨(some 39), (some (33, true)), (.pick (.t 36) (.t 38) (.c (.bool false))), []⟩, ⟨(some 40), (some (33, true)), (.un .not (.t 39)), []⟩, ⟨(some 41), (some (26, false)), (.pick (.t 33) (.t 40) (.c (.bool false))), []⟩, ⟨(some 42), (some (23, true)), (.pick (.t 26) (.c (.bool true)) (.t 41)), []⟩, ⟨(some 43), none, (.pick (.t 23) (.t 42) (.c (.bool false))), []⟩]) (.cond (.t 43) (.seq (.reg false [⟨(some 2), none, (.mov (.c (.bool false))), []⟩]) .ret) .skip))))) (.reg false [⟨(some 10), none, (.mov (.t 3)), []⟩, ⟨(some 11), none, (.bin .add (.t 10) (.c (.int .i64 1))), []⟩, ⟨(some 3), none, (.mov (.t 11)), []⟩])))
def c89 : Cmd := (.seq (.reg false [⟨(some 2), none, (.mov (.c (.bool false))), []⟩]) (.seq (.seq (.reg false [⟨(some 3), none, (.mov (.c (.int .i64 0))), []⟩]) (.block 0 (.loop l89_0))) (.seq (.reg false [⟨(some 44), none, (.mov (.t 0)), []⟩, ⟨(some 45), none, (.len true (.t 44)), []⟩, ⟨(some 46), none, (.call 86 [(.t 45), (.c (.int .i64 1)), (.c (.int .i64 40))]), []⟩, ⟨(some 2), none, (.mov (.t 46)), []⟩]) .ret)))
theorem h89 : compF Tryd.prog sh 89 = some (c89, [2], 47) := by kernel_rfl
def k47_0 : Cmd := (.block 4 (.seq (.reg false [⟨(some 32), none, (.mov (.t 30)), []⟩, ⟨(some 33), none, (.iaddr (.t 28) (.t 30) 2), []⟩, ⟨(some 34), none, (.ld (.t 33) (some 2)), []⟩, ⟨(some 6), none, (.alloc [(.int .i64 0), (.int .i64 0)]), []⟩, ⟨(some 5), none, (.mov (.t 32)), []⟩, ⟨none, none, (.st (.t 6) (.t 34) 2), []⟩]) (.block 5 (.seq (.reg false [⟨(some 36), none, (.faddr (.t 6) 0), []⟩, ⟨(some 37), none, (.ld (.t 36) none), []⟩, ⟨(some 38), none, (.call 49 [(.t 37), (.c (.int .i64 0)), (.c (.int .i64 1000000000000))]), []⟩, ⟨(some 39), none, (.un .not (.t 38)), []⟩, ⟨(some 40), none, (.mov (.t 39)), []⟩, ⟨(some 41), (some (40, false)), (.faddr (.t 6) 1), []⟩, ⟨(some 42), (some (40, false)), (.ld (.t 41) none), []⟩, ⟨(some 43), (some (40, false)), (.call 49 [(.t 42), (.c (.int .i64 0)), (.c (.int .i64 1000000000000))]), []⟩, ⟨(some 44), (some (40, false)), (.un .not (.t 43)), []⟩, ⟨(some 45), none, (.pick (.t 40) (.c (.bool true)) (.t 44)), []⟩, ⟨(some 35), none, (.mov (.t 45)), []⟩]) (.cond (.t 35) (.seq (.reg false [⟨(some 2), none, (.mov (.c (.int .i64 1))), []⟩]) .ret) (.seq (.reg false [⟨(some 47), none, (.faddr (.t 6) 1), []⟩, ⟨(some 48), none, (.ld (.t 47) none), []⟩, ⟨(some 49), none, (.faddr (.t 6) 0), []⟩, ⟨(some 50), none, (.ld (.t 49) none), []⟩, ⟨(some 51), none, (.bin .leq (.t 48) (.t 50)), []⟩, ⟨(some 46), none, (.mov (.t 51)), []⟩]) (.cond (.t 46) (.seq (.reg false [⟨(some 2), none, (.mov (.c (.int .i64 13))), []⟩]) .ret) (.seq (.reg true [⟨(some 53), none, (.mov (.t 5)), []⟩, ⟨(some 54), none, (.bin .gtr (.t 53) (.c (.int .i64 0))), []⟩, ⟨(some 55), none, (.mov (.t 54)), []⟩, ⟨(some 56), (some (55, true)), (.faddr (.t 6) 0), []⟩, ⟨(some 57), (some (55, true)), (.ld (.t 56) none), []⟩, ⟨(some 58), (some (55, true)), (.faddr (.t 4) 1), []⟩, ⟨(some 59), (some (55, true)), (.ld (.t 58) none), []⟩, ⟨(some 60), (some (55, true)), (.mov (.t 5)), []⟩, ⟨(some 61), (some (55, true)), (.bin .sub (.t 60) (.c (.int .i64 1))), []⟩, ⟨(some 62), (some (55, true)), (.iaddr (.t 59) (.t 61) 2), []⟩, ⟨(some 63), (some (55, true)), (.faddr (.t 62) 1), []⟩, ⟨(some 64), (some (55, true)), (.ld (.t 63) none), []⟩, ⟨(some 65), (some (55, true)), (.bin .lss (.t 57) (.t 64)), []⟩, ⟨(some 66), none, (.pick (.t 55) (.t 65) (.c (.bool false))), []⟩, ⟨(some 52), none, (.mov (.t 66)), []⟩]) (.cond (.t 52) (.seq (.reg false [⟨(some 2), none, (.mov (.c (.int .i64 8))), []⟩]) .ret) .skip)))))))))
abbrev l47_0 : Cmd := cnt 3 31 30 29 67 k47_0
def k47_1 : Cmd := (.block 1 (.seq (.reg false [⟨(some 14), none, (.mov (.t 12)), []⟩, ⟨(some 15), none, (.iaddr (.t 10) (.t 12) 2), []⟩, ⟨(some 16), none, (.ld (.t 15) (some 2)), []⟩, ⟨(some 4), none, (.alloc [(.str []), .ns]), []⟩, ⟨(some 3), none, (.mov (.t 14)), []⟩, ⟨none, none, (.st (.t 4) (.t 16) 2), []⟩]) (.seq (.block 2 (.seq (.reg false [⟨(some 18), none, (.faddr (.t 4) 0), []⟩, ⟨(some 19), none, (.ld (.t 18) none), []⟩, ⟨(some 20), none, (.call 48 [(.t 19)]), []⟩, ⟨(some 21), none, (.un .not (.t 20)), []⟩, ⟨(some 17), none, (.mov (.t 21)), []⟩]) (.cond (.t 17) (.seq (.reg false [⟨(some 2), none, (.mov (.c (.int .i64 5))), []⟩]) .ret) (.seq (.reg false [⟨(some 23), none, (.faddr (.t 4) 1), []⟩, ⟨(some 24), none, (.ld (.t 23) none), []⟩, ⟨(some 25), none, (.len false (.t 24)), []⟩, ⟨(some 26), none, (.bin .gtr (.t 25) (.c (.int .i64 200))), []⟩, ⟨(some 22), none, (.mov (.t 26)), []⟩]) (.cond (.t 22) (.seq (.reg false [⟨(some 2), none, (.mov (.c (.int .i64 2))), []⟩]) .ret) .skip))))) (.seq (.seq (.reg false [⟨(some 27), none, (.faddr (.t 4) 1), []⟩, ⟨(some 28), none, (.ld (.t 27) none), []⟩, ⟨(some 29), none, (.len false (.t 28)), []⟩, ⟨(some 30), none, (.mov (.c (.int .i64 0))), []⟩]) (.block 3 (.loop l47_0))) (.seq (.reg true [⟨(some 68), none, (.mov (.t 3)), []⟩, ⟨(some 69), none, (.bin .gtr (.t 68) (.c (.int .i64 0))), []⟩, ⟨(some 70), none, (.mov (.t 69)), []⟩, ⟨(some 71), (some (70, true)), (.faddr (.t 4) 0), []⟩, ⟨(some 72), (some (70, true)), (.ld (.t 71) none), []⟩, ⟨(some 73), (some (70, true)), (.mov (.t 0)), []⟩, ⟨(some 74), (some (70, true)), (.mov (.t 3)), []⟩, ⟨(some 75), (some (70, true)), (.bin .sub (.t 74) (.c (.int .i64 1))), []⟩, ⟨(some 76), (some (70, true)), (.iaddr (.t 73) (.t 75) 2), []⟩, ⟨(some 77), (some (70, true)), (.faddr (.t 76) 0), []⟩, ⟨(some 78), (some (70, true)), (.ld (.t 77) none), []⟩, ⟨(some 79), (some (70, true)), (.bin .leq (.t 72) (.t 78)), []⟩, ⟨(some 80), none, (.pick (.t 70) (.t 79) (.c (.bool false))), []⟩]) (.cond (.t 80) (.seq (.reg false [⟨(some 2), none, (.mov (.c (.int .i64 8))), []⟩]) .ret) .skip))))))
abbrev l47_1 : Cmd := cnt 0 13 12 11 81 k47_1
def c47 : Cmd := (.seq (.reg false [⟨(some 2), none, (.mov (.c (.int .i64 0))), []⟩]) (.seq (.seq (.reg false [⟨(some 7), none, (.mov (.t 0)), []⟩, ⟨(some 8), none, (.len false (.t 7)), []⟩, ⟨(some 9), none, (.bin .gtr (.t 8) (.c (.int .i64 100))), []⟩]) (.cond (.t 9) (.seq (.reg false [⟨(some 2), none, (.mov (.c (.int .i64 2))), []⟩]) .ret) .skip)) (.seq (.seq (.reg false [⟨(some 10), none, (.mov (.t 0)), []⟩, ⟨(some 11), none, (.len false (.t 10)), []⟩, ⟨(some 12), none, (.mov (.c (.int .i64 0))), []⟩]) (.block 0 (.loop l47_1))) (.seq (.reg false [⟨(some 2), none, (.mov (.c (.int .i64 0))), []⟩]) .ret))))
theorem h47 : compF Tryd.prog sh 47 = some (c47, [2], 82) := by kernel_rfl
def k78_0 : Cmd := (.block 1 (.seq (.reg false [⟨(some 12), none, (.iaddr (.t 8) (.t 10) 2), []⟩, ⟨(some 13), none, (.ld (.t 12) (some 2)), []⟩, ⟨(some 7), none, (.alloc [(.int .i64 0), (.int .i64 0)]), []⟩, ⟨none, none, (.st (.t 7) (.t 13) 2), []⟩]) (.seq (.reg false [⟨(some 14), none, (.mov (.t 1)), []⟩, ⟨(some 15), none, (.faddr (.t 7) 1), []⟩, ⟨(some 16), none, (.ld (.t 15) none), []⟩, ⟨(some 17), none, (.bin .lss (.t 14) (.t 16)), []⟩]) (.cond (.t 17) (.seq (.reg false [⟨(some 18), none, (.mov (.t 1)), []⟩, ⟨(some 19), none, (.faddr (.t 7) 0), []⟩, ⟨(some 20), none, (.ld (.t 19) none), []⟩, ⟨(some 21), none, (.mm true (.t 18) (.t 20)), []⟩, ⟨(some 4), none, (.mov (.t 21)), []⟩, ⟨(some 5), none, (.mov (.c (.bool true))), []⟩]) .ret) .skip))))
abbrev l78_0 : Cmd := cnt 0 11 10 9 22 k78_0
def c78 : Cmd := (.seq (.reg false [⟨(some 4), none, (.mov (.c (.int .i64 0))), []⟩, ⟨(some 5), none, (.mov (.c (.bool false))), []⟩]) (.seq (.seq (.reg false [⟨(some 8), none, (.mov (.t 0)), []⟩, ⟨(some 9), none, (.len false (.t 8)), []⟩, ⟨(some 10), none, (.mov (.c (.int .i64 0))), []⟩]) (.block 0 (.loop l78_0))) (.seq (.reg false [⟨(some 4), none, (.mov (.c (.int .i64 0))), []⟩, ⟨(some 5), none, (.mov (.c (.bool false))), []⟩]) .ret)))
theorem h78 : compF Tryd.prog sh 78 = some (c78, [4, 5], 23) := by kernel_rfl
def k79_0 : Cmd := (.block 1 (.seq (.reg false [⟨(some 11), none, (.iaddr (.t 7) (.t 9) 2), []⟩, ⟨(some 12), none, (.ld (.t 11) (some 2)), []⟩, ⟨(some 6), none, (.alloc [(.str []), .ns]), []⟩, ⟨none, none, (.st (.t 6) (.t 12) 2), []⟩]) (.seq (.reg false [⟨(some 13), none, (.faddr (.t 6) 0), []⟩, ⟨(some 14), none, (.ld (.t 13) none), []⟩, ⟨(some 15), none, (.mov (.t 1)), []⟩, ⟨(some 16), none, (.bin .eql (.t 14) (.t 15)), []⟩]) (.cond (.t 16) (.seq (.reg false [⟨(some 17), none, (.faddr (.t 6) 1), []⟩, ⟨(some 18), none, (.ld (.t 17) none), []⟩, ⟨(some 4), none, (.mov (.t 18)), []⟩]) .ret) .skip))))
abbrev l79_0 : Cmd := cnt 0 10 9 8 19 k79_0
def c79 : Cmd := (.seq (.reg false [⟨(some 4), none, (.mov (.c .ns)), []⟩]) (.seq (.seq (.reg false [⟨(some 7), none, (.mov (.t 0)), []⟩, ⟨(some 8), none, (.len false (.t 7)), []⟩, ⟨(some 9), none, (.mov (.c (.int .i64 0))), []⟩]) (.block 0 (.loop l79_0))) (.seq (.reg false [⟨(some 4), none, (.mov (.c .ns)), []⟩]) .ret)))
theorem h79 : compF Tryd.prog sh 79 = some (c79, [4], 20) := by kernel_rfl
def c50 : Cmd := (.seq (.reg false [⟨(some 6), none, (.mov (.c (.bool false))), []⟩]) (.seq (.reg false [⟨(some 10), none, (.mov (.t 0)), []⟩, ⟨(some 11), none, (.mov (.t 1)), []⟩, ⟨(some 12), none, (.call 79 [(.t 10), (.t 11)]), []⟩, ⟨(some 13), none, (.mov (.t 2)), []⟩, ⟨(some 14), none, (.call 78 [(.t 12), (.t 13)]), []⟩, ⟨(some 9), none, (.mov (.t 14)), []⟩, ⟨(some 15), none, (.ext (.t 9) 0), []⟩, ⟨(some 16), none, (.ext (.t 9) 1), []⟩, ⟨(some 7), none, (.mov (.t 15)), []⟩, ⟨(some 8), none, (.mov (.t 16)), []⟩]) (.seq (.reg false [⟨(some 17), none, (.mov (.t 8)), []⟩, ⟨(some 18), none, (.mov (.t 17)), []⟩, ⟨(some 19), (some (18, true)), (.mov (.t 7)), []⟩, ⟨(some 20), (some (18, true)), (.mov (.t 2)), []⟩, ⟨(some 21), (some (18, true)), (.bin .eql (.t 19) (.t 20)), []⟩, ⟨(some 22), none, (.pick (.t 18) (.t 21) (.c (.bool false))), []⟩, ⟨(some 6), none, (.mov (.t 22)), []⟩]) .ret)))
theorem h50 : compF Tryd.prog sh 50 = some (c50, [6], 23) := by kernel_rfl
def c23 : Cmd := (.seq (.reg false [⟨(some 6), none, (.mov (.c (.bool false))), []⟩, ⟨(some 7), none, (.mov (.c (.int .i64 0))), []⟩]) (.seq (.seq (.reg false [⟨(some 9), none, (.mov (.t 0)), []⟩, ⟨(some 10), none, (.call 47 [(.t 9)]), []⟩, ⟨(some 8), none, (.mov (.t 10)), []⟩]) (.seq (.reg false [⟨(some 11), none, (.mov (.t 8)), []⟩, ⟨(some 12), none, (.bin .neq (.t 11) (.c (.int .i64 0))), []⟩]) (.cond (.t 12) (.seq (.reg false [⟨(some 13), none, (.mov (.t 8)), []⟩, ⟨(some 6), none, (.mov (.c (.bool false))), []⟩, ⟨(some 7), none, (.mov (.t 13)), []⟩]) .ret) .skip))) (.seq (.block 0 (.seq (.reg false [⟨(some 15), none, (.mov (.t 1)), []⟩, ⟨(some 16), none, (.call 48 [(.t 15)]), []⟩, ⟨(some 17), none, (.un .not (.t 16)), []⟩, ⟨(some 14), none, (.mov (.t 17)), []⟩]) (.cond (.t 14) (.seq (.reg false [⟨(some 6), none, (.mov (.c (.bool false))), []⟩, ⟨(some 7), none, (.mov (.c (.int .i64 5))), []⟩]) .ret) (.seq (.reg false [⟨(some 19), none, (.mov (.t 2)), []⟩, ⟨(some 20), none, (.call 49 [(.t 19), (.c (.int .i64 0)), (.c (.int .i64 1000000000000))]), []⟩, ⟨(some 21), none, (.un .not (.t 20)), []⟩, ⟨(some 18), none, (.mov (.t 21)), []⟩]) (.cond (.t 18) (.seq (.reg false [⟨(some 6), none, (.mov (.c (.bool false))), []⟩, ⟨(some 7), none, (.mov (.c (.int .i64 1))), []⟩]) .ret) .skip))))) (.seq (.reg false [⟨(some 22), none, (.mov (.t 0)), []⟩, ⟨(some 23), none, (.mov (.t 1)), []⟩, ⟨(some 24), none, (.mov (.t 2)), []⟩, ⟨(some 25), none, (.call 50 [(.t 22), (.t 23), (.t 24)]), []⟩, ⟨(some 6), none, (.mov (.t 25)), []⟩, ⟨(some 7), none, (.mov (.c (.int .i64 0))), []⟩]) .ret))))
theorem h23 : compF Tryd.prog sh 23 = some (c23, [6, 7], 26) := by kernel_rfl
def k42_0 : Cmd := (.block 1 (.seq (.reg false [⟨(some 8), none, (.mov (.t 6)), []⟩, ⟨(some 3), none, (.mov (.t 8)), []⟩]) (.seq (.reg false [⟨(some 9), none, (.mov (.t 0)), []⟩, ⟨(some 10), none, (.mov (.t 3)), []⟩, ⟨(some 11), none, (.idx (.t 9) (.t 10)), []⟩, ⟨(some 12), none, (.bin .lss (.t 11) (.c (.int .u8 32))), []⟩, ⟨(some 13), none, (.mov (.t 12)), []⟩, ⟨(some 14), (some (13, false)), (.mov (.t 0)), []⟩, ⟨(some 15), (some (13, false)), (.mov (.t 3)), []⟩, ⟨(some 16), (some (13, false)), (.idx (.t 14) (.t 15)), []⟩, ⟨(some 17), (some (13, false)), (.bin .gtr (.t 16) (.c (.int .u8 126))), []⟩, ⟨(some 18), none, (.pick (.t 13) (.c (.bool true)) (.t 17)), []⟩]) (.cond (.t 18) (.seq (.reg false [⟨(some 2), none, (.mov (.c (.bool false))), []⟩]) .ret) .skip))))
abbrev l42_0 : Cmd := cnt 0 7 6 5 19 k42_0
def c42 : Cmd := (.seq (.reg false [⟨(some 2), none, (.mov (.c (.bool false))), []⟩]) (.seq (.seq (.reg false [⟨(some 4), none, (.mov (.t 0)), []⟩, ⟨(some 5), none, (.len true (.t 4)), []⟩, ⟨(some 6), none, (.mov (.c (.int .i64 0))), []⟩]) (.block 0 (.loop l42_0))) (.seq (.reg false [⟨(some 20), none, (.mov (.t 0)), []⟩, ⟨(some 21), none, (.bin .neq (.t 20) (.c (.str []))), []⟩, ⟨(some 2), none, (.mov (.t 21)), []⟩]) .ret)))
theorem h42 : compF Tryd.prog sh 42 = some (c42, [2], 22) := by kernel_rfl
def c80 : Cmd := (.seq (.reg false [⟨(some 2), none, (.mov (.c (.bool false))), []⟩]) (.seq (.reg false [⟨(some 3), none, (.mov (.t 0)), []⟩, ⟨(some 4), none, (.call 42 [(.t 3)]), []⟩, ⟨(some 5), none, (.mov (.t 4)), []⟩, ⟨(some 6), (some (5, true)), (.mov (.t 0)), []⟩, ⟨(some 7), (some (5, true)), (.len true (.t 6)), []⟩, ⟨(some 8), (some (5, true)), (.bin .leq (.t 7) (.c (.int .i64 100))), []⟩, ⟨(some 9), none, (.pick (.t 5) (.t 8) (.c (.bool false))), []⟩, ⟨(some 10), none, (.mov (.t 9)), []⟩, ⟨(some 11), (some (10, true)), (.mov (.t 0)), []⟩, ⟨(some 12), (some (10, true)), (.idx (.t 11) (.c (.int .i64 0))), []⟩, ⟨(some 13), (some (10, true)), (.bin .neq (.t 12) (.c (.int .u8 32))), []⟩, ⟨(some 14), none, (.pick (.t 10) (.t 13) (.c (.bool false))), []⟩, ⟨(some 15), none, (.mov (.t 14)), []⟩, ⟨(some 16), (some (15, true)), (.mov (.t 0)), []⟩, ⟨(some 17), (some (15, true)), (.mov (.t 0)), []⟩, ⟨(some 18), (some (15, true)), (.len true (.t 17)), []⟩, ⟨(some 19), (some (15, true)), (.bin .sub (.t 18) (.c (.int .i64 1))), []⟩, ⟨(some 20), (some (15, true)), (.idx (.t 16) (.t 19)), []⟩, ⟨(some 21), (some (15, true)), (.bin .neq (.t 20) (.c (.int .u8 32))), []⟩, ⟨(some 22), none, (.pick (.t 15) (.t 21) (.c (.bool false))), []⟩, ⟨(some 2), none, (.mov (.t 22)), []⟩]) .ret))
theorem h80 : compF Tryd.prog sh 80 = some (c80, [2], 23) := by kernel_rfl
def l88_0 : Cmd := (.seq (.seq (.reg false [⟨(some 4), none, (.mov (.t 3)), []⟩, ⟨(some 5), none, (.mov (.t 0)), []⟩, ⟨(some 6), none, (.len true (.t 5)), []⟩, ⟨(some 7), none, (.bin .lss (.t 4) (.t 6)), []⟩]) (.cond (.t 7) .skip (.exit 0))) (.seq (.block 1 (.seq (.reg false [⟨(some 10), none, (.mov (.t 0)), []⟩, ⟨(some 11), none, (.mov (.t 3)), []⟩, ⟨(some 12), none, (.idx (.t 10) (.t 11)), []⟩, ⟨(some 13), none, (.bin .lss (.t 12) (.c (.int .u8 32))), []⟩, ⟨(some 14), none, (.mov (.t 13)), []⟩, ⟨(some 15), (some (14, false)), (.mov (.t 0)), []⟩, ⟨(some 16), (some (14, false)), (.mov (.t 3)), []⟩, ⟨(some 17), (some (14, false)), (.idx (.t 15) (.t 16)), []⟩, ⟨(some 18), (some (14, false)), (.bin .gtr (.t 17) (.c (.int .u8 126))), []⟩, ⟨(some 19), none, (.pick (.t 14) (.c (.bool true)) (.t 18)), []⟩]) (.cond (.t 19) (.seq (.reg false [⟨(some 2), none, (.mov (.c (.bool false))), []⟩]) .ret) .skip))) (.reg false [⟨(some 8), none, (.mov (.t 3)), []⟩, ⟨(some 9), none, (.bin .add (.t 8) (.c (.int .i64 1))), []⟩, ⟨(some 3), none, (.mov (.t 9)), []⟩])))
def c88 : Cmd := (.seq (.reg false [⟨(some 2), none, (.mov (.c (.bool false))), []⟩]) (.seq (.seq (.reg false [⟨(some 3), none, (.mov (.c (.int .i64 0))), []⟩]) (.block 0 (.loop l88_0))) (.seq (.reg false [⟨(some 20), none, (.mov (.t 0)), []⟩, ⟨(some 21), none, (.len true (.t 20)), []⟩, ⟨(some 22), none, (.call 86 [(.t 21), (.c (.int .i64 1)), (.c (.int .i64 100))]), []⟩, ⟨(some 23), none, (.mov (.t 22)), []⟩, ⟨(some 24), (some (23, true)), (.mov (.t 0)), []⟩, ⟨(some 25), (some (23, true)), (.idx (.t 24) (.c (.int .i64 0))), []⟩, ⟨(some 26), (some (23, true)), (.bin .neq (.t 25) (.c (.int .u8 32))), []⟩, ⟨(some 27), none, (.pick (.t 23) (.t 26) (.c (.bool false))), []⟩, ⟨(some 28), none, (.mov (.t 27)), []⟩, ⟨(some 29), (some (28, true)), (.mov (.t 0)), []⟩, ⟨(some 30), (some (28, true)), (.mov (.t 0)), []⟩, ⟨(some 31), (some (28, true)), (.len true (.t 30)), []⟩, ⟨(some 32), (some (28, true)), (.bin .sub (.t 31) (.c (.int .i64 1))), []⟩, ⟨(some 33), (some (28, true)), (.idx (.t 29) (.t 32)), []⟩, ⟨(some 34), (some (28, true)), (.bin .neq (.t 33) (.c (.int .u8 32))), []⟩, ⟨(some 35), none, (.pick (.t 28) (.t 34) (.c (.bool false))), []⟩, ⟨(some 2), none, (.mov (.t 35)), []⟩]) .ret)))
theorem h88 : compF Tryd.prog sh 88 = some (c88, [2], 36) := by kernel_rfl
def c51 : Cmd := (.seq (.reg false [⟨(some 1), none, (.box (.t 0)), []⟩, ⟨(some 2), none, (.mov (.c (.int .i64 0))), []⟩]) (.seq (.block 0 (.seq (.reg false [⟨(some 4), none, (.faddr (.t 1) 0), []⟩, ⟨(some 5), none, (.ld (.t 4) none), []⟩, ⟨(some 6), none, (.call 49 [(.t 5), (.c (.int .i64 1)), (.c (.int .i64 1000000000000))]), []⟩, ⟨(some 7), none, (.un .not (.t 6)), []⟩, ⟨(some 8), none, (.mov (.t 7)), []⟩, ⟨(some 9), (some (8, false)), (.faddr (.t 1) 1), []⟩, ⟨(some 10), (some (8, false)), (.ld (.t 9) none), []⟩, ⟨(some 11), (some (8, false)), (.call 49 [(.t 10), (.c (.int .i64 0)), (.c (.int .i64 1000000000000))]), []⟩, ⟨(some 12), (some (8, false)), (.un .not (.t 11)), []⟩, ⟨(some 13), none, (.pick (.t 8) (.c (.bool true)) (.t 12)), []⟩, ⟨(some 3), none, (.mov (.t 13)), []⟩]) (.cond (.t 3) (.seq (.reg false [⟨(some 2), none, (.mov (.c (.int .i64 1))), []⟩]) .ret) (.seq (.reg false [⟨(some 15), none, (.faddr (.t 1) 2), []⟩, ⟨(some 16), none, (.ld (.t 15) none), []⟩, ⟨(some 17), none, (.call 80 [(.t 16)]), []⟩, ⟨(some 18), none, (.un .not (.t 17)), []⟩, ⟨(some 14), none, (.mov (.t 18)), []⟩]) (.cond (.t 14) (.seq (.reg false [⟨(some 2), none, (.mov (.c (.int .i64 3))), []⟩]) .ret) (.seq (.reg false [⟨(some 20), none, (.faddr (.t 1) 3), []⟩, ⟨(some 21), none, (.ld (.t 20) none), []⟩, ⟨(some 22), none, (.bin .neq (.t 21) (.c (.str []))), []⟩, ⟨(some 23), none, (.mov (.t 22)), []⟩, ⟨(some 24), (some (23, true)), (.faddr (.t 1) 3), []⟩, ⟨(some 25), (some (23, true)), (.ld (.t 24) none), []⟩, ⟨(some 26), (some (23, true)), (.call 48 [(.t 25)]), []⟩, ⟨(some 27), (some (23, true)), (.un .not (.t 26)), []⟩, ⟨(some 28), none, (.pick (.t 23) (.t 27) (.c (.bool false))), []⟩, ⟨(some 29), none, (.mov (.t 28)), []⟩, ⟨(some 30), (some (29, false)), (.faddr (.t 1) 4), []⟩, ⟨(some 31), (some (29, false)), (.ld (.t 30) none), []⟩, ⟨(some 32), (some (29, false)), (.bin .neq (.t 31) (.c (.str []))), []⟩, ⟨(some 33), (some (29, false)), (.mov (.t 32)), []⟩, ⟨(some 34), (some (33, true)), (.faddr (.t 1) 4), []⟩, ⟨(some 35), (some (33, true)), (.ld (.t 34) none), []⟩, ⟨(some 36), (some (33, true)), (.call 48 [(.t 35)]), []⟩, ⟨(some 37), (some (33, true)), (.un .not (.t 36)), []⟩, ⟨(some 38), (some (29, false)), (.pick (.t 33) (.t 37) (.c (.bool false))), []⟩, ⟨(some 39), none, (.pick (.t 29) (.c (.bool true)) (.t 38)), []⟩, ⟨(some 19), none, (.mov (.t 39)), []⟩]) (.cond (.t 19) (.seq (.reg false [⟨(some 2), none, (.mov (.c (.int .i64 5))), []⟩]) .ret) (.seq (.reg false [⟨(some 41), none, (.faddr (.t 1) 5), []⟩, ⟨(some 42), none, (.ld (.t 41) none), []⟩, ⟨(some 43), none, (.mov (.t 42)), []⟩, ⟨(some 44), (some (43, true)), (.faddr (.t 1) 4), []⟩, ⟨(some 45), (some (43, true)), (.ld (.t 44) none), []⟩, ⟨(some 46), (some (43, true)), (.bin .eql (.t 45) (.c (.str []))), []⟩, ⟨(some 47), none, (.pick (.t 43) (.t 46) (.c (.bool false))), []⟩, ⟨(some 40), none, (.mov (.t 47)), []⟩]) (.cond (.t 40) (.seq (.reg false [⟨(some 2), none, (.mov (.c (.int .i64 3))), []⟩]) .ret) .skip))))))))) (.seq (.reg false [⟨(some 2), none, (.mov (.c (.int .i64 0))), []⟩]) .ret)))
theorem h51 : compF Tryd.prog sh 51 = some (c51, [2], 48) := by kernel_rfl
def c60 : Cmd := (.seq (.reg false [⟨(some 1), none, (.box (.t 0)), []⟩, ⟨(some 2), none, (.mov (.c (.int .i64 0))), []⟩]) (.seq (.seq (.reg false [⟨(some 3), none, (.faddr (.t 1) 0), []⟩, ⟨(some 4), none, (.ld (.t 3) none), []⟩, ⟨(some 5), none, (.call 86 [(.t 4), (.c (.int .i64 1)), (.c (.int .i64 1000000000000))]), []⟩, ⟨(some 6), none, (.un .not (.t 5)), []⟩, ⟨(some 7), none, (.mov (.t 6)), []⟩, ⟨(some 8), (some (7, false)), (.faddr (.t 1) 1), []⟩, ⟨(some 9), (some (7, false)), (.ld (.t 8) none), []⟩, ⟨(some 10), (some (7, false)), (.call 87 [(.t 9)]), []⟩, ⟨(some 11), (some (7, false)), (.un .not (.t 10)), []⟩, ⟨(some 12), none, (.pick (.t 7) (.c (.bool true)) (.t 11)), []⟩]) (.cond (.t 12) (.seq (.reg false [⟨(some 2), none, (.mov (.c (.int .i64 1))), []⟩]) .ret) .skip)) (.seq (.seq (.reg false [⟨(some 13), none, (.faddr (.t 1) 2), []⟩, ⟨(some 14), none, (.ld (.t 13) none), []⟩, ⟨(some 15), none, (.call 88 [(.t 14)]), []⟩, ⟨(some 16), none, (.un .not (.t 15)), []⟩]) (.cond (.t 16) (.seq (.reg false [⟨(some 2), none, (.mov (.c (.int .i64 3))), []⟩]) .ret) .skip)) (.seq (.seq (.reg false [⟨(some 17), none, (.faddr (.t 1) 3), []⟩, ⟨(some 18), none, (.ld (.t 17) none), []⟩, ⟨(some 19), none, (.bin .neq (.t 18) (.c (.str []))), []⟩, ⟨(some 20), none, (.mov (.t 19)), []⟩, ⟨(some 21), (some (20, true)), (.faddr (.t 1) 3), []⟩, ⟨(some 22), (some (20, true)), (.ld (.t 21) none), []⟩, ⟨(some 23), (some (20, true)), (.call 89 [(.t 22)]), []⟩, ⟨(some 24), (some (20, true)), (.un .not (.t 23)), []⟩, ⟨(some 25), none, (.pick (.t 20) (.t 24) (.c (.bool false))), []⟩, ⟨(some 26), none, (.mov (.t 25)), []⟩, ⟨(some 27), (some (26, false)), (.faddr (.t 1) 4), []⟩, ⟨(some 28), (some (26, false)), (.ld (.t 27) none), []⟩, ⟨(some 29), (some (26, false)), (.bin .neq (.t 28) (.c (.str []))), []⟩, ⟨(some 30), (some (26, false)), (.mov (.t 29)), []⟩, ⟨(some 31), (some (30, true)), (.faddr (.t 1) 4), []⟩, ⟨(some 32), (some (30, true)), (.ld (.t 31) none), []⟩, ⟨(some 33), (some (30, true)), (.call 89 [(.t 32)]), []⟩, ⟨(some 34), (some (30, true)), (.un .not (.t 33)), []⟩, ⟨(some 35), (some (26, false)), (.pick (.t 30) (.t 34) (.c (.bool false))), []⟩, ⟨(some 36), none, (.pick (.t 26) (.c (.bool true)) (.t 35)), []⟩]) (.cond (.t 36) (.seq (.reg false [⟨(some 2), none, (.mov (.c (.int .i64 5))), []⟩]) .ret) .skip)) (.seq (.seq (.reg false [⟨(some 37), none, (.faddr (.t 1) 5), []⟩, ⟨(some 38), none, (.ld (.t 37) none), []⟩, ⟨(some 39), none, (.mov (.t 38)), []⟩, ⟨(some 40), (some (39, true)), (.faddr (.t 1) 4), []⟩, ⟨(some 41), (some (39, true)), (.ld (.t 40) none), []⟩, ⟨(some 42), (some (39, true)), (.bin .eql (.t 41) (.c (.str []))), []⟩, ⟨(some 43), none, (.pick (.t 39) (.t 42) (.c (.bool false))), []⟩]) (.cond (.t 43) (.seq (.reg false [⟨(some 2), none, (.mov (.c (.int .i64 3))), []⟩]) .ret) .skip)) (.seq (.reg false [⟨(some 2), none, (.mov (.c (.int .i64 0))), []⟩]) .ret))))))
theorem h60 : compF Tryd.prog sh 60 = some (c60, [2], 44) := by kernel_rfl
def c9 : Cmd := (.seq (.reg false [⟨(some 0), none, (.mov (.c (.bool false))), []⟩]) (.seq (.reg false [⟨(some 4), none, (.bld [(.int .i64 0), (.int .i64 0)] [(0, (1, (.c (.int .i64 1)))), (1, (1, (.c (.int .i64 3))))]), []⟩, ⟨(some 5), none, (.bs 1 2 [(.int .i64 0), (.int .i64 0)] [(0, (.t 4))]), []⟩, ⟨(some 6), none, (.bld [(.str []), .ns] [(0, (1, (.c (.str [97])))), (1, (1, (.t 5)))]), []⟩, ⟨(some 7), none, (.bs 1 2 [(.str []), .ns] [(0, (.t 6))]), []⟩, ⟨(some 8), none, (.call 23 [(.t 7), (.c (.str [97])), (.c (.int .i64 2))]), []⟩, ⟨(some 3), none, (.mov (.t 8)), []⟩, ⟨(some 9), none, (.ext (.t 3) 0), []⟩, ⟨(some 10), none, (.ext (.t 3) 1), []⟩, ⟨(some 1), none, (.mov (.t 9)), []⟩, ⟨(some 2), none, (.mov (.t 10)), []⟩]) (.seq (.reg false [⟨(some 11), none, (.mov (.t 2)), []⟩, ⟨(some 12), none, (.bin .eql (.t 11) (.c (.int .i64 0))), []⟩, ⟨(some 13), none, (.mov (.t 12)), []⟩, ⟨(some 14), (some (13, true)), (.mov (.t 1)), []⟩, ⟨(some 15), none, (.pick (.t 13) (.t 14) (.c (.bool false))), []⟩, ⟨(some 0), none, (.mov (.t 15)), []⟩]) .ret)))
theorem h9 : compF Tryd.prog sh 9 = some (c9, [0], 16) := by kernel_rfl
end Go.Proofs.P4
end
section
set_option linter.unusedVariables false
set_option linter.unusedSimpArgs false
set_option maxRecDepth 10000
namespace Go.Proofs.P4
open Go.Ex
theorem In_ok (n lo hi : Int) : OkF Tryd.prog 49 [.int .i64 n, .int .i64 lo, .int .i64 hi] (.bool (decide (lo ≤ n) && decide (n ≤ hi)), []) := by
  refine OkF.W0 hm h49 (of_decide_eq_true rfl) ?_
  unfold c49
  by_cases h : lo ≤ n <;> simp -dsimp [h]
theorem within_ok (n lo hi : Int) : OkF Tryd.prog 86 [.int .i64 n, .int .i64 lo, .int .i64 hi] (.bool (decide (lo ≤ n) && decide (n ≤ hi)), []) := by
  refine OkF.W0 hm h86 (of_decide_eq_true rfl) ?_
  unfold c86
  by_cases h : lo ≤ n <;> simp -dsimp [h]
def momB (n : Int) : Bool := decide (0 ≤ n) && decide (n ≤ 1000000000000)
theorem inM_ok (n : Int) : OkF Tryd.prog 49 [.int .i64 n, .int .i64 0, .int .i64 1000000000000] (.bool (momB n), []) := In_ok n 0 1000000000000
theorem moment_ok (n : Int) : OkF Tryd.prog 87 [.int .i64 n] (.bool (momB n), []) := by
  refine OkF.W0 hm h87 (of_decide_eq_true rfl) ?_
  unfold c87
  simp -dsimp []
  refine call_bool (within_ok n 0 1000000000000) ?_
  simp [momB]
def nmC (c : UInt8) : Bool := (decide (97 ≤ c.toNat) && decide (c.toNat ≤ 122)) || (decide (48 ≤ c.toNat) && decide (c.toNat ≤ 57)) || decide (c.toNat = 45) || decide (c.toNat = 95)
def ltr (c : UInt8) : Bool := decide (97 ≤ c.toNat) && decide (c.toNat ≤ 122)
/-- A name. -/
def nm (s : List UInt8) : Bool := s.all nmC && decide (s.length ≤ 40) && (match s with | [] => false | c :: _ => ltr c)
def visC (c : UInt8) : Bool := decide (33 ≤ c.toNat) && decide (c.toNat ≤ 126)
def vis (s : List UInt8) : Bool := !s.isEmpty && decide (s.length ≤ 40) && s.all visC
theorem Name_ok (s : List UInt8) : OkF Tryd.prog 77 [.str s] (.bool (vis s), []) := by
  refine OkF.W0 hm h77 (of_decide_eq_true rfl) ?_
  by_cases h1 : s = []
  · subst h1
    unfold c77
    simp -dsimp [vis]
  have h1' : s.isEmpty = false := by simpa using h1
  by_cases h2 : s.length ≤ 40
  · have h2' : ¬ (40 < (s.length : Int)) := by omega
    unfold c77
    simp -dsimp [h1, h2']
    refine for_lt s.length (fun k s' => s'.t 0 = .str s ∧ (s.take k).all visC = true) rfl (by omega) (by simp) (by simp) (by simp) (fun k s' hk hI hi hn => ?_) (fun s' hI hi hn => ?_)
    · obtain ⟨i1, i3⟩ := hI
      have hg : s[k]? = some s[k] := List.getElem?_eq_getElem hk
      generalize s[k] = c at hg
      by_cases e1 : ((c.toNat : Int) < 33)
      · have hv : visC c = false := by unfold visC; simp; omega
        unfold k77_0
        simp -dsimp [i1, hi, hn, hg, e1, vis, all_false hg hv]
      · by_cases e2 : (126 < (c.toNat : Int))
        · have hv : visC c = false := by unfold visC; simp; omega
          unfold k77_0
          simp -dsimp [i1, hi, hn, hg, e1, e2, vis, all_false hg hv]
        · have hv : visC c = true := by unfold visC; simp; omega
          unfold k77_0
          simp -dsimp [i1, hi, hn, hg, e1, e2, all_take_succ hg i3 hv]
    · obtain ⟨i1, i3⟩ := hI
      rw [List.take_length] at i3
      simp [vis, h1, h2, i1, i3]
  · have h2' : (40 < (s.length : Int)) := by omega
    unfold c77
    simp -dsimp [vis, h1, h2, h2']
theorem nm_vis {s : List UInt8} (h : nm s = true) : vis s = true := by
  unfold nm at h
  simp only [Bool.and_eq_true] at h
  obtain ⟨⟨h1, h2⟩, h3⟩ := h
  unfold vis
  simp only [Bool.and_eq_true]
  refine ⟨⟨?_, h2⟩, ?_⟩
  · cases s with
    | nil => simp at h3
    | cons c r => rfl
  · rw [List.all_eq_true] at h1 ⊢
    intro c hc
    have := h1 c hc
    unfold nmC at this
    unfold visC
    simp at this ⊢
    omega
theorem name_ok (s : List UInt8) : OkF Tryd.prog 48 [.str s] (.bool (nm s), []) := by
  refine OkF.W0 hm h48 (of_decide_eq_true rfl) ?_
  unfold c48
  simp -dsimp []
  refine call_bool (Name_ok s) ?_
  by_cases hv : vis s = true
  · have hl : s.length ≤ 40 := by unfold vis at hv; simp at hv; exact hv.1.2
    obtain ⟨c0, r, hs⟩ : ∃ c r, c :: r = s := by
      cases s with
      | nil => simp [vis] at hv
      | cons c r => exact ⟨c, r, rfl⟩
    have hg0 : s[0]? = some c0 := by rw [← hs]; rfl
    by_cases hlt : ltr c0 = true
    · have hlt' := hlt
      unfold ltr at hlt'
      simp at hlt'
      have e1 : ¬ ((c0.toNat : Int) < 97) := by omega
      have e2 : ¬ (122 < (c0.toNat : Int)) := by omega
      simp [hv, hg0, e1, e2]
      refine for_lt s.length (fun k s' => s'.t 0 = .str s ∧ Upto nmC s k) rfl (by omega) ⟨by simp, Upto.zero _ _⟩ (by simp) (by simp) (fun k s' hk hI hi hn => ?_) (fun s' hI hi hn => ?_)
      · obtain ⟨i1, i3⟩ := hI
        have hg : s[k]? = some s[k] := List.getElem?_eq_getElem hk
        generalize s[k] = c at hg
        unfold k48_0
        simp -dsimp [i1, hi, hn, hg]
        repeat' (first
          | (refine condK_of ?_ ?_ <;> intro q <;> simp -dsimp [q, i1])
          | (refine wantT_of ?_ ?_ <;> intro q <;> simp -dsimp [q, i1])
          | (refine wantF_of ?_ ?_ <;> intro q <;> simp -dsimp [q, i1]))
        all_goals
          simp only [decide_eq_true_eq, decide_eq_false_iff_not, Bool.not_eq_eq_eq_not, Bool.not_true, Bool.not_false] at *
          first
          | (have hc : nmC c = true := by (unfold nmC; simp; omega)
             exact ⟨hi, hn, i3.succ hg hc⟩)
          | (have hc : nmC c = false := by (unfold nmC; simp; omega)
             unfold nm
             rw [all_false hg hc]
             rfl)
      · obtain ⟨i1, i3⟩ := hI
        have : nm s = true := by
          unfold nm
          rw [i3.all, ← hs]
          rw [← hs] at hl
          simpa [hlt] using hl
        simp [this]
    · have : nm s = false := by
        unfold nm
        rw [← hs]
        simp [hlt]
      unfold ltr at hlt
      simp at hlt
      simp [hv, hg0]
      by_cases e1 : ((c0.toNat : Int) < 97)
      · simp -dsimp [e1, this, hg0]
      · have e2 : 122 < (c0.toNat : Int) := by omega
        simp -dsimp [e1, e2, this, hg0]
  · have hn : nm s = false := by
      cases h : nm s with
      | false => rfl
      | true => exact absurd (nm_vis h) hv
    simp [hv, hn]
end Go.Proofs.P4
end
section
set_option linter.unusedVariables false
set_option linter.unusedSimpArgs false
set_option maxRecDepth 10000
set_option maxHeartbeats 4000000
namespace Go.Proofs.P4
open Go.Ex
abbrev Span := Int × Int
abbrev Fact := List UInt8 × List Span
def spanCd : Cd Span := .pair (.int .i64) (.int .i64)
def factCd : Cd Fact := .pair .str (.slice spanCd)
theorem span_cells (a : Span) : spanCd.cells a = [.int .i64 a.1, .int .i64 a.2] := rfl
theorem fact_cells (a : Fact) : factCd.cells a = [.str a.1, .ro a.2.length (fl spanCd a.2)] := rfl
section
variable {h : Hp} {k : Nat} {kk : IntKind} {K : V → List Nat → Prop}
theorem span_ia {l : List Span} {a : Span} (e : l[k]? = some a) : iaddrK h (.ro l.length (fl spanCd l)) (.int kk k) 2 K ⟨⟩ = K (.rp (fl spanCd l) (k * 2)) [] := iaddr_fl rfl (by decide) e
theorem span_ld {l : List Span} {a : Span} (e : l[k]? = some a) : ldA h (.rp (fl spanCd l) (k * 2)) (some 2) = some (.agg [.int .i64 a.1, .int .i64 a.2]) := ld_fls (n := 2) rfl e
theorem span_l0 {l : List Span} {a : Span} (e : l[k]? = some a) : ldA h (.rp (fl spanCd l) (k * 2)) none = some (.int .i64 a.1) := ld_fl0 (n := 2) rfl (by decide) e
theorem span_l1 {l : List Span} {a : Span} (e : l[k]? = some a) : ldA h (.rp (fl spanCd l) (k * 2 + 1)) none = some (.int .i64 a.2) := ld_fl (n := 2) rfl (by decide) e
theorem fact_ia {l : List Fact} {a : Fact} (e : l[k]? = some a) : iaddrK h (.ro l.length (fl factCd l)) (.int kk k) 2 K ⟨⟩ = K (.rp (fl factCd l) (k * 2)) [] := iaddr_fl rfl (by decide) e
theorem fact_ld {l : List Fact} {a : Fact} (e : l[k]? = some a) : ldA h (.rp (fl factCd l) (k * 2)) (some 2) = some (.agg [.str a.1, .ro a.2.length (fl spanCd a.2)]) := ld_fls (n := 2) rfl e
theorem fact_l0 {l : List Fact} {a : Fact} (e : l[k]? = some a) : ldA h (.rp (fl factCd l) (k * 2)) none = some (.str a.1) := ld_fl0 (n := 2) rfl (by decide) e
theorem fact_l1 {l : List Fact} {a : Fact} (e : l[k]? = some a) : ldA h (.rp (fl factCd l) (k * 2 + 1)) none = some (.ro a.2.length (fl spanCd a.2)) := ld_fl (n := 2) rfl (by decide) e
end
def spE (l : List Span) (k : Nat) : Int := match l[k]? with
  | none => 0
  | some s => if !(momB s.1 && momB s.2) then 1 else if s.2 ≤ s.1 then 13 else if before l (fun t => decide (s.1 < t.2)) k then 8 else 0
def spansE (l : List Span) : Int := fe (spE l) l.length
def factE (l : List Fact) (k : Nat) : Int := match l[k]? with
  | none => 0
  | some x => if !nm x.1 then 5 else if 200 < x.2.length then 2 else if spansE x.2 ≠ 0 then spansE x.2 else if before l (fun t => leS x.1 t.1) k then 8 else 0
def factsE (l : List Fact) : Int := if 100 < l.length then 2 else fe (factE l) l.length
theorem facts_ok (l : List Fact) : OkF Tryd.prog 47 [.ro l.length (fl factCd l)] (.int .i64 (factsE l), []) := by
  refine OkF.W0 hm h47 (of_decide_eq_true rfl) ?_
  unfold c47
  by_cases h1 : 100 < l.length
  · have h1' : (100 < (l.length : Int)) := by omega
    simp -dsimp [h1', factsE, h1]
  have h1' : ¬ (100 < (l.length : Int)) := by omega
  simp -dsimp [h1']
  have hfe : factsE l = fe (factE l) l.length := by unfold factsE; rw [if_neg h1]
  refine for_lt l.length (fun k s' => s'.t 0 = .ro l.length (fl factCd l) ∧ s'.t 10 = .ro l.length (fl factCd l) ∧ fe (factE l) k = 0) rfl (by omega) (by simp -dsimp [fe]) (by simp -dsimp) (by simp -dsimp) (fun k s' hk hI hi hn => ?_) (fun s' hI hi hn => ?_)
  · obtain ⟨i0, i1, i3⟩ := hI
    have hg : l[k]? = some l[k] := List.getElem?_eq_getElem hk
    generalize l[k] = x at hg
    have bad : ∀ v, factE l k = v → v ≠ 0 → factsE l = v := fun v h1 h2 => by rw [hfe, fe_stop i3 (by rw [h1]; exact h2) hk, h1]
    unfold k47_1
    simp -dsimp [i0, i1, hi, hn, fact_ia hg, fact_ld hg]
    refine call_bool (name_ok _) ?_
    simp -dsimp
    refine condK_of ?_ ?_ <;> intro q <;> simp -dsimp [q]
    · rw [bad 5 (by unfold factE; rw [hg]; simp at q; simp [q]) (by decide)]
    refine condK_of ?_ ?_ <;> intro q1 <;> simp -dsimp [q1]
    · rw [bad 2 (by unfold factE; rw [hg]; simp at q q1; simp [q]; omega) (by decide)]
    have hx2 : x.2.length ≤ 200 := by simp at q1; omega
    have hwk : IntKind.i64.wrap (k : Int) = k := wrap_nat (by omega)
    have hq : nm x.1 = true := by simpa using q
    have deep : ∀ v j, j < x.2.length → fe (spE x.2) j = 0 → spE x.2 j = v → v ≠ 0 → factsE l = v := fun v j hj h0 h1 h2 => by
      have e : spansE x.2 = v := by unfold spansE; rw [fe_stop h0 (by rw [h1]; exact h2) hj, h1]
      refine bad v ?_ h2
      unfold factE
      rw [hg]
      have : ¬ 200 < x.2.length := by omega
      simp [hq, this, e, h2]
    refine for_lt x.2.length (fun j t => t.t 0 = .ro l.length (fl factCd l) ∧ t.t 10 = .ro l.length (fl factCd l) ∧ t.t 12 = .int .i64 k ∧ t.t 11 = .int .i64 l.length ∧ t.t 3 = .int .i64 k ∧ t.t 4 = .pt s'.nx 0 0 ∧
      t.h s'.nx = some ⟨0, 0, [.str x.1, .ro x.2.length (fl spanCd x.2)], none⟩ ∧ s'.nx < t.nx ∧ t.t 28 = .ro x.2.length (fl spanCd x.2) ∧ fe (spE x.2) j = 0) rfl (by omega) (by simp -dsimp [fe, i0, i1, hi, hn]) (by simp -dsimp) (by simp -dsimp) (fun j t hj hJ hji hjn => ?_) (fun t hJ hji hjn => ?_)
    · obtain ⟨j0, j10, j12, j11, j3, j4, jh, jx, j28, jf⟩ := hJ
      have hgj : x.2[j]? = some x.2[j] := List.getElem?_eq_getElem hj
      generalize x.2[j] = y at hgj
      obtain ⟨z, hz⟩ := prev_get hgj
      have hwj : 0 < j → IntKind.i64.wrap ((j : Int) - 1) = ((j - 1 : Nat) : Int) := fun h => wrap_pred h (by omega)
      have hbp : ∀ p, 0 < j → before x.2 p j = p z := fun p h => before_pos h (hz h)
      have hne : s'.nx ≠ t.nx := by omega
      unfold k47_0
      simp -dsimp [j0, j10, j12, j11, j3, j4, jh, j28, hji, hjn, span_ia hgj, span_ld hgj, hne]
      refine call_bool (inM_ok _) ?_
      simp -dsimp
      refine wantF_of ?_ ?_ <;> intro a1 <;> simp -dsimp [a1]
      · refine call_bool (inM_ok _) ?_
        simp -dsimp
        refine condK_of ?_ ?_ <;> intro a2 <;> simp -dsimp [a2]
        · rw [deep 1 j hj jf (by unfold spE; rw [hgj]; simp at a1 a2; simp [a1, a2]) (by decide)]
        · skip
          refine condK_of ?_ ?_ <;> intro a3 <;> simp -dsimp [a3]
          · rw [deep 13 j hj jf (by unfold spE; rw [hgj]; simp at a1 a2 a3; simp [a1, a2, a3]) (by decide)]
          · refine wantT_of ?_ ?_ <;> intro a4 <;> simp -dsimp [a4, hne, jh, j4]
            · have hp : 0 < j := by simpa using a4
              simp -dsimp [hwj hp, span_ia (hz hp), span_l1 (hz hp)]
              refine condK_of ?_ ?_ <;> intro a5 <;> simp -dsimp [a5]
              · rw [deep 8 j hj jf (by unfold spE; rw [hgj]; simp only [hbp _ hp]; simp at a1 a2 a3 a5; simp [a1, a2, a3, a5]) (by decide)]
              · simp -dsimp [hji, hjn, j0, j10, j12, j11, j3, j4, jh, hne, j28]
                exact ⟨by omega, fe_step jf (by unfold spE; rw [hgj]; simp only [hbp _ hp]; simp at a1 a2 a3 a5; simp [a1, a2, a5]; omega)⟩
            · simp -dsimp [hji, hjn, j0, j10, j12, j11, j3, j4, jh, hne, j28]
              have hp : ¬ 0 < j := by simpa using a4
              exact ⟨by omega, fe_step jf (by unfold spE; rw [hgj]; simp only [before_zero hp]; simp at a1 a2 a3; simp [a1, a2]; omega)⟩
      · rw [deep 1 j hj jf (by unfold spE; rw [hgj]; simp at a1; simp [a1]) (by decide)]
    · obtain ⟨j0, j10, j12, j11, j3, j4, jh, jx, j28, jf⟩ := hJ
      obtain ⟨z, hz⟩ := prev_get hg
      have hwj : 0 < k → IntKind.i64.wrap ((k : Int) - 1) = ((k - 1 : Nat) : Int) := fun h => wrap_pred h (by omega)
      have hbp : ∀ p, 0 < k → before l p k = p z := fun p h => before_pos h (hz h)
      have hsp : spansE x.2 = 0 := jf
      simp at q1
      have q1' : ¬ 200 < x.2.length := by omega
      simp -dsimp [j3]
      refine wantT_of ?_ ?_ <;> intro a4 <;> simp -dsimp [a4, jh, j4, j0, j3]
      · have hp : 0 < k := by simpa using a4
        simp -dsimp [hwj hp, fact_ia (hz hp), fact_l0 (hz hp)]
        refine condK_of ?_ ?_ <;> intro a5 <;> simp -dsimp [a5]
        · rw [bad 8 (by unfold factE; rw [hg]; simp only [hbp _ hp]; simp [hq, q1', hsp]; simpa using a5) (by decide)]
        · simp -dsimp [j0, j10, j12, j11]
          refine fe_step i3 (by unfold factE; rw [hg]; simp only [hbp _ hp]; simp [hq, q1', hsp]; simpa using a5)
      · simp -dsimp [j0, j10, j12, j11]
        have hp : ¬ 0 < k := by simpa using a4
        exact fe_step i3 (by unfold factE; rw [hg]; simp only [before_zero hp]; simp [hq, q1', hsp])
  · simp -dsimp [hfe, hI.2.2]
end Go.Proofs.P4
end
section
set_option linter.unusedVariables false
set_option linter.unusedSimpArgs false
set_option maxRecDepth 10000
set_option maxHeartbeats 4000000
namespace Go.Proofs.P4
open Go.Ex
def hdL (s : List UInt8) : Bool := match s with
  | [] => false
  | c :: _ => ltr c
theorem nm_eq (s : List UInt8) : nm s = (s.all nmC && decide (s.length ≤ 40) && hdL s) := rfl
theorem hdL_get {s : List UInt8} {c : UInt8} (h : s[0]? = some c) : hdL s = ltr c := by
  cases s with
  | nil => simp at h
  | cons a r => simp at h; subst h; rfl
theorem isName_ok (s : List UInt8) (hs : s.length < 2 ^ 62) : OkF Tryd.prog 89 [.str s] (.bool (nm s), []) := by
  have e62 : (2 : Nat) ^ 62 = 4611686018427387904 := by decide
  refine OkF.W0 hm h89 (of_decide_eq_true rfl) ?_
  unfold c89
  simp -dsimp
  refine loop_to 3 s.length (fun k t => t.t 3 = .int .i64 k ∧ t.t 0 = .str s ∧ Upto nmC s k ∧ (0 < k → hdL s = true)) (fun k t h => h.1) ⟨by simp -dsimp, by simp -dsimp, Upto.zero _ _, fun h => by omega⟩ (fun k t hk hI => ?_)
  obtain ⟨i3, i0, iu, ih⟩ := hI
  by_cases hlt : k < s.length
  · have hlt' : (k : Int) < (s.length : Int) := by omega
    have hg : s[k]? = some s[k] := List.getElem?_eq_getElem hlt
    have hw : IntKind.i64.wrap ((k : Int) + 1) = (k : Int) + 1 := IntWalk.i64_in _ (by omega)
    generalize s[k] = c at hg
    have good : nmC c = true → (ltr c = true ∨ 0 < k) → (k + 1 ≤ s.length) ∧ Upto nmC s (k + 1) ∧ (0 < k + 1 → hdL s = true) := fun h1 h2 => ⟨by omega, iu.succ hg h1, fun _ => by
      rcases h2 with h2 | h2
      · by_cases hk0 : 0 < k
        · exact ih hk0
        · have : k = 0 := by omega
          subst this
          rw [hdL_get hg]; exact h2
      · exact ih h2⟩
    have bad1 : nmC c = false → nm s = false := fun h => by rw [nm_eq, all_false hg h]; rfl
    have bad2 : k = 0 → ltr c = false → nm s = false := fun h1 h2 => by subst h1; rw [nm_eq, hdL_get hg, h2]; simp
    unfold l89_0
    simp -dsimp [i3, i0, hlt', hg, hw]
    repeat' (first
      | (refine condK_of ?_ ?_ <;> intro q <;> simp -dsimp [q, i0, i3, hw])
      | (refine wantT_of ?_ ?_ <;> intro q <;> simp -dsimp [q, i0, i3, hw])
      | (refine wantF_of ?_ ?_ <;> intro q <;> simp -dsimp [q, i0, i3, hw]))
    all_goals
      simp only [decide_eq_true_eq, decide_eq_false_iff_not, Bool.not_eq_eq_eq_not, Bool.not_true, Bool.not_false, Bool.or_eq_true, Bool.and_eq_true, Bool.or_eq_false_iff, Bool.and_eq_false_imp] at *
      first
      | (have h1 : nmC c = true := by (unfold nmC; simp; omega)
         have h2 : ltr c = true ∨ 0 < k := by (unfold ltr; simp; omega)
         obtain ⟨a, b, d⟩ := good h1 h2
         exact ⟨by omega, b, d (by omega)⟩)
      | exact bad1 (by (unfold nmC; simp; omega))
      | exact bad2 (by omega) (by (unfold ltr; simp; omega))
  · have hkl : k = s.length := by omega
    subst hkl
    unfold l89_0
    simp -dsimp [i3, i0]
    refine call_bool (within_ok _ _ _) ?_
    simp -dsimp
    rw [nm_eq, iu.all]
    by_cases h0 : 0 < s.length
    · rw [ih h0]
      rw [Bool.eq_iff_iff]
      simp
      omega
    · have : s = [] := List.eq_nil_of_length_eq_zero (by omega)
      subst this
      rfl
def spansR (l : List Span) : Int := if 200 < l.length then 2 else spansE l
end Go.Proofs.P4
end
section
set_option linter.unusedVariables false
set_option linter.unusedSimpArgs false
set_option maxRecDepth 10000
set_option maxHeartbeats 4000000
namespace Go.Proofs.P4
open Go.Ex
def spansOf (l : List Fact) (s : List UInt8) : List Span := match l.find? (fun x => decide (x.1 = s)) with
  | some x => x.2
  | none => []
theorem spans_ok (l : List Fact) (s : List UInt8) (hl : l.length < 2 ^ 62) : OkF Tryd.prog 79 [.ro l.length (fl factCd l), .str s] (.ro (spansOf l s).length (fl spanCd (spansOf l s)), []) := by
  refine OkF.W0 hm h79 (of_decide_eq_true rfl) ?_
  unfold c79
  simp -dsimp
  refine for_lt l.length (fun k t => t.t 7 = .ro l.length (fl factCd l) ∧ t.t 1 = .str s ∧ Not' (fun x => decide (x.1 = s)) l k) rfl hl (by simp -dsimp [Not'.zero]) (by simp -dsimp) (by simp -dsimp) (fun k t hk hI hi hn => ?_) (fun t hI hi hn => ?_)
  · obtain ⟨i7, i1, iu⟩ := hI
    have hg : l[k]? = some l[k] := List.getElem?_eq_getElem hk
    generalize l[k] = x at hg
    unfold k79_0
    simp -dsimp [i7, i1, hi, hn, fact_ia hg, fact_ld hg]
    refine condK_of ?_ ?_ <;> intro q <;> simp -dsimp [q, i7, i1, hi, hn]
    · have : spansOf l s = x.2 := by unfold spansOf; rw [find_stop iu hg q]
      simp [this]
    · exact iu.succ hg q
  · obtain ⟨i7, i1, iu⟩ := hI
    have : spansOf l s = [] := by unfold spansOf; rw [find_none iu]
    simp -dsimp [this, fl_nil]
def since (l : List Span) (at' : Int) : Int × Bool := match l.find? (fun s => decide (at' < s.2)) with
  | some s => (max at' s.1, true)
  | none => (0, false)
theorem since_ok (l : List Span) (n : Int) (hl : l.length < 2 ^ 62) : OkF Tryd.prog 78 [.ro l.length (fl spanCd l), .int .i64 n] (.tup [.int .i64 (since l n).1, .bool (since l n).2], []) := by
  refine OkF.W0 hm h78 (of_decide_eq_true rfl) ?_
  unfold c78
  simp -dsimp
  refine for_lt l.length (fun k t => t.t 8 = .ro l.length (fl spanCd l) ∧ t.t 1 = .int .i64 n ∧ Not' (fun s => decide (n < s.2)) l k) rfl hl (by simp -dsimp [Not'.zero]) (by simp -dsimp) (by simp -dsimp) (fun k t hk hI hi hn => ?_) (fun t hI hi hn => ?_)
  · obtain ⟨i8, i1, iu⟩ := hI
    have hg : l[k]? = some l[k] := List.getElem?_eq_getElem hk
    generalize l[k] = x at hg
    unfold k78_0
    simp -dsimp [i8, i1, hi, hn, span_ia hg, span_ld hg]
    refine condK_of ?_ ?_ <;> intro q <;> simp -dsimp [q, i8, i1, hi, hn]
    · have : since l n = (max n x.1, true) := by unfold since; rw [find_stop iu hg q]
      simp [this]
    · exact iu.succ hg q
  · obtain ⟨i8, i1, iu⟩ := hI
    have : since l n = (0, false) := by unfold since; rw [find_none iu]
    simp -dsimp [this]
def inSp (l : List Span) (n : Int) : Bool := l.any fun s => decide (s.1 ≤ n) && decide (n < s.2)
def isF (l : List Fact) (s : List UInt8) (n : Int) : Bool := (since (spansOf l s) n).2 && decide ((since (spansOf l s) n).1 = n)
theorem is_ok (l : List Fact) (s : List UInt8) (n : Int) (hl : l.length < 2 ^ 62) (hs : (spansOf l s).length < 2 ^ 62) : OkF Tryd.prog 50 [.ro l.length (fl factCd l), .str s, .int .i64 n] (.bool (isF l s n), []) := by
  refine OkF.W0 hm h50 (of_decide_eq_true rfl) ?_
  unfold c50
  simp -dsimp
  refine call_one (spans_ok l s hl) (okRes_of (by simp)) ?_
  simp -dsimp
  refine call_one (since_ok _ _ hs) (okRes_of (by simp)) ?_
  simp -dsimp
  refine wantT_of ?_ ?_ <;> intro q <;> simp -dsimp [q, isF]
end Go.Proofs.P4
end
section
set_option linter.unusedVariables false
set_option linter.unusedSimpArgs false
set_option maxRecDepth 10000
set_option maxHeartbeats 4000000
namespace Go.Proofs.P4
open Go.Ex
theorem spE_zero {l : List Span} {k : Nat} {a : Span} (h : spE l k = 0) (hg : l[k]? = some a) : a.1 < a.2 ∧ ∀ z, 0 < k → l[k - 1]? = some z → z.2 ≤ a.1 := by
  unfold spE at h
  rw [hg] at h
  simp only at h
  split at h
  · cases h
  · split at h
    · cases h
    · split at h
      · cases h
      · rename_i h2 h3
        refine ⟨by omega, fun z hp hz => ?_⟩
        rw [before_pos hp hz] at h3
        simpa using h3
theorem since_in {l : List Span} (h : spansE l = 0) (n : Int) : ((since l n).2 && decide ((since l n).1 = n)) = inSp l n := by
  have hz : ∀ (k : Nat) a, l[k]? = some a → a.1 < a.2 ∧ ∀ z, 0 < k → l[k - 1]? = some z → z.2 ≤ a.1 := fun k a hg => spE_zero (fe_zero h k (List.getElem?_eq_some_iff.1 hg).1) hg
  cases hf : l.find? (fun s => decide (n < s.2)) with
  | none =>
    have e1 : since l n = (0, false) := by unfold since; rw [hf]
    rw [e1]
    rw [List.find?_eq_none] at hf
    symm
    simp only [inSp, Bool.false_and, List.any_eq_false]
    intro a ha
    have := hf a ha
    simp at this ⊢
    omega
  | some s =>
    have e1 : since l n = (max n s.1, true) := by unfold since; rw [hf]
    rw [e1]
    rw [List.find?_eq_some_iff_getElem] at hf
    obtain ⟨h1, k, hk, hks, hlt⟩ := hf
    simp at h1
    by_cases hc : s.1 ≤ n
    · have : max n s.1 = n := by omega
      simp only [this, decide_true, Bool.and_true]
      symm
      exact any_stop (List.getElem?_eq_getElem hk) (by rw [hks]; simp; omega)
    · have hne : ¬ max n s.1 = n := by omega
      simp only [hne, decide_false, Bool.and_false]
      symm
      have up : ∀ (j : Nat) a, l[k + j]? = some a → n < a.1 := by
        intro j
        induction j with
        | zero => intro a ha; rw [Nat.add_zero, List.getElem?_eq_getElem hk, hks] at ha; injection ha with ha; subst ha; omega
        | succ j ih =>
          intro a ha
          have hl := (List.getElem?_eq_some_iff.1 ha).1
          have hb : l[k + j]? = some l[k + j] := List.getElem?_eq_getElem (by omega)
          have q1 := (hz _ _ ha).2 l[k + j] (by omega) (by rw [← hb]; congr 1)
          have q2 := (hz _ _ hb).1
          have q3 := ih _ hb
          omega
      simp only [inSp, List.any_eq_false]
      intro a ha
      obtain ⟨i, hi⟩ := List.getElem?_of_mem ha
      have hil := (List.getElem?_eq_some_iff.1 hi).1
      have hia := (List.getElem?_eq_some_iff.1 hi).2
      simp
      by_cases hik : i < k
      · have := hlt i hik
        rw [hia] at this
        simp at this
        omega
      · have := up (i - k) a (by rw [show k + (i - k) = i by omega]; exact hi)
        omega
theorem facts_small {l : List Fact} (h : factsE l = 0) : l.length ≤ 100 ∧ ∀ x ∈ l, x.2.length ≤ 200 ∧ spansE x.2 = 0 := by
  unfold factsE at h
  split at h
  · cases h
  · refine ⟨by omega, fun x hx => ?_⟩
    obtain ⟨k, hk⟩ := List.getElem?_of_mem hx
    have := fe_zero h k (List.getElem?_eq_some_iff.1 hk).1
    unfold factE at this
    rw [hk] at this
    simp only at this
    split at this
    · cases this
    · split at this
      · cases this
      · split at this
        · rename_i q; exact absurd this q
        · rename_i q1 q2; exact ⟨by omega, by simpa using q2⟩
theorem spansOf_small {l : List Fact} (h : factsE l = 0) (s : List UInt8) : (spansOf l s).length ≤ 200 ∧ spansE (spansOf l s) = 0 := by
  unfold spansOf
  split
  · rename_i x hx
    exact (facts_small h).2 x (List.mem_of_find?_eq_some hx)
  · exact ⟨by simp, rfl⟩
/-- Is. -/
def isR (l : List Fact) (s : List UInt8) (n : Int) : Bool × Int := if factsE l ≠ 0 then (false, factsE l) else if !nm s then (false, 5) else if !momB n then (false, 1) else (isF l s n, 0)
theorem Is_ok (l : List Fact) (s : List UInt8) (n : Int) : OkF Tryd.prog 23 [.ro l.length (fl factCd l), .str s, .int .i64 n] (.tup [.bool (isR l s n).1, .int .i64 (isR l s n).2], []) := by
  refine OkF.W0 hm h23 (of_decide_eq_true rfl) ?_
  unfold c23
  simp -dsimp
  refine call_int (facts_ok l) ?_
  simp -dsimp
  refine condK_of ?_ ?_ <;> intro q <;> simp -dsimp [q]
  · have : factsE l ≠ 0 := by simpa using q
    simp [isR, this]
  have hz : factsE l = 0 := by simpa using q
  refine call_bool (name_ok _) ?_
  simp -dsimp
  refine condK_of ?_ ?_ <;> intro q1 <;> simp -dsimp [q1]
  · simp at q1; simp [isR, hz, q1]
  refine call_bool (inM_ok _) ?_
  simp -dsimp
  refine condK_of ?_ ?_ <;> intro q2 <;> simp -dsimp [q2]
  · simp at q1 q2; simp [isR, hz, q1, q2]
  have h1 := (facts_small hz).1
  have h2 := (spansOf_small hz s).1
  refine call_bool (is_ok l s n (by omega) (by omega)) ?_
  simp -dsimp
  simp at q1 q2; simp [isR, hz, q1, q2]
end Go.Proofs.P4
end
section
set_option linter.unusedVariables false
set_option linter.unusedSimpArgs false
set_option maxRecDepth 10000
set_option maxHeartbeats 4000000
namespace Go.Proofs.P4
open Go.Ex
def inB (n lo hi : Int) : Bool := decide (lo ≤ n) && decide (n ≤ hi)
theorem inB_ok (n lo hi : Int) : OkF Tryd.prog 49 [.int .i64 n, .int .i64 lo, .int .i64 hi] (.bool (inB n lo hi), []) := In_ok n lo hi
theorem inBR_ok (n lo hi : Int) : OkF Tryd.prog 86 [.int .i64 n, .int .i64 lo, .int .i64 hi] (.bool (inB n lo hi), []) := within_ok n lo hi
theorem mom_eq (n : Int) : momB n = inB n 0 1000000000000 := rfl
def plC (c : UInt8) : Bool := decide (32 ≤ c.toNat) && decide (c.toNat ≤ 126)
def spc (o : Option UInt8) : Bool := match o with
  | some c => decide ((c.toNat : Int) = 32)
  | none => false
def plain (s : List UInt8) : Bool := s.all plC && !decide (s = [])
def cmd (s : List UInt8) : Bool := plain s && decide ((s.length : Int) ≤ 100) && !spc s[0]? && !spc s[s.length - 1]?
theorem plain_ok (s : List UInt8) (hs : s.length < 2 ^ 62) : OkF Tryd.prog 42 [.str s] (.bool (plain s), []) := by
  refine OkF.W0 hm h42 (of_decide_eq_true rfl) ?_
  unfold c42
  simp -dsimp
  refine for_lt s.length (fun k s' => s'.t 0 = .str s ∧ Upto plC s k) rfl hs (by simp -dsimp [Upto.zero]) (by simp) (by simp) (fun k s' hk hI hi hn => ?_) (fun s' hI hi hn => ?_)
  · obtain ⟨i1, i3⟩ := hI
    have hg : s[k]? = some s[k] := List.getElem?_eq_getElem hk
    generalize s[k] = c at hg
    have bad : plC c = false → plain s = false := fun h => by unfold plain; rw [all_false hg h]; rfl
    unfold k42_0
    simp -dsimp [i1, hi, hn, hg]
    repeat' (first
      | (refine condK_of ?_ ?_ <;> intro q <;> simp -dsimp [q, i1, hi, hn, hg])
      | (refine wantF_of ?_ ?_ <;> intro q <;> simp -dsimp [q, i1, hi, hn, hg]))
    all_goals
      simp only [decide_eq_true_eq, decide_eq_false_iff_not] at *
      first
      | exact bad (by (unfold plC; simp; omega))
      | exact i3.succ hg (by (unfold plC; simp; omega))
  · obtain ⟨i1, i3⟩ := hI
    simp -dsimp [i1, plain, i3.all]
theorem command_ok (s : List UInt8) (hs : s.length < 2 ^ 62) : OkF Tryd.prog 80 [.str s] (.bool (cmd s), []) := by
  refine OkF.W0 hm h80 (of_decide_eq_true rfl) ?_
  unfold c80
  simp -dsimp
  refine call_bool (plain_ok s hs) ?_
  by_cases hp : plain s = true
  · have hne : s ≠ [] := by
      intro h; subst h; simp [plain] at hp
    have hl : 0 < s.length := List.length_pos_iff.2 hne
    have h0 : s[0]? = some s[0] := List.getElem?_eq_getElem hl
    have h1 : s[s.length - 1]? = some s[s.length - 1] := List.getElem?_eq_getElem (by omega)
    have hw : IntKind.i64.wrap ((s.length : Int) - 1) = ((s.length - 1 : Nat) : Int) := wrap_pred hl hs
    generalize s[0] = a at h0
    generalize s[s.length - 1] = b at h1
    simp -dsimp [hp]
    repeat' (first
      | (refine wantT_of ?_ ?_ <;> intro q <;> simp -dsimp [q, h0, h1, hw]))
    all_goals (simp_all [cmd, spc] <;> omega)
  · have hp' : plain s = false := by simpa using hp
    simp -dsimp [hp', cmd]
theorem isCommand_ok (s : List UInt8) (hs : s.length < 2 ^ 62) : OkF Tryd.prog 88 [.str s] (.bool (cmd s), []) := by
  have e62 : (2 : Nat) ^ 62 = 4611686018427387904 := by decide
  refine OkF.W0 hm h88 (of_decide_eq_true rfl) ?_
  unfold c88
  simp -dsimp
  refine loop_to 3 s.length (fun k t => t.t 3 = .int .i64 k ∧ t.t 0 = .str s ∧ Upto plC s k) (fun k t h => h.1) ⟨by simp -dsimp, by simp -dsimp, Upto.zero _ _⟩ (fun k t hk hI => ?_)
  obtain ⟨i3, i0, iu⟩ := hI
  by_cases hlt : k < s.length
  · have hlt' : (k : Int) < (s.length : Int) := by omega
    have hg : s[k]? = some s[k] := List.getElem?_eq_getElem hlt
    have hw : IntKind.i64.wrap ((k : Int) + 1) = (k : Int) + 1 := IntWalk.i64_in _ (by omega)
    generalize s[k] = c at hg
    have bad : plC c = false → cmd s = false := fun h => by unfold cmd plain; rw [all_false hg h]; rfl
    unfold l88_0
    simp -dsimp [i3, i0, hlt', hg, hw]
    repeat' (first
      | (refine condK_of ?_ ?_ <;> intro q <;> simp -dsimp [q, i0, i3, hw, hg])
      | (refine wantF_of ?_ ?_ <;> intro q <;> simp -dsimp [q, i0, i3, hw, hg]))
    all_goals
      simp only [decide_eq_true_eq, decide_eq_false_iff_not] at *
      first
      | exact bad (by (unfold plC; simp; omega))
      | exact ⟨by omega, iu.succ hg (by (unfold plC; simp; omega))⟩
  · have hkl : k = s.length := by omega
    subst hkl
    unfold l88_0
    simp -dsimp [i3, i0]
    refine call_bool (inBR_ok _ _ _) ?_
    by_cases hp : s = []
    · subst hp
      simp -dsimp [inB, cmd, plain]
    · have hl : 0 < s.length := List.length_pos_iff.2 hp
      have h0 : s[0]? = some s[0] := List.getElem?_eq_getElem hl
      have h1 : s[s.length - 1]? = some s[s.length - 1] := List.getElem?_eq_getElem (by omega)
      have hw : IntKind.i64.wrap ((s.length : Int) - 1) = ((s.length - 1 : Nat) : Int) := wrap_pred hl hs
      have hpl : plain s = true := by simp [plain, iu.all, hp]
      have hin : inB s.length 1 100 = decide ((s.length : Int) ≤ 100) := by unfold inB; rw [Bool.eq_iff_iff]; simp; omega
      generalize s[0] = a at h0
      generalize s[s.length - 1] = b at h1
      simp -dsimp [hin, i0]
      repeat' (first
        | (refine wantT_of ?_ ?_ <;> intro q <;> simp -dsimp [q, h0, h1, hw, i0]))
      all_goals (simp_all [cmd, spc] <;> omega)
abbrev Entry := Int × Int × List UInt8 × List UInt8 × List UInt8 × Bool
def entCd : Cd Entry := .pair (.int .i64) (.pair (.int .i64) (.pair .str (.pair .str (.pair .str .bool))))
def entV (x : Entry) : List V := [.int .i64 x.1, .int .i64 x.2.1, .str x.2.2.1, .str x.2.2.2.1, .str x.2.2.2.2.1, .bool x.2.2.2.2.2]
theorem ent_cells (x : Entry) : entCd.cells x = entV x := rfl
def entOk (x : Entry) : Prop := x.2.2.1.length < 2 ^ 62 ∧ x.2.2.2.1.length < 2 ^ 62 ∧ x.2.2.2.2.1.length < 2 ^ 62
def entE (x : Entry) : Int := if !(inB x.1 1 1000000000000 && inB x.2.1 0 1000000000000) then 1 else if !cmd x.2.2.1 then 3 else if (!decide (x.2.2.2.1 = []) && !nm x.2.2.2.1) || (!decide (x.2.2.2.2.1 = []) && !nm x.2.2.2.2.1) then 5
  else if x.2.2.2.2.2 && decide (x.2.2.2.2.1 = []) then 3 else 0
theorem checkEntry_ok (x : Entry) (hx : entOk x) : OkF Tryd.prog 51 [.agg (entV x)] (.int .i64 (entE x), []) := by
  obtain ⟨id, at', c, g, i, n⟩ := x
  obtain ⟨hc, hg, hi⟩ := hx
  simp only at hc hg hi
  refine OkF.W0 hm h51 (of_decide_eq_true rfl) ?_
  unfold c51
  simp -dsimp [entV]
  repeat' (first
      | (refine condK_of ?_ ?_ <;> intro q <;> simp -dsimp [q])
      | (refine wantF_of ?_ ?_ <;> intro q <;> simp -dsimp [q])
      | (refine wantT_of ?_ ?_ <;> intro q <;> simp -dsimp [q])
      | (refine call_bool (inB_ok _ _ _) ?_; simp -dsimp)
      | (refine call_bool (name_ok _) ?_; simp -dsimp)
      | (refine call_bool (command_ok _ hc) ?_; simp -dsimp))
  all_goals simp_all [entE]
theorem checkEntryRef_ok (x : Entry) (hx : entOk x) : OkF Tryd.prog 60 [.agg (entV x)] (.int .i64 (entE x), []) := by
  obtain ⟨id, at', c, g, i, n⟩ := x
  obtain ⟨hc, hg, hi⟩ := hx
  simp only at hc hg hi
  refine OkF.W0 hm h60 (of_decide_eq_true rfl) ?_
  unfold c60
  simp -dsimp [entV]
  repeat' (first
      | (refine condK_of ?_ ?_ <;> intro q <;> simp -dsimp [q])
      | (refine wantF_of ?_ ?_ <;> intro q <;> simp -dsimp [q])
      | (refine wantT_of ?_ ?_ <;> intro q <;> simp -dsimp [q])
      | (refine call_bool (inBR_ok _ _ _) ?_; simp -dsimp)
      | (refine call_bool (moment_ok _) ?_; simp -dsimp)
      | (refine call_bool (isName_ok _ hg) ?_; simp -dsimp)
      | (refine call_bool (isName_ok _ hi) ?_; simp -dsimp)
      | (refine call_bool (isCommand_ok _ hc) ?_; simp -dsimp))
  all_goals simp_all [entE, mom_eq]
end Go.Proofs.P4
end
